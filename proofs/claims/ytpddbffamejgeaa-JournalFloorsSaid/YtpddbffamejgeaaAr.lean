/- Lists of bytes that are read, and held against strings. -/
import Derived.Test.YtpddbffamejgeaaAq
namespace Go.Proofs.Ytpddbffamejgeaa
open Go.RowKit Go.Proofs.YtpddbffamejgeaaW.PrintLast

/-- What is read of a slice of slices of bytes. -/
def ListsIn (w : World) (pa : Option Addr) (L : List (List UInt8)) : Prop :=
  ∀ (i : Nat) (l : List UInt8), L[i]? = some l → ∃ (ad : Addr) (pi : Option Addr) (c : Nat), pa = some ad ∧ w.cell? (ad.add i) = some (.slice pi l.length c) ∧ Src w pi (l.map Bv) ∧ l.length ≤ c ∧ c ≤ maxLen
theorem ListsIn.below {w w' : World} {pa : Option Addr} {L : List (List UInt8)} (h : ListsIn w pa L) (hb : Below w.heap.size w w') : ListsIn w' pa L := fun i l hi => by
  obtain ⟨ad, pi, c, e, hc, hs, r⟩ := h i l hi
  refine ⟨ad, pi, c, e, ?_, hs.below hb, r⟩
  have hlt := block_lt_of_cell hc
  have := hb.block _ hlt
  unfold World.cell? at *
  rw [this]; exact hc
theorem ListsAt.reads {w : World} {F : Nat → Prop} {pa : Option Addr} {n c : Nat} {L : List (List UInt8)} (h : ListsAt w F (.slice pa n c) L) : ListsIn w pa L := fun i l hi => by
  obtain ⟨vs, h1, h2, h3⟩ := h
  obtain ⟨u, pi, ci, hv, hin⟩ := h3 i l hi
  rcases h1.2 with ⟨e, h0⟩ | ⟨g, cap, cur, e, _, hg, hn, _, hs, ht⟩
  · rw [List.eq_nil_of_length_eq_zero h0] at hi; simp at hi
  · cases e
    refine ⟨⟨g, 0, none⟩, pi, ci, rfl, ?_, hin.src, hin.fits, hin.small⟩
    rw [← hin.val]
    have := h1.cells (g := g) rfl i u hv
    exact this
/-- A string as a cell. -/
abbrev Sv (l : List UInt8) : Value := .string (strL l)
theorem strL_toList (l : List UInt8) : (strL l).toList = l := ByteArray.toList_mk l
theorem strL_eqv (a b : List UInt8) : ((strL a).toList == (strL b).toList) = (a == b) := by rw [strL_toList, strL_toList]
theorem runs_convert_str {o : Oper} {a : Act} {w : World} (x : Operand) (ho : o.op = .convert 23 9 x) (pa : Option Addr) (l : List UInt8) (n cap : Nat) (hn : n = l.length) (hx : a.eval x = .slice pa n cap) (hs : Src w pa (l.map Bv)) : (execOp a.eval o).run Try.prog w = .ok (.value (Sv l)) w := by
  subst hn
  unfold execOp
  simp only [ho, hx, Sem.run_bind, run_toString hs, Result.andThen_ok, Sem.run_pure]

def BoolPost (w : World) (b : Bool) (e : Ending) (w' : World) : Prop := e = .returned (.bool b) ∧ Below w.heap.size w w'
set_option maxRecDepth 100000 in
set_option maxHeartbeats 800000 in
theorem same_any (w : World) (pa pb : Option Addr) (L T : List (List UInt8)) (ca cb : Nat) (hL : ListsIn w pa L) (hT : Src w pb (T.map Sv)) (hl : L.length ≤ 1000000) :
    Calls Try.prog 40 #[.slice pa L.length ca, .slice pb T.length cb] w (BoolPost w (L == T)) := by
  obtain ⟨x, hx⟩ : ∃ x, x = (L == T) := ⟨_, rfl⟩
  rw [← hx]
  by_cases hn : L.length = T.length
  · have hx2 : (∀ i : Nat, i < L.length → L[i]? = T[i]?) → x = true := fun h => by
      rw [hx, beq_iff_eq]
      apply List.ext_getElem?
      intro i
      rcases Nat.lt_or_ge i L.length with h1 | h1
      · exact h i h1
      · rw [List.getElem?_eq_none h1, List.getElem?_eq_none (by omega)]
    have hx3 : ∀ i : Nat, L[i]? ≠ T[i]? → x = false := fun i h => by
      rw [hx, beq_eq_false_iff_ne]
      intro e; rw [e] at h; exact h rfl
    have hne : ((L.length : Int) != (T.length : Int)) = false := by simp [hn]
    have HX2 := Lib.hid hx2
    have HX3 := Lib.hid hx3
    have HL := Lib.hid hL
    have HT := Lib.hid hT
    have HN := Lib.hid hn
    clear hx hx2 hx3 hL hT hn
    go_enter Try.func40, Try.ntmps40
    go_wp2_with fail
    go_loopw [13] (fun k wr => ∃ j : Nat, j ≤ L.length ∧ k = .int .i64 j ∧ Hid (∀ i : Nat, i < j → L[i]? = T[i]?) ∧ Hid (Below w.heap.size w wr))
      (fun k _ => L.length - (intOf k).toNat)
    case atStart => exact ⟨0, by omega, rfl, fun i hi => by omega, Below.refl _ _⟩
    case round =>
      obtain ⟨j, hj, rfl, hall, hb⟩ := hrel
      by_cases hlt : j < L.length
      · obtain ⟨l, hlj⟩ : ∃ l, L[j]? = some l := ⟨L[j], List.getElem?_eq_getElem hlt⟩
        obtain ⟨t, htj⟩ : ∃ t, T[j]? = some t := ⟨T[j]'(by rw [← HN.out]; exact hlt), List.getElem?_eq_getElem _⟩
        obtain ⟨ad, pi, ci, rfl, hc, hs, hf, hm⟩ := (HL.out.below hb.out) j l hlj
        obtain ⟨bd, rfl, hct⟩ := (HT.out.below hb.out) (by simp; rw [← HN.out]; omega)
        have hct := hct j (Sv t) (by simp [htj])
        have hjT : j < T.length := by rw [← HN.out]; exact hlt
        have HLJ := Lib.hid hlj
        have HTJ := Lib.hid htj
        have HC := Lib.hid hc
        have HS := Lib.hid hs
        have HCT := Lib.hid hct
        have HB := hb
        clear hlj htj hc hs hct
        go_upto_region 6 with fail
--B6
        refine start_ (n := 10) (S := fun w' => w'.cell? (ad.add j) = some (.slice pi l.length ci) ∧ w'.cell? (bd.add j) = some (Sv t) ∧ Src w' pi (l.map Bv)) (ds := []) #[false, false, false, false, false, false, false, false, false, false] (by kernel_rfl) rfl rfl ⟨HC.out, HCT.out, HS.out⟩ (fun hHeld => ?_)
        refine pure_ (i := 0) (N := some 16) (v := ?_) (a' := ?_) #[true, false, false, false, false, false, false, false, false, false] rfl rfl (by kernel_rfl) (fun _ _ _ h => h) (Or.inl ⟨by rfl, ?_⟩) ?_ ?_
        rotate_left
        · intro w'
          go_simp
          with_reducible rfl
        rotate_left
        · simp only [Act.put, List.setIfInBounds_toArray, List.set_cons_zero, List.set_cons_succ]
          rfl
        refine pure_ (i := 1) (N := some 17) (v := ?_) (a' := ?_) #[true, true, false, false, false, false, false, false, false, false] rfl rfl (by kernel_rfl) (fun _ _ _ h => h) (Or.inl ⟨by rfl, ?_⟩) ?_ ?_
        rotate_left
        · intro w'
          go_simp
          with_reducible rfl
        rotate_left
        · simp only [Act.put, List.setIfInBounds_toArray, List.set_cons_zero, List.set_cons_succ]
          rfl
        refine pure_ (i := 2) (N := some 18) (v := ?_) (a' := ?_) #[true, true, true, false, false, false, false, false, false, false] rfl rfl (by kernel_rfl) (fun _ _ _ h => h) (Or.inl ⟨by rfl, ?_⟩) ?_ ?_
        rotate_left
        · intro w'
          go_simp
          with_reducible rfl
        rotate_left
        · simp only [Act.put, List.setIfInBounds_toArray, List.set_cons_zero, List.set_cons_succ]
          rfl
        refine pure_ (i := 5) (N := some 21) (v := ?_) (a' := ?_) #[true, true, true, false, false, true, false, false, false, false] rfl rfl (by kernel_rfl) (fun _ _ _ h => h) (Or.inl ⟨by rfl, ?_⟩) ?_ ?_
        rotate_left
        · intro w'
          go_simp
          with_reducible rfl
        rotate_left
        · simp only [Act.put, List.setIfInBounds_toArray, List.set_cons_zero, List.set_cons_succ]
          rfl
        refine pure_ (i := 6) (N := some 22) (v := ?_) (a' := ?_) #[true, true, true, false, false, true, true, false, false, false] rfl rfl (by kernel_rfl) (fun _ _ _ h => h) (Or.inl ⟨by rfl, ?_⟩) ?_ ?_
        rotate_left
        · intro w'
          go_simp
          with_reducible rfl
        rotate_left
        · simp only [Act.put, List.setIfInBounds_toArray, List.set_cons_zero, List.set_cons_succ]
          rfl
        refine pure_ (i := 7) (N := some 23) (v := ?_) (a' := ?_) #[true, true, true, false, false, true, true, true, false, false] rfl rfl (by kernel_rfl) (fun _ _ _ h => h) (Or.inl ⟨by rfl, ?_⟩) ?_ ?_
        rotate_left
        · intro w'
          go_simp
          with_reducible rfl
        rotate_left
        · simp only [Act.put, List.setIfInBounds_toArray, List.set_cons_zero, List.set_cons_succ]
          rfl
        refine take_ (i := 3) (N := some 19) (v := ?_) (a' := ?_) #[true, true, true, true, false, true, true, true, false, false] rfl rfl (by kernel_rfl) (fun _ _ _ h => h) (Or.inl ⟨by rfl, ?_⟩) hHeld ?_ ?_
        rotate_left
        · rintro w' ⟨s0, s1, s2⟩
          go_simp
          with_reducible rfl
        rotate_left
        · simp only [Act.put, List.setIfInBounds_toArray, List.set_cons_zero, List.set_cons_succ]
          rfl
        refine take_ (i := 4) (N := some 20) (v := Sv l) (a' := ?_) #[true, true, true, true, true, true, true, true, false, false] rfl rfl (by kernel_rfl) (fun _ _ _ h => h) (Or.inl ⟨by rfl, ?_⟩) hHeld ?_ ?_
        · rintro w' ⟨s0, s1, s2⟩
          exact runs_convert_str (.tmp 19) rfl pi l l.length ci rfl (by rfl) s2
        rotate_left
        · simp only [Act.put, List.setIfInBounds_toArray, List.set_cons_zero, List.set_cons_succ]
          rfl
        refine take_ (i := 8) (N := some 24) (v := ?_) (a' := ?_) #[true, true, true, true, true, true, true, true, true, false] rfl rfl (by kernel_rfl) (fun _ _ _ h => h) (Or.inl ⟨by rfl, ?_⟩) hHeld ?_ ?_
        rotate_left
        · rintro w' ⟨s0, s1, s2⟩
          go_simp
          with_reducible rfl
        rotate_left
        · simp only [Act.put, List.setIfInBounds_toArray, List.set_cons_zero, List.set_cons_succ]
          rfl
        refine pure_ (i := 9) (N := some 25) (v := ?_) (a' := ?_) #[true, true, true, true, true, true, true, true, true, true] rfl rfl (by kernel_rfl) (fun _ _ _ h => h) (Or.inl ⟨by rfl, ?_⟩) ?_ ?_
        rotate_left
        · intro w'
          go_simp
          with_reducible rfl
        rotate_left
        · simp only [Act.put, List.setIfInBounds_toArray, List.set_cons_zero, List.set_cons_succ]
          rfl
        refine done_ (by kernel_rfl) ?_
--E6
        go_wp2
        all_goals
          rename_i hq0
          first
            | (have hq : l = t := by simpa [strL_toList] using hq0
               have HQ := Lib.hid hq
               clear hq hq0
               go_roundw
               case rel =>
                 refine ⟨j + 1, by omega, by go_num, fun i hi => ?_, HB.out.drew⟩
                 by_cases hij : i = j
                 · subst hij; rw [HLJ.out, HTJ.out, HQ.out]
                 · exact hall.out i (by omega)
               case measure => simp [intOf]; omega)
            | (have hq : l ≠ t := by simpa [strL_toList] using hq0
               have hxt : x = false := HX3.out j (by rw [HLJ.out, HTJ.out]; intro e; exact hq (Option.some.inj e))
               have HXT := Lib.hid hxt
               clear hq hxt
               go_ret
               rw [HXT.out]
               exact ⟨rfl, HB.out.drew⟩)
      · obtain rfl : j = L.length := by omega
        have hxt : x = true := HX2.out hall.out
        have HXT := Lib.hid hxt
        clear hxt
        go_wp2
        go_ret
        rw [HXT.out]
        exact ⟨rfl, hb.out⟩
  · have hxf : x = false := by
      rw [hx, beq_eq_false_iff_ne]
      intro e; rw [e] at hn; exact hn rfl
    have hne : ((L.length : Int) != (T.length : Int)) = true := by simp; omega
    subst hxf
    clear hx hn
    go_enter Try.func40, Try.ntmps40
    go_wp2
    go_ret
    exact ⟨rfl, Below.refl _ _⟩

end Go.Proofs.Ytpddbffamejgeaa
