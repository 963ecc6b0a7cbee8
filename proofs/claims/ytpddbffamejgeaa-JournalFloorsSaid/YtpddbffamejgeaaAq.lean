/- log: Append. -/
import Derived.Test.YtpddbffamejgeaaAp
namespace Go.Proofs.Ytpddbffamejgeaa
open Go.RowKit Go.Proofs.YtpddbffamejgeaaW.PrintLast

theorem puts_len (a t s : Nat) (b : List UInt8) : ∀ (n i : Nat) (d : DS), (d.puts a t s b i n).1.size = d.size ∧ (d.puts a t s b i n).1.queue.length ≤ d.queue.length + n
  | 0, i, d => ⟨rfl, by simp [DS.puts]⟩
  | n + 1, i, d => by
    have h1 := put_len d (a + i) (secOf t s b i)
    simp only [DS.puts]
    split
    · have h2 := puts_len a t s b n (i + 1) (d.put (a + i) (secOf t s b i)).1
      exact ⟨by rw [h2.1, h1.1], by omega⟩
    · exact ⟨h1.1, by omega⟩
theorem write_len (d : DS) (a : Int) (s : Nat) (b : List UInt8) : (d.write a s b).1.size = d.size ∧ (d.write a s b).1.queue.length ≤ d.queue.length + 255 := by
  unfold DS.write
  split
  · exact ⟨rfl, by simp⟩
  split
  · exact ⟨rfl, by simp⟩
  have h1 := puts_len a.toNat (spanN b.length) s b (spanN b.length) 0 d
  have h2 := spanN_le b.length
  exact ⟨h1.1, by omega⟩
theorem Moves.widen {w w' : World} {role role' : Nat → Option Own} (h : Moves w role w' role') (g : Nat) (o : Own) : Moves w (roleSet role g o) w' (roleSet role' g o) where
  os := h.os
  tape := h.tape
  output := h.output
  size := h.size
  block := fun k hk hn => by
    simp only [roleSet] at hn
    split at hn
    · cases hn
    · exact h.block k hk hn
  old := fun k hk hn => by
    simp only [roleSet] at hn ⊢
    split at hn
    · cases hn
    · rename_i hne; rw [if_neg hne]; exact h.old k hk hn
/-- A record more: the disk, the log, what is answered. -/
def appendD (d : DS) (l : LogV) (b : List UInt8) : DS × LogV × Nat :=
  if needN b.length = 0 then (d, l, 101)
  else if needN b.length > l.end_ - l.at_ then (d, l, 102)
  else if (d.write l.at_ l.stamp (sealedN b)).2 ≠ 0 then ((d.write l.at_ l.stamp (sealedN b)).1, l, (d.write l.at_ l.stamp (sealedN b)).2)
  else if (d.write l.at_ l.stamp (sealedN b)).1.flush.2 ≠ 0 then ((d.write l.at_ l.stamp (sealedN b)).1.flush.1, l, (d.write l.at_ l.stamp (sealedN b)).1.flush.2)
  else ((d.write l.at_ l.stamp (sealedN b)).1.flush.1, ⟨l.at_ + needN b.length, l.end_, (l.stamp + 1) % 18446744073709551616⟩, 0)
def AppendPost (p g : Nat) (role : Nat → Option Own) (x : DS × LogV × Nat) (w : World) (e : Ending) (w' : World) : Prop :=
  e = .returned (.int .i64 (x.2.2 : Nat)) ∧ ∃ role', DiskAt w' p role' x.1 ∧ Row w' g (x.2.1.cells p) 142 ∧ role' g = none ∧ Moves w (roleSet role g .fuse) w' (roleSet role' g .fuse)

theorem DiskAt.off {w : World} {p : Nat} {role : Nat → Option Own} {d : DS} (h : DiskAt w p role d) {k : Nat} (hk : w.heap.size ≤ k) : role k = none := by
  cases hr : role k with
  | none => rfl
  | some o => have := h.inn k (by rw [hr]; simp); omega
theorem barg_made {w w3 : World} {p : Nat} {role : Nat → Option Own} {d : DS} (h : DiskAt w p role d) {oa : Option Addr} {l : List UInt8} {oc : Nat} (hs : Src w3 oa (l.map Bv)) (hf : l.length ≤ oc) (hm : oc ≤ maxLen) (ho : ∀ ad, oa = some ad → w.heap.size ≤ ad.block ∧ ad.block < w3.heap.size) : BArg w3 role oa l oc where
  src := hs
  off := fun _ ad e => h.off (ho ad e).1
  fits := hf
  small := by unfold maxLen at hm; omega
theorem DiskAt.setCell {w : World} {p : Nat} {role : Nat → Option Own} {d : DS} (h : DiskAt w p role d) {g : Nat} (hr : role g = none) (j : Nat) (v : Value) : DiskAt (w.setCell ⟨g, j, none⟩ v) p role d :=
  h.keep (fun k hk => heap_setCell_other _ _ _ _ (fun e => hk (by rw [e]; exact hr))) (by simp [World.setCell])

set_option maxRecDepth 100000 in
set_option maxHeartbeats 1600000 in
theorem append_any {w : World} {p g : Nat} {role : Nat → Option Own} {d : DS} {l : LogV} (h : DiskAt w p role d) (hg : Row w g (l.cells p) 142) (hr : role g = none) (hle : l.at_ ≤ l.end_) (hend : l.end_ ≤ d.size) (hst : l.stamp < 18446744073709551616)
    (b : List UInt8) (ba : Option Addr) (bc : Nat) (hb : BArg w role ba b bc) (hbl : b.length ≤ 900000) (hq : d.queue.length ≤ 800000) :
    Calls Try.prog 37 #[.pointer (some ⟨g, 0, none⟩), .slice ba b.length bc] w (AppendPost p g role (appendD d l b) w) := by
  obtain ⟨X, hX⟩ : ∃ X, X = appendD d l b := ⟨_, rfl⟩
  rw [← hX]
  obtain ⟨a, z, st⟩ := l
  have hle' : a ≤ z := hle
  have hend' : z ≤ d.size := hend
  have hst' : st < 18446744073709551616 := hst
  have hsz : d.size ≤ 2048 := by obtain ⟨M, a1, a2, f, hh⟩ := h; exact hh.sz
  unfold appendD at hX
  simp only at hX
  obtain ⟨n, hn⟩ : ∃ n, n = needN b.length := ⟨_, rfl⟩
  have hneed := need_any b.length (by omega)
  rw [← hn] at hneed hX
  have hn2 : n ≤ 255 := by rw [hn]; unfold needN; split; omega; exact spanN_le _
  have hroom : ∀ W, Row W g (LogV.cells p ⟨a, z, st⟩) 142 → Calls Try.prog 38 #[.pointer (some ⟨g, 0, none⟩)] W fun e w' => e = .returned (.int .i64 ((z - a : Nat) : Int)) ∧ Below W.heap.size W w' := fun W hW => logroom_any hW hle' (by show z ≤ 2048; omega)
  obtain ⟨y, hy⟩ : ∃ y, y = z - a := ⟨_, rfl⟩
  rw [← hy] at hroom hX
  have HX := Lib.hid hX
  have HN := Lib.hid hneed
  have HRM := Lib.hid hroom
  have HD := Lib.hid h
  have HG := Lib.hid hg
  have HR := Lib.hid hr
  have HB := Lib.hid hb
  have HNE := Lib.hid hn
  clear hX hneed hroom h hg hr hb hn hle hend hst
  by_cases h0 : n = 0
  · have hx : X = (d, ⟨a, z, st⟩, 101) := by have := HX.out; rwa [if_pos h0] at this
    have h0' : ((n : Int) == 0) = true := by simp [h0]
    have HX2 := Lib.hid hx
    clear hx h0
    go_enter Try.func37, Try.ntmps37
    go_wp2_with (go_at_call 36; refine (HN.out _).mono ?_; rintro e w' ⟨rfl, rfl⟩)
    go_ret
    rw [HX2.out]
    exact ⟨rfl, role, HD.out, HG.out, HR.out, Moves.refl _ _⟩
  have h0' : ((n : Int) == 0) = false := by simp; omega
  have hX1 := HX.out
  rw [if_neg h0] at hX1
  have HX1 := Lib.hid hX1
  clear hX1 HX
  by_cases hf : y < n
  · have hx : X = (d, ⟨a, z, st⟩, 102) := by have := HX1.out; rwa [if_pos hf] at this
    have HX2 := Lib.hid hx
    clear hx HX1
    go_enter Try.func37, Try.ntmps37
    go_wp2_with (first
      | (go_at_call 36; refine (HN.out _).mono ?_; rintro e w' ⟨rfl, rfl⟩)
      | (go_at_call 38; refine (HRM.out _ HG.out).mono ?_; rintro e w1 ⟨rfl, hb1⟩; have HB1 := Lib.hid hb1; clear hb1))
    go_ret
    rw [HX2.out]
    exact ⟨rfl, role, HD.out.below HB1.out, HG.out.below HB1.out HG.out.lt, HR.out, Moves.of_below HB1.out⟩
  have hX2 := HX1.out
  rw [if_neg hf] at hX2
  obtain ⟨x, hx⟩ : ∃ x, x = d.write a st (sealedN b) := ⟨_, rfl⟩
  have hxl := write_len d a st (sealedN b)
  rw [← hx] at hX2 hxl
  have hW : ∀ W oa oc, DiskAt W p role d → BArg W role oa (sealedN b) oc → Calls Try.prog 17 #[.pointer (some ⟨p, 0, none⟩), .int .i64 a, .int .u64 st, .slice oa (sealedN b).length oc] W (PutPost p role x W) := fun W oa oc h1 h2 => by
    rw [hx]; exact write_any h1 a (by omega) (by omega) st hst' oa (sealedN b) oc h2 (by omega)
  have hC : ∀ W, Below w.heap.size w W → Calls Try.prog 81 #[.slice ba b.length bc] W (MadePost W (sealedN b)) := fun W h1 => close_any W b ba bc (HB.out.src.below h1) (by omega)
  obtain ⟨y2, hy2⟩ : ∃ y2, y2 = x.1.flush := ⟨_, rfl⟩
  rw [← hy2] at hX2
  have hFl : ∀ W r, DiskAt W p r x.1 → Calls Try.prog 24 #[.pointer (some ⟨p, 0, none⟩)] W (FlushPost p r x.1 W) := fun W r h1 => flush_any h1 (by omega)
  unfold FlushPost at hFl
  rw [← hy2] at hFl
  have hf' : ¬ (y : Int) < n := by omega
  have HX2 := Lib.hid hX2
  have HW := Lib.hid hW
  have HC := Lib.hid hC
  have HFl := Lib.hid hFl
  have HF : Hid (∀ W, Row W g (LogV.cells p ⟨a, z, st⟩) 142 → W.cell? ⟨g, 0, none⟩ = some (.pointer (some ⟨p, 0, none⟩)) ∧ W.cell? ⟨g, 1, none⟩ = some (.int .i64 (a : Nat)) ∧ W.cell? ⟨g, 3, none⟩ = some (.int .u64 (st : Nat))) := Lib.hid fun W hW => ⟨(LogV.facts hW).1, (LogV.facts hW).2.1, (LogV.facts hW).2.2.2⟩
  clear hX2 hW hC hFl hx hy2 HX1 hxl
  go_enter Try.func37, Try.ntmps37
  go_upto_region 6 with (first
    | (go_at_call 36; refine (HN.out _).mono ?_; rintro e w' ⟨rfl, rfl⟩)
    | (go_at_call 38; refine (HRM.out _ HG.out).mono ?_; rintro e w1 ⟨rfl, hb1⟩; have HB1 := Lib.hid hb1; clear hb1))
  have HBD := Lib.hid HB1.out.drew
  have HD1 := Lib.hid (HD.out.below HBD.out)
  have HG1 := Lib.hid (HG.out.below HBD.out HG.out.lt)
  clear HRM HN HD HG HB1
--B6
  refine start_ (n := 16) (S := fun w' => w'.cell? ⟨g, 0, none⟩ = some (.pointer (some ⟨p, 0, none⟩)) ∧ w'.cell? ⟨g, 1, none⟩ = some (.int .i64 (a : Nat)) ∧ w'.cell? ⟨g, 3, none⟩ = some (.int .u64 (st : Nat))) (ds := []) #[false, false, false, false, false, false, false, false, false, false, false, false, false, false, false, false] (by kernel_rfl) rfl rfl ⟨(HF.out _ HG1.out).1, (HF.out _ HG1.out).2.1, (HF.out _ HG1.out).2.2⟩ (fun hHeld => ?_)
  refine pure_ (i := 0) (N := some 19) (v := ?_) (a' := ?_) #[true, false, false, false, false, false, false, false, false, false, false, false, false, false, false, false] rfl rfl (by kernel_rfl) (fun _ _ _ h => h) (Or.inl ⟨by rfl, ?_⟩) ?_ ?_
  rotate_left
  · intro w'
    go_simp
    with_reducible rfl
  rotate_left
  · simp only [Act.put, List.setIfInBounds_toArray, List.set_cons_zero, List.set_cons_succ]
    rfl
  refine pure_ (i := 1) (N := some 20) (v := ?_) (a' := ?_) #[true, true, false, false, false, false, false, false, false, false, false, false, false, false, false, false] rfl rfl (by kernel_rfl) (fun _ _ _ h => h) (Or.inl ⟨by rfl, ?_⟩) ?_ ?_
  rotate_left
  · intro w'
    go_simp
    with_reducible rfl
  rotate_left
  · simp only [Act.put, List.setIfInBounds_toArray, List.set_cons_zero, List.set_cons_succ]
    rfl
  refine pure_ (i := 2) (N := some 21) (v := ?_) (a' := ?_) #[true, true, true, false, false, false, false, false, false, false, false, false, false, false, false, false] rfl rfl (by kernel_rfl) (fun _ _ _ h => h) (Or.inl ⟨by rfl, ?_⟩) ?_ ?_
  rotate_left
  · intro w'
    go_simp
    with_reducible rfl
  rotate_left
  · simp only [Act.put, List.setIfInBounds_toArray, List.set_cons_zero, List.set_cons_succ]
    rfl
  refine pure_ (i := 4) (N := some 23) (v := ?_) (a' := ?_) #[true, true, true, false, true, false, false, false, false, false, false, false, false, false, false, false] rfl rfl (by kernel_rfl) (fun _ _ _ h => h) (Or.inl ⟨by rfl, ?_⟩) ?_ ?_
  rotate_left
  · intro w'
    go_simp
    with_reducible rfl
  rotate_left
  · simp only [Act.put, List.setIfInBounds_toArray, List.set_cons_zero, List.set_cons_succ]
    rfl
  refine pure_ (i := 5) (N := some 24) (v := ?_) (a' := ?_) #[true, true, true, false, true, true, false, false, false, false, false, false, false, false, false, false] rfl rfl (by kernel_rfl) (fun _ _ _ h => h) (Or.inl ⟨by rfl, ?_⟩) ?_ ?_
  rotate_left
  · intro w'
    go_simp
    with_reducible rfl
  rotate_left
  · simp only [Act.put, List.setIfInBounds_toArray, List.set_cons_zero, List.set_cons_succ]
    rfl
  refine pure_ (i := 6) (N := some 25) (v := ?_) (a' := ?_) #[true, true, true, false, true, true, true, false, false, false, false, false, false, false, false, false] rfl rfl (by kernel_rfl) (fun _ _ _ h => h) (Or.inl ⟨by rfl, ?_⟩) ?_ ?_
  rotate_left
  · intro w'
    go_simp
    with_reducible rfl
  rotate_left
  · simp only [Act.put, List.setIfInBounds_toArray, List.set_cons_zero, List.set_cons_succ]
    rfl
  refine pure_ (i := 8) (N := some 27) (v := ?_) (a' := ?_) #[true, true, true, false, true, true, true, false, true, false, false, false, false, false, false, false] rfl rfl (by kernel_rfl) (fun _ _ _ h => h) (Or.inl ⟨by rfl, ?_⟩) ?_ ?_
  rotate_left
  · intro w'
    go_simp
    with_reducible rfl
  rotate_left
  · simp only [Act.put, List.setIfInBounds_toArray, List.set_cons_zero, List.set_cons_succ]
    rfl
  refine pure_ (i := 9) (N := some 28) (v := ?_) (a' := ?_) #[true, true, true, false, true, true, true, false, true, true, false, false, false, false, false, false] rfl rfl (by kernel_rfl) (fun _ _ _ h => h) (Or.inl ⟨by rfl, ?_⟩) ?_ ?_
  rotate_left
  · intro w'
    go_simp
    with_reducible rfl
  rotate_left
  · simp only [Act.put, List.setIfInBounds_toArray, List.set_cons_zero, List.set_cons_succ]
    rfl
  refine pure_ (i := 10) (N := some 29) (v := ?_) (a' := ?_) #[true, true, true, false, true, true, true, false, true, true, true, false, false, false, false, false] rfl rfl (by kernel_rfl) (fun _ _ _ h => h) (Or.inl ⟨by rfl, ?_⟩) ?_ ?_
  rotate_left
  · intro w'
    go_simp
    with_reducible rfl
  rotate_left
  · simp only [Act.put, List.setIfInBounds_toArray, List.set_cons_zero, List.set_cons_succ]
    rfl
  refine pure_ (i := 12) (N := some 31) (v := ?_) (a' := ?_) #[true, true, true, false, true, true, true, false, true, true, true, false, true, false, false, false] rfl rfl (by kernel_rfl) (fun _ _ _ h => h) (Or.inl ⟨by rfl, ?_⟩) ?_ ?_
  rotate_left
  · intro w'
    go_simp
    with_reducible rfl
  rotate_left
  · simp only [Act.put, List.setIfInBounds_toArray, List.set_cons_zero, List.set_cons_succ]
    rfl
  refine take_ (i := 3) (N := some 22) (v := ?_) (a' := ?_) #[true, true, true, true, true, true, true, false, true, true, true, false, true, false, false, false] rfl rfl (by kernel_rfl) (fun _ _ _ h => h) (Or.inl ⟨by rfl, ?_⟩) hHeld ?_ ?_
  rotate_left
  · rintro w' ⟨s0, s1, s2⟩
    go_simp
    with_reducible rfl
  rotate_left
  · simp only [Act.put, List.setIfInBounds_toArray, List.set_cons_zero, List.set_cons_succ]
    rfl
  refine take_ (i := 7) (N := some 26) (v := ?_) (a' := ?_) #[true, true, true, true, true, true, true, true, true, true, true, false, true, false, false, false] rfl rfl (by kernel_rfl) (fun _ _ _ h => h) (Or.inl ⟨by rfl, ?_⟩) hHeld ?_ ?_
  rotate_left
  · rintro w' ⟨s0, s1, s2⟩
    go_simp
    with_reducible rfl
  rotate_left
  · simp only [Act.put, List.setIfInBounds_toArray, List.set_cons_zero, List.set_cons_succ]
    rfl
  refine take_ (i := 11) (N := some 30) (v := ?_) (a' := ?_) #[true, true, true, true, true, true, true, true, true, true, true, true, true, false, false, false] rfl rfl (by kernel_rfl) (fun _ _ _ h => h) (Or.inl ⟨by rfl, ?_⟩) hHeld ?_ ?_
  rotate_left
  · rintro w' ⟨s0, s1, s2⟩
    go_simp
    with_reducible rfl
  rotate_left
  · simp only [Act.put, List.setIfInBounds_toArray, List.set_cons_zero, List.set_cons_succ]
    rfl
  refine one_ (i := 13) (N := some 32) #[true, true, true, true, true, true, true, true, true, true, true, true, true, true, false, false] rfl rfl (by kernel_rfl) (by decide) (fun K hK => ?_)
  refine goes_ Try.func81 (by kernel_rfl) rfl #[.slice ba b.length bc] (by rfl) rfl rfl (by simp only [List.map_toArray, List.map_cons, List.map_nil]; rfl) ?_
  with_reducible refine (HC.out _ HBD.out).mono ?_
  rintro e w3 ⟨v3, rfl, hown3, hb3⟩
  refine ⟨_, rfl, ?_⟩
  obtain ⟨oa, oc, rfl, hs3, hf3, hm3, ho3⟩ := owns_at hown3
  have HBA := Lib.hid (barg_made HD1.out hs3 hf3 hm3 ho3)
  have HD3 := Lib.hid (HD1.out.below hb3)
  have HG3 := Lib.hid (HG1.out.below hb3 HG1.out.lt)
  have HB3 := Lib.hid (HBD.out.trans (hb3.mono HBD.out.size))
  clear hown3 hb3 hs3 ho3
  refine hK.out _ _ ⟨(HF.out _ HG3.out).1, (HF.out _ HG3.out).2.1, (HF.out _ HG3.out).2.2⟩ (fun hHeld => ?_)
  clear hK K
  refine norm_ (a' := ?_) ?_ ?_
  rotate_left
  · show Act.put _ (some 32) _ = _
    simp only [Act.put, List.setIfInBounds_toArray, List.set_cons_zero, List.set_cons_succ]
    rfl
  refine one_ (i := 14) (N := some 33) #[true, true, true, true, true, true, true, true, true, true, true, true, true, true, true, false] rfl rfl (by kernel_rfl) (by decide) (fun K hK => ?_)
  refine goes_ Try.func17 (by kernel_rfl) rfl #[.pointer (some ⟨p, 0, none⟩), .int .i64 a, .int .u64 st, .slice oa (sealedN b).length oc] (by rfl) rfl rfl (by simp only [List.map_toArray, List.map_cons, List.map_nil]; rfl) ?_
  with_reducible refine (HW.out _ _ _ HD3.out HBA.out).mono ?_
  rintro e w4 ⟨rfl, r4, hd4, hm4⟩
  refine ⟨_, rfl, ?_⟩
  have HG4 := Lib.hid (hm4.row HG3.out HR.out)
  have HR4 := Lib.hid (hm4.old _ HG3.out.lt HR.out)
  have HD4 := Lib.hid hd4
  have HM4 := Lib.hid ((Moves.of_below HB3.out).trans hm4)
  clear hd4 hm4
  refine hK.out _ _ ⟨(HF.out _ HG4.out).1, (HF.out _ HG4.out).2.1, (HF.out _ HG4.out).2.2⟩ (fun hHeld => ?_)
  clear hK K
  refine norm_ (a' := ?_) ?_ ?_
  rotate_left
  · show Act.put _ (some 33) _ = _
    simp only [Act.put, List.setIfInBounds_toArray, List.set_cons_zero, List.set_cons_succ]
    rfl
  refine pure_ (i := 15) (N := some 6) (v := ?_) (a' := ?_) #[true, true, true, true, true, true, true, true, true, true, true, true, true, true, true, true] rfl rfl (by kernel_rfl) (fun _ _ _ h => h) (Or.inl ⟨by rfl, ?_⟩) ?_ ?_
  rotate_left
  · intro w'
    go_simp
    with_reducible rfl
  rotate_left
  · simp only [Act.put, List.setIfInBounds_toArray, List.set_cons_zero, List.set_cons_succ]
    rfl
  refine done_ (by kernel_rfl) ?_
--E6
  clear hHeld HF HC HW HBD HD1 HG1 HB HBA HD3 HG3 HB3
  by_cases hx0 : x.2 = 0
  · have hx0' : ((x.2 : Int) != 0) = false := by simp [hx0]
    by_cases hy0 : y2.2 = 0
    · have hy0' : ((y2.2 : Int) != 0) = false := by simp [hy0]
      have hX3 : X = (y2.1, ⟨a + n, z, (st + 1) % 18446744073709551616⟩, 0) := by
        have := HX2.out
        rwa [if_neg (by omega), if_neg (by omega)] at this
      have HX3 := Lib.hid hX3
      have C0 := (LogV.facts HG4.out).1
      clear hX3 HX2 hx0 hy0
      go_upto_region 12 with (go_at_call 24; refine (HFl.out _ _ HD4.out).mono ?_; rintro e w5 ⟨rfl, hd5, hm5⟩; have HD5 := Lib.hid hd5; have HG5 := Lib.hid (hm5.row HG4.out HR4.out); have HM5 := Lib.hid (HM4.out.trans hm5); clear hd5 hm5)
      have C1 : w5.cell? ⟨g, 1, none⟩ = some (.int .i64 (a : Nat)) := (LogV.facts HG5.out).2.1
      have C3 : w5.cell? ⟨g, 3, none⟩ = some (.int .u64 (st : Nat)) := (LogV.facts HG5.out).2.2.2
      have F1 : w5.frozen? ⟨g, 1, none⟩ = false := HG5.out.thaw 1
      have F3 : w5.frozen? ⟨g, 3, none⟩ = false := HG5.out.thaw 3
      clear C0
      have hk1 : ∀ n1 n2 : Int, n1 = ((a + n : Nat) : Int) → n2 = (((st + 1) % 18446744073709551616 : Nat) : Int) → AppendPost p g role X w (.returned (.int .i64 0)) ((w5.setCell ⟨g, 1, none⟩ (.int .i64 n1)).setCell ⟨g, 3, none⟩ (.int .u64 n2)) := fun n1 n2 e1 e2 => by
        rw [HX3.out]
        refine ⟨rfl, r4, (HD5.out.setCell HR4.out 1 _).setCell HR4.out 3 _, ?_, HR4.out, ?_⟩
        · have := ((HG5.out.set 1 (.int .i64 n1)).set 3 (.int .u64 n2))
          rw [e1, e2] at this ⊢
          exact this
        · exact ((HM5.out.widen g .fuse).trans (Moves.setCell _ _ (by simp [roleSet]))).trans (Moves.setCell _ _ (by simp [roleSet]))
      have HK1 := Lib.hid hk1
      clear hk1
      go_wp2
      go_ret
      exact HK1.out _ _ (by omega) (by rw [u64_wrap]; omega)
    · have hy0' : ((y2.2 : Int) != 0) = true := by simp [hy0]
      have hX3 : X = (y2.1, ⟨a, z, st⟩, y2.2) := by
        have := HX2.out
        rwa [if_neg (by omega), if_pos hy0] at this
      have HX3 := Lib.hid hX3
      have C0 := (LogV.facts HG4.out).1
      clear hX3 HX2 hx0 hy0
      go_wp2_with (go_at_call 24; refine (HFl.out _ _ HD4.out).mono ?_; rintro e w5 ⟨rfl, hd5, hm5⟩; have HD5 := Lib.hid hd5; have HG5 := Lib.hid (hm5.row HG4.out HR4.out); have HM5 := Lib.hid (HM4.out.trans hm5); clear hd5 hm5)
      go_ret
      rw [HX3.out]
      exact ⟨rfl, r4, HD5.out, HG5.out, HR4.out, HM5.out.widen g .fuse⟩
  · have hx0' : ((x.2 : Int) != 0) = true := by simp [hx0]
    have hX3 : X = (x.1, ⟨a, z, st⟩, x.2) := by
      have := HX2.out
      rwa [if_pos hx0] at this
    have HX3 := Lib.hid hX3
    clear hX3 HX2 hx0
    go_wp2
    go_ret
    rw [HX3.out]
    exact ⟨rfl, r4, HD4.out, HG4.out, HR4.out, HM4.out.widen g .fuse⟩

end Go.Proofs.Ytpddbffamejgeaa
