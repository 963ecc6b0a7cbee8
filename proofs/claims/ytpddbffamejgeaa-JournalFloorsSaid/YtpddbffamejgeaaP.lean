import Derived.Test.YtpddbffamejgeaaG
import Derived.Deep.Cut
import Derived.Deep.RegionLaw
import Derived.Deep.RegionHeld3
import Derived.Test.YtpddbffamejgeaaWLast
import Derived.Deep.AppendLies
namespace Go.Proofs.Ytpddbffamejgeaa
open Go.RowKit Go.Proofs.YtpddbffamejgeaaW.PrintLast

theorem info126 : (Try.prog.info? 126).map (fun i => (i.zero, i.size, i.bytes)) = some (some (.agg #[.int .i64 0, .int .i64 0]), 2, 16) := by kernel_rfl

/-- What is found at a key, in each world in which the map is as it was. -/
theorem looks {M : Nat} {f : Int → Option Value} {k : Int} {v : Value} (hv : (f k).getD (.slice none 0 0) = v) :
    ∀ x, MapAt x M f → (Instr.lookup 117 (.map (some M)) (.int .i64 k) false).run Try.prog x = .ok v x := fun x hx => by
  rw [hx.lookup (P := Try.prog) (T := 117) (K := 3) (E := 41) Try.underlying117 Try.underlying3 (zero41 _) k, hv]

/-- What the last statement of Put reads. -/
theorem keepS {W : World} {p b M : Nat} {c1 c2 c3 c4 : Value} {cs : List Value} (h : Row W p [.map (some M), c1, c2, c3, c4] 121) (hb : Row W b cs 34) : W.cell? ⟨p, 0, none⟩ = some (.map (some M)) ∧ W.rangeAt b 0 cs :=
  ⟨by rw [h.cell]; rfl, hb.range 0 _ fun j v hv => by rwa [Nat.zero_add]⟩

/-- Put, behind its first test: the sector has shapes. -/
def Put1 (w0 : World) (role : Nat → Option Own) (p M : Nat) (wayV actsV : Value) (size : Nat) (base : Nat → Sec) (rest : Nat → List Sec) (tick : List (Nat × Nat)) (fuse : Option Nat) (dead : Bool) (k : Nat) (wr : World) : Prop :=
  ∃ role1 f1 g cap, RepX wr p role1 M wayV actsV f1 size base rest tick fuse dead ∧ f1 k = some (.slice (some ⟨g, 0, none⟩) (1 + (rest k).length) cap) ∧ Moves w0 role wr role1
/-- Put, behind its ticket. -/
def Put2 (w0 : World) (role : Nat → Option Own) (p M : Nat) (actsV : Value) (size : Nat) (base : Nat → Sec) (rest : Nat → List Sec) (tick : List (Nat × Nat)) (fuse : Option Nat) (dead : Bool) (k : Nat) (wr : World) : Prop :=
  ∃ role1 f1 g cap wayV, RepX wr p role1 M wayV actsV f1 size base rest tick fuse dead ∧ f1 k = some (.slice (some ⟨g, 0, none⟩) (1 + (rest k).length) cap) ∧ Moves w0 role wr role1

set_option maxRecDepth 100000 in
set_option maxHeartbeats 1600000 in
theorem put_in {w : World} {p : Nat} {role : Nat → Option Own} {M : Nat} {wayV actsV : Value} {f : Int → Option Value} {size : Nat} {base : Nat → Sec} {rest : Nat → List Sec} {tick : List (Nat × Nat)} {fuse : Option Nat} {dead : Bool}
    (h : RepX w p role M wayV actsV f size base rest tick fuse dead) (k : Nat) (hk : k < size) (s : Sec) (hs : s.length = 64) (hd : actD fuse dead = false) (ht : tick.length ≤ 1000000) (hrl : (rest k).length ≤ 1000000) :
    Calls Try.prog 20 #[.pointer (some ⟨p, 0, none⟩), .int .i64 k, .agg (s.map Bv).toArray] w fun e w' => e = .returned (.int .i64 0) ∧
      ∃ role' wayV' f', RepX w' p role' M wayV' actsV f' size base (fset rest k (rest k ++ [s])) (tick ++ [(k, 1 + (rest k).length)]) (actF fuse dead) false ∧ Moves w role w' role' := by
  have hr0 := h.fresh
  have h1 := h.below ((Below.refl _ _).alloc (Nat.le_refl _) (.cells (s.map Bv).toArray 34))
  have hm0 : Moves w role (w.alloc (.cells (s.map Bv).toArray 34)) role := Moves.of_below ((Below.refl _ _).alloc (Nat.le_refl _) _)
  have HT := Lib.hid (there_any h1 k)
  rw [decide_eq_true (show 0 ≤ (k : Int) ∧ (k : Int) < size by omega)] at HT
  have HA := Lib.hid (act_any h1)
  rw [hd] at HA
  generalize actF fuse dead = fuse1 at HA ⊢
  have HM0 := Lib.hid hm0
  clear h h1 hd hm0
  go_enter Try.func20, Try.ntmps20
  go_upto_if 23 with (first | (refine wpl_box rfl 34 (.tmp 2) rfl (s.map Bv).toArray rfl ?_) | (go_at_call 68; refine HT.out.mono ?_; rintro e w' ⟨rfl, rfl⟩) | (go_at_call 69; refine HA.out.mono ?_; clear HA HT; rintro e w1 ⟨rfl, hrep, hmv, hsz1⟩; have H0 : w1.cell? ⟨p, 0, none⟩ = some (.map (some M)) := (by rw [hrep.row.cell]; rfl); have HL := hrep.map.lookup (P := Try.prog) (T := 117) (K := 3) (E := 41) Try.underlying117 Try.underlying3 (zero41 _) k; obtain ⟨a0, n0, c0, he, hcase⟩ := hrep.sliceAt k; rw [he] at HL; have HC := Lib.hid hcase; have HR := Lib.hid hrep; have HM := Lib.hid hmv; clear hrep hmv hsz1 he hcase))
  go_cut [] from 7 (fun wr => Put1 (w.alloc (.cells (s.map Bv).toArray 34)) role p M wayV actsV size base rest tick fuse1 false k wr ∧ Row wr w.heap.size (s.map Bv) 34)
  case first =>
    have hm1 := HM.out
    have hrow1 := HM.out.row (Row.new w (s.map Bv) 34) hr0
    have hM1 := Lib.hid hm1
    have hrow1H := Lib.hid hrow1
    clear hm1 hrow1
    by_cases hn0 : n0 = 0
    · have hn' : ((n0 : Int) == 0) = true := by simp [hn0]
      have hfn : f k = none := by
        rcases HC.out with ⟨_, h⟩ | ⟨g, _, h, _⟩
        · exact h
        · omega
      have HF := Lib.hid hfn
      clear hfn
      have hmk : ∀ W : World, (Instr.makeSlice 41 (.int .i64 1) (.int .i64 1)).run Try.prog W = .ok (.slice (some ⟨W.heap.size, 0, none⟩) 1 1) (W.alloc (.cells Z64 34)) := fun W => by kernel_rfl
      obtain ⟨w5, hup, hmap5, hg5, hs5, hd5⟩ := ((HR.out.map.of_block (w' := (w1.alloc (.cells Z64 34)).drew) (Below.heap_alloc w1 _ M HR.out.map.lt))).update (P := Try.prog) (T := 117) (K := 3) (E := 41) Try.underlying117 Try.underlying3 k (.slice (some ⟨w1.heap.size, 0, none⟩) 1 1)
      have hN := Lib.hid (HR.out.shapeNew k HF.out hmap5 hg5 (by simpa using hs5))
      have H0a : (w1.alloc (.cells Z64 34)).cell? ⟨p, 0, none⟩ = some (.map (some M)) := by rw [(HR.out.row.alloc _).cell]; rfl
      clear hmap5 hg5 hs5 hd5
      go_wp2
      go_region
      all_goals
        go_wp2
        go_meet
        case rel =>
          have hsh := HR.out.shape k
          rw [HF.out] at hsh
          exact ⟨⟨_, _, w1.heap.size, 1, hN.out.1, by simp [upd, hsh.2], hM1.out.trans hN.out.2⟩, hN.out.2.row hrow1H.out hr0⟩
    · have hn' : ((n0 : Int) == 0) = false := by simp; omega
      go_wp2
      go_meet
      case rel =>
        rcases HC.out with ⟨h, _⟩ | ⟨g, rfl, rfl, hf⟩
        · omega
        · exact ⟨⟨role, f, g, c0, HR.out, hf, hM1.out⟩, hrow1H.out⟩
  case rest =>
    obtain ⟨⟨role1, f1, g, cap, hrep, hf1, hmv⟩, hrow⟩ := hcut
    have HF := Lib.hid hf1
    have HR := Lib.hid hrep
    have HM := Lib.hid hmv
    have HB := Lib.hid hrow
    clear hf1 hrep hmv hrow
    go_wp2_with fail
    go_cut [] from 7 (fun wr => Put2 (w.alloc (.cells (s.map Bv).toArray 34)) role p M actsV size base rest (tick ++ [(k, 1 + (rest k).length)]) fuse1 false k wr ∧ Row wr w.heap.size (s.map Bv) 34)
    case first =>
      have H0 : wc.cell? ⟨p, 0, none⟩ = some (.map (some M)) := by rw [HR.out.row.cell]; rfl
      have H2 : wc.cell? ⟨p, 2, none⟩ = some wayV := by rw [HR.out.row.cell]; rfl
      have F2 : wc.frozen? ⟨p, 2, none⟩ = false := HR.out.row.thaw 2
      have HL := looks (M := M) (f := f1) (k := k) (v := .slice (some ⟨g, 0, none⟩) (1 + (rest k).length) cap) (by rw [HF.out]; rfl)
      have hL2 := HL wc.drew HR.out.map
      have hpl : p < wc.heap.size := HR.out.row.lt
      have hra : wayV.ownBlock ≠ some p := fun e => by have := HR.out.rway _ e; rw [HR.out.rp] at this; cases this
      clear HL
      obtain ⟨i0, hi0, hz0, hz1, hz2⟩ := info_parts info126
      go_region_law (refine step_append_lies _ (by rfl) _ _ _ (by rfl) 0 126 i0 _ 2 16 Try.underlying118 hi0 hz0 hz1 hz2 rfl (by omega) wayV tick.length (tcells tick) (by rfl) ((HR.out.way.alloc _).drew) ⟨wc.heap.size, 0, none⟩ 1 1 [.int .i64 k, .int .i64 (1 + (rest k).length : Nat)] (by rfl) (by rfl) (World.news_of_block (cs := #[.int .i64 k, .int .i64 (1 + (rest k).length : Nat)]) (t := 126) (fr := (0, 0)) (heap_alloc_new wc _)) (by simp [Value.oneCell']) (by omega) (by unfold maxLen; omega) (by omega) (by simp) (wc.heap.size + 1) (by simp) ?_; intro gg cap' w2 hown1 hgrow hat hlt; have hr2 := ((HR.out.row.alloc _).drew).of_block (hgrow.block p (by simp; omega) (Ne.symm hra)); have H20 := hr2.cell 2; have F20 := hr2.thaw 2; clear hr2)
      all_goals
        go_wp2
        go_meet
        case rel =>
          obtain ⟨hrep3, hmv3⟩ := HR.out.tickPush hown1 hgrow hat
          exact ⟨⟨_, _, g, cap, _, hrep3, HF.out, HM.out.trans hmv3⟩, hmv3.row HB.out (HM.out.old w.heap.size (by simp) hr0)⟩
    case rest =>
      clear HF HR HM HB
      obtain ⟨⟨role3, f3, g3, cap3, wayV3, hrep, hf3, hmv⟩, hrow⟩ := hcut
      have H0 : wc.cell? ⟨p, 0, none⟩ = some (.map (some M)) := by rw [hrep.row.cell]; rfl
      have HL := looks (M := M) (f := f3) (k := k) (v := .slice (some ⟨g3, 0, none⟩) (1 + (rest k).length) cap3) (by rw [hf3]; rfl)
      have hL2 := HL wc.drew hrep.map
      have hbs := run_buildSlice_one (P := Try.prog) (T := 41) (s.map Bv).toArray Z64 Try.underlying41 info34 (by simp [hs]) (by omega) (by omega)
      have hsh := hrep.shape k
      rw [hf3] at hsh
      have hHsh := Lib.hid hsh
      have hR3 := Lib.hid hrep
      have hBx := Lib.hid hrow
      have hmvH := Lib.hid hmv
      have hfH := Lib.hid hf3
      clear hsh hrep hmv hrow hf3 HL
      obtain ⟨i0, hi0, hz0, hz1, hz2⟩ := info_parts info34
      have hLH := Lib.hid (looks (M := M) (f := f3) (k := k) (v := .slice (some ⟨g3, 0, none⟩) (1 + (rest k).length) cap3) (by rw [hfH.out]; rfl))
      have hv0 : ∀ j, role3 j ≠ some (.shp k) → some j ≠ (Value.slice (some ⟨g3, 0, none⟩) (1 + (rest k).length) cap3).ownBlock := fun j hj e => hj (hHsh.out.2 j e.symm)
      have hv0H := Lib.hid hv0
      have hbn : role3 w.heap.size = none := hmvH.out.old w.heap.size (by simp) hr0
      have hbnH := Lib.hid hbn
      clear hv0 hbn
      go_wp2_with fail
      refine start_ (n := 15) (S := fun w' => w'.cell? ⟨p, 0, none⟩ = some (.map (some M)) ∧ w'.rangeAt w.heap.size 0 (s.map Bv) ∧ (Instr.lookup 117 (.map (some M)) (.int .i64 k) false).run Try.prog w' = .ok (.slice (some ⟨g3, 0, none⟩) (1 + (rest k).length) cap3) w') (ds := [14]) #[false, false, false, false, false, false, false, false, false, false, false, false, false, false, false] (by kernel_rfl) rfl rfl ⟨(keepS hR3.out.row.drew hBx.out.drew).1, (keepS hR3.out.row.drew hBx.out.drew).2, hLH.out _ hR3.out.map⟩ (fun hHeld => ?_)
      refine pure_ (i := 0) (N := some 48) (v := ?_) (a' := ?_) #[true, false, false, false, false, false, false, false, false, false, false, false, false, false, false] rfl rfl (by kernel_rfl) (fun _ _ _ h => h) (Or.inl ⟨by rfl, ?_⟩) ?_ ?_
      rotate_left
      · intro w'
        go_simp
        with_reducible rfl
      rotate_left
      · simp only [Act.put, List.setIfInBounds_toArray, List.set_cons_zero, List.set_cons_succ]
        rfl
      refine pure_ (i := 1) (N := some 49) (v := ?_) (a' := ?_) #[true, true, false, false, false, false, false, false, false, false, false, false, false, false, false] rfl rfl (by kernel_rfl) (fun _ _ _ h => h) (Or.inl ⟨by rfl, ?_⟩) ?_ ?_
      rotate_left
      · intro w'
        go_simp
        with_reducible rfl
      rotate_left
      · simp only [Act.put, List.setIfInBounds_toArray, List.set_cons_zero, List.set_cons_succ]
        rfl
      refine pure_ (i := 2) (N := some 50) (v := ?_) (a' := ?_) #[true, true, true, false, false, false, false, false, false, false, false, false, false, false, false] rfl rfl (by kernel_rfl) (fun _ _ _ h => h) (Or.inl ⟨by rfl, ?_⟩) ?_ ?_
      rotate_left
      · intro w'
        go_simp
        with_reducible rfl
      rotate_left
      · simp only [Act.put, List.setIfInBounds_toArray, List.set_cons_zero, List.set_cons_succ]
        rfl
      refine pure_ (i := 4) (N := some 52) (v := ?_) (a' := ?_) #[true, true, true, false, true, false, false, false, false, false, false, false, false, false, false] rfl rfl (by kernel_rfl) (fun _ _ _ h => h) (Or.inl ⟨by rfl, ?_⟩) ?_ ?_
      rotate_left
      · intro w'
        go_simp
        with_reducible rfl
      rotate_left
      · simp only [Act.put, List.setIfInBounds_toArray, List.set_cons_zero, List.set_cons_succ]
        rfl
      refine pure_ (i := 5) (N := some 53) (v := ?_) (a' := ?_) #[true, true, true, false, true, true, false, false, false, false, false, false, false, false, false] rfl rfl (by kernel_rfl) (fun _ _ _ h => h) (Or.inl ⟨by rfl, ?_⟩) ?_ ?_
      rotate_left
      · intro w'
        go_simp
        with_reducible rfl
      rotate_left
      · simp only [Act.put, List.setIfInBounds_toArray, List.set_cons_zero, List.set_cons_succ]
        rfl
      refine pure_ (i := 6) (N := some 54) (v := ?_) (a' := ?_) #[true, true, true, false, true, true, true, false, false, false, false, false, false, false, false] rfl rfl (by kernel_rfl) (fun _ _ _ h => h) (Or.inl ⟨by rfl, ?_⟩) ?_ ?_
      rotate_left
      · intro w'
        go_simp
        with_reducible rfl
      rotate_left
      · simp only [Act.put, List.setIfInBounds_toArray, List.set_cons_zero, List.set_cons_succ]
        rfl
      refine pure_ (i := 7) (N := some 55) (v := ?_) (a' := ?_) #[true, true, true, false, true, true, true, true, false, false, false, false, false, false, false] rfl rfl (by kernel_rfl) (fun _ _ _ h => h) (Or.inl ⟨by rfl, ?_⟩) ?_ ?_
      rotate_left
      · intro w'
        go_simp
        with_reducible rfl
      rotate_left
      · simp only [Act.put, List.setIfInBounds_toArray, List.set_cons_zero, List.set_cons_succ]
        rfl
      refine pure_ (i := 9) (N := some 57) (v := ?_) (a' := ?_) #[true, true, true, false, true, true, true, true, false, true, false, false, false, false, false] rfl rfl (by kernel_rfl) (fun _ _ _ h => h) (Or.inl ⟨by rfl, ?_⟩) ?_ ?_
      rotate_left
      · intro w'
        go_simp
        with_reducible rfl
      rotate_left
      · simp only [Act.put, List.setIfInBounds_toArray, List.set_cons_zero, List.set_cons_succ]
        rfl
      refine take_ (i := 3) (N := some 51) (v := ?_) (a' := ?_) #[true, true, true, true, true, true, true, true, false, true, false, false, false, false, false] rfl rfl (by kernel_rfl) (fun _ _ _ h => h) (Or.inl ⟨by rfl, ?_⟩) hHeld ?_ ?_
      rotate_left
      · rintro w' ⟨s0, s1, s2⟩
        go_simp
        with_reducible rfl
      rotate_left
      · simp only [Act.put, List.setIfInBounds_toArray, List.set_cons_zero, List.set_cons_succ]
        rfl
      refine take_ (i := 8) (N := some 56) (v := ?_) (a' := ?_) #[true, true, true, true, true, true, true, true, true, true, false, false, false, false, false] rfl rfl (by kernel_rfl) (fun _ _ _ h => h) (Or.inl ⟨by rfl, ?_⟩) hHeld ?_ ?_
      rotate_left
      · rintro w' ⟨s0, s1, s2⟩
        go_simp
        with_reducible rfl
      rotate_left
      · simp only [Act.put, List.setIfInBounds_toArray, List.set_cons_zero, List.set_cons_succ]
        rfl
      refine take_ (i := 10) (N := some 58) (v := .slice (some ⟨g3, 0, none⟩) (1 + (rest k).length) cap3) (a' := ?_) #[true, true, true, true, true, true, true, true, true, true, true, false, false, false, false] rfl rfl (by kernel_rfl) (fun _ _ _ h => h) (Or.inl ⟨by rfl, ?_⟩) hHeld ?_ ?_
      · rintro w' ⟨s0, s1, s2⟩
        exact runs_lookup (M := .map (some M)) (kv := .int .i64 k) (.tmp 56) (.tmp 57) rfl (by rfl) (by rfl) s2
      rotate_left
      · simp only [Act.put, List.setIfInBounds_toArray, List.set_cons_zero, List.set_cons_succ]
        rfl
      refine take_ (i := 11) (N := some 59) (v := .agg (s.map Bv).toArray) (a' := ?_) #[true, true, true, true, true, true, true, true, true, true, true, true, false, false, false] rfl rfl (by kernel_rfl) (fun _ _ _ h => h) (Or.inl ⟨by rfl, ?_⟩) hHeld ?_ ?_
      · rintro w' ⟨s0, s1, s2⟩
        exact runs_load_at 34 (.tmp 5) rfl w.heap.size 0 (by rfl) (s.map Bv) _ s1 64 (by simp [hs]) Try.underlying34 rfl size34
      rotate_left
      · simp only [Act.put, List.setIfInBounds_toArray, List.set_cons_zero, List.set_cons_succ]
        rfl
      refine one_ (i := 12) (N := some 60) #[true, true, true, true, true, true, true, true, true, true, true, true, true, false, false] rfl rfl (by kernel_rfl) (by decide) (fun K hK => ?_)
      refine value_ (by rfl) rfl (runs_buildSlice_one _ (.tmp 59) rfl (s.map Bv).toArray Z64 (by rfl) Try.underlying41 info34 (by simp [hs]) (by omega) (by omega)) ?_
      refine hK.out _ _ ⟨(keepS (hR3.out.row.alloc _).drew (hBx.out.alloc _).drew).1, (keepS (hR3.out.row.alloc _).drew (hBx.out.alloc _).drew).2, hLH.out _ (hR3.out.map.of_block (Below.heap_alloc wc _ M hR3.out.map.lt))⟩ (fun hHeld => ?_)
      clear hK K
      refine norm_ (a' := ?_) ?_ ?_
      rotate_left
      · show Act.put _ (some 60) _ = _
        simp only [Act.put, List.setIfInBounds_toArray, List.set_cons_zero, List.set_cons_succ]
        rfl
      refine one_ (i := 13) (N := some 61) #[true, true, true, true, true, true, true, true, true, true, true, true, true, true, false] rfl rfl (by kernel_rfl) (by decide) (fun K hK => ?_)
      refine step_append_lies _ (by rfl) _ _ _ (by rfl) 0 34 i0 _ 64 64 Try.underlying41 hi0 hz0 hz1 hz2 rfl (by omega) _ _ _ (by rfl) ((hHsh.out.1.alloc _).drew) ⟨wc.heap.size, 0, none⟩ 1 1 (s.map Bv) (by rfl) (by simp [hs]) (World.news_of_block (cs := (s.map Bv).toArray) (t := 34) (fr := (0, 0)) (heap_alloc_new wc _)) (oneB' _) (by omega) (by unfold maxLen; omega) (by omega) (by simp) (wc.heap.size + 1) (by simp) ?_
      intro gg2 cap2 w4 hown4 hgrow4 hat4 hlt4
      have e4 : ∀ j, role3 j ≠ some (.shp k) → j < wc.heap.size → w4.heap[j]? = (wc.alloc (.cells (s.map Bv).toArray 34)).heap[j]? := fun j hj hjl => hgrow4.block j (by simp; omega) (hv0H.out j hj)
      have hp4 := (hR3.out.row.alloc (.cells (s.map Bv).toArray 34)).of_block (e4 p (by rw [hR3.out.rp]; simp) hR3.out.row.lt)
      have hb4 := (hBx.out.alloc (.cells (s.map Bv).toArray 34)).of_block (e4 _ (by rw [hbnH.out]; simp) hBx.out.lt)
      have hm4 := hR3.out.map.of_block ((e4 M (by rw [hR3.out.rM]; simp) hR3.out.map.lt).trans (Below.heap_alloc _ _ _ hR3.out.map.lt))
      obtain ⟨w5, hup5, hmap5, hg5, hs5, hd5⟩ := hm4.update (P := Try.prog) (T := 117) (K := 3) (E := 41) Try.underlying117 Try.underlying3 k (.slice (some ⟨gg2, 0, none⟩) (1 + (rest k).length + 1) cap2)
      refine hK.out _ _ ⟨(keepS hp4 hb4).1, (keepS hp4 hb4).2, hLH.out _ hm4⟩ (fun hHeld => ?_)
      clear hK K
      refine norm_ (a' := ?_) ?_ ?_
      rotate_left
      · show Act.put _ (some 61) _ = _
        simp only [Act.put, List.setIfInBounds_toArray, List.set_cons_zero, List.set_cons_succ]
        rfl
      refine last_ (i := 14) (N := none) #[true, true, true, true, true, true, true, true, true, true, true, true, true, true, true] rfl rfl (by kernel_rfl) (by decide) (fun K hK => ?_)
      refine skip_ (by rfl) rfl (runs_mapUpdate (.tmp 51) (.tmp 52) (.tmp 61) rfl (by rfl) (by rfl) (by rfl) hup5) ?_
      refine hK.out _ _ ?_
      clear hK K
      refine done_ (by kernel_rfl) ?_

      have hfin := hR3.out.shapePush k s hs hfH.out rfl hown4 hgrow4 hat4 hmap5 hg5 hs5
      have hF := Lib.hid hfin
      clear hfin hup5 hmap5 hg5 hs5 hd5 hown4 hgrow4 hat4 hlt4 e4 hp4 hb4 hm4
      go_wp2
      go_ret
      exact ⟨rfl, _, _, _, hF.out.1, HM0.out.trans (hmvH.out.trans hF.out.2)⟩

end Go.Proofs.Ytpddbffamejgeaa
