import Derived.Test.YtpddbffamejgeaaQ
import Derived.Deep.CutRange
import Derived.Deep.RegionLaw
import Derived.Deep.QuietTactic
import Derived.BigQuiet
import Derived.Test.YtpddbffamejgeaaWLast
namespace Go.Proofs.Ytpddbffamejgeaa
open Go.RowKit Go.Proofs.YtpddbffamejgeaaW.PrintLast

/-- What is found at a key, in each world in which the map is as it was. -/
theorem looks' {M : Nat} {f : Int → Option Value} {k : Int} {v : Value} (hv : (f k).getD (.slice none 0 0) = v) :
    ∀ x, MapAt x M f → (Instr.lookup 117 (.map (some M)) (.int .i64 k) false).run Try.prog x = .ok v x := fun x hx => by
  rw [hx.lookup (P := Try.prog) (T := 117) (K := 3) (E := 41) Try.underlying117 Try.underlying3 (zero41 _) k, hv]
theorem info5 : (Try.prog.info? 5).map (fun i => (i.zero, i.size, i.bytes)) = some (some (.int .u8 0), 1, 1) := by kernel_rfl
theorem size33 : (Try.prog.info? 33).map (·.size) = some 64 := by kernel_rfl
theorem info126' : (Try.prog.info? 126).map (fun i => (i.zero, i.size, i.bytes)) = some (some (.agg #[.int .i64 0, .int .i64 0]), 2, 16) := by kernel_rfl

def ArrPost (p : Nat) (role : Nat → Option Own) (M : Nat) (actsV : Value) (size : Nat) (base : Nat → Sec) (rest : Nat → List Sec) (nb : Nat → Nat) (tick : List (Nat × Nat)) (fuse : Option Nat) (dead : Bool) (w : World) (e : Ending) (w' : World) : Prop :=
  e = .returned (.tuple #[]) ∧ ∃ wayV' f', RepX w' p role M wayV' actsV f' size (landed rest nb tick base tick.length) (cleared rest tick tick.length) [] fuse dead ∧ Moves w role w' role

set_option maxRecDepth 100000 in
set_option maxHeartbeats 1600000 in
theorem arrive_any {w : World} {p : Nat} {role : Nat → Option Own} {M : Nat} {wayV actsV : Value} {f : Int → Option Value} {size : Nat} {base : Nat → Sec} {rest : Nat → List Sec} {tick : List (Nat × Nat)} {fuse : Option Nat} {dead : Bool}
    (h : RepX w p role M wayV actsV f size base rest tick fuse dead) (F : FuncId) (hcall : ∀ (args : Array Value) (w : World), (callFunc F args).run Try.prog w = .ok (.enter F args) w) (caps : Array Value) (r : Nat → Int) (nb : Nat → Nat) (hnb : ∀ k, (nb k : Int) = min (max (r k) 0) 64) (hto : TickOK rest tick) (ht : tick.length ≤ 1000000)
    (hF : ∀ W, Moves w role W role → ∀ k, k < tick.length → Calls Try.prog F (#[.int .i64 k] ++ caps) W fun e W' => e = .returned (.int .i64 (r k)) ∧ W = W') :
    Calls Try.prog 72 #[.pointer (some ⟨p, 0, none⟩), .func (.func F) #[] caps] w (ArrPost p role M actsV size base rest nb tick fuse dead w) := by
  have H2 : w.cell? ⟨p, 2, none⟩ = some wayV := by rw [h.row.cell]; rfl
  obtain ⟨wa, wcap, rfl, hw1, hw2, hw3, hw4⟩ := owns_form h.way
  have HR := Lib.hid h
  have HF := Lib.hid hF
  have HN := Lib.hid hnb
  have HTO := Lib.hid hto
  have HW3 := Lib.hid hw3
  have HW4 := Lib.hid hw4
  clear h hF hnb hto hw3 hw4
  go_enter Try.func72, Try.ntmps72
  go_wp2_with fail
  go_loopw [15] (fun i wr => ∃ k : Nat, k ≤ tick.length ∧ i = .int .i64 k ∧ Hid (RepX wr p role M (.slice wa tick.length wcap) actsV f size (landed rest nb tick base k) rest tick fuse dead) ∧ Hid (Moves w role wr role))
    (fun i _ => tick.length - (intOf i).toNat)
  case atStart => exact ⟨0, Nat.zero_le _, rfl, HR, Lib.hid (Moves.refl _ _)⟩
  case round =>
    obtain ⟨k, hk, rfl, hr, hm⟩ := hrel
    clear HR H2
    by_cases hlt : k < tick.length
    · obtain ⟨t, htk⟩ : ∃ t, tick[k]? = some t := ⟨tick[k], by simp⟩
      obtain ⟨g, rfl, hgw, hc0, hc1⟩ := hr.out.ticket htk
      have hTK := Lib.hid htk
      have hGW := Lib.hid hgw
      clear htk hgw
      go_upto_region 3 with fail
      have hr1 := hr.out.below ((Below.refl _ _).alloc (Nat.le_refl _) (.cells #[.int .i64 (t.1 : Int), .int .i64 (t.2 : Int)] 126))
      have hm1 := hm.out.trans (Moves.of_below (role := role) ((Below.refl wr.heap.size wr).alloc (Nat.le_refl _) (.cells #[.int .i64 (t.1 : Int), .int .i64 (t.2 : Int)] 126)))
      have hb1 := Row.new wr [.int .i64 (t.1 : Int), .int .i64 (t.2 : Int)] 126
      have hbn := hr.out.fresh
      generalize wr.alloc (.cells #[.int .i64 (t.1 : Int), .int .i64 (t.2 : Int)] 126) = W1 at *
      generalize wr.heap.size = b at *
      obtain ⟨sa, sn, scap, he, hcase⟩ := hr1.sliceAt t.1
      have hL := fun n => looks' (M := M) (f := f) (k := t.1) he (W1.drewN n) (hr1.drewN n).map
      have H0 : W1.cell? ⟨p, 0, none⟩ = some (.map (some M)) := by rw [hr1.row.cell]; rfl
      have B0 : W1.cell? ⟨b, 0, none⟩ = some (.int .i64 (t.1 : Int)) := by rw [hb1.cell]; rfl
      have HR1 := Lib.hid hr1
      have HM1 := Lib.hid hm1
      have HB1 := Lib.hid hb1
      have HC := Lib.hid hcase
      clear hr hm hr1 hm1 hb1 hcase hc0 hc1 he
      go_quiet (fail)
      have hr2 := HR1.out.drewN nq
      have hm2 := HM1.out.drewN nq
      have hb2 := HB1.out.drewN nq
      generalize W1.drewN nq = W2 at *
      have HR2 := Lib.hid hr2
      have HM2 := Lib.hid hm2
      have HB2 := Lib.hid hb2
      clear hr2 hm2 hb2 HR1 HM1 HB1 hL H0 B0
      go_upto_region 4 with fail
      go_cut [7] from 27 to 31 (fun v w' => v = .int .i64 (nb k : Nat) ∧ w' = W2)
      case first =>
        have hn := HN.out k
        have HNk := Lib.hid hn
        clear hn
        go_wp2_with (refine (HF.out _ HM2.out k hlt).mono ?_; rintro e w' ⟨rfl, rfl⟩)
        all_goals
          go_meet
          case rel =>
            have := HNk.out
            exact ⟨by congr 1; omega, rfl⟩
      case rest =>
        obtain ⟨rfl, rfl⟩ := hcut
        have hto := HTO.out t (List.mem_of_getElem? hTK.out)
        obtain ⟨gs, rfl, rfl, hft⟩ : ∃ gs, sa = some ⟨gs, 0, none⟩ ∧ sn = 1 + (rest t.1).length ∧ f t.1 = some (.slice (some ⟨gs, 0, none⟩) (1 + (rest t.1).length) scap) := by
          rcases HC.out with ⟨_, hnone⟩ | h
          · have := HR2.out.shape t.1
            rw [hnone] at this
            have h0 := this.2
            rw [h0] at hto; simp at hto; omega
          · exact h
        have hsh := HR2.out.shape t.1
        rw [hft] at hsh
        obtain ⟨gs', cap', cur, hv, hrowS, hq1, hq2, hq3, hq4⟩ := owns_some hsh.1 (by omega)
        simp at hv
        obtain ⟨rfl, rfl⟩ := hv
        have hcl : 64 ≤ cur.length := by rw [hq3]; omega
        have hlen := HR2.out.len t.1
        obtain ⟨old, hold⟩ : ∃ x, x = landed rest nb tick base k t.1 := ⟨_, rfl⟩
        obtain ⟨new, hnew⟩ : ∃ x, x = (rest t.1)[t.2 - 1]?.getD zeros := ⟨_, rfl⟩
        have hol : old.length = 64 := by rw [hold]; exact hlen.1
        have hall : ∀ x ∈ old :: rest t.1, x.length = 64 := by
          intro x hx
          rcases List.mem_cons.1 hx with rfl | hx
          · exact hol
          · exact hlen.2 x hx
        have hnat : (old :: rest t.1)[t.2]? = some new := by
          rw [hnew]
          obtain ⟨j, hj⟩ : ∃ j, t.2 = j + 1 := ⟨t.2 - 1, by omega⟩
          rw [hj]
          have hjl : j < (rest t.1).length := by omega
          simp [hjl]
        have hnl : new.length = 64 := hall new (List.mem_of_getElem? hnat)
        rw [← hold] at hq4
        have hsrcA : wc.rangeAt gs (t.2 * 64) (new.map Bv) := fun j v hv => by rw [hrowS.cell]; exact take_get hq4 (secs_at _ _ new hall hnat j v hv)
        have hsrcB : wc.rangeAt gs 0 (old.map Bv) := fun j v hv => by rw [hrowS.cell]; exact take_get hq4 (by simpa using secs_at _ 0 old hall (by simp) j v hv)
        have hn64 : nb k ≤ 64 := by have := HN.out k; omega
        obtain ⟨offn, hoff⟩ : ∃ o, o = if nb k = 64 then 0 else nb k := ⟨_, rfl⟩
        have hll : (land old new (nb k)).length = 64 := by simp [land, hnl, hol]; omega
        have hsrc1 : ∀ W, Below wc.heap.size wc W → ∀ j u, ((new.take (nb k)).map Bv)[j]? = some u → W.cell? ((⟨gs, t.2 * 64, none⟩ : Addr).add j) = some u := fun W hW j u hu => by
          rw [Addr.add_mid, hW.cell (p := ⟨gs, t.2 * 64 + j, none⟩) hrowS.lt]
          refine hsrcA j u ?_
          rw [List.map_take] at hu
          exact take_get rfl hu
        have hsrc2 : ∀ W, Below wc.heap.size wc W → ∀ j u, ((old.drop (nb k)).map Bv)[j]? = some u → W.cell? ((⟨gs, offn, none⟩ : Addr).add j) = some u := fun W hW j u hu => by
          rw [Addr.add_mid, hW.cell (p := ⟨gs, offn + j, none⟩) hrowS.lt]
          rw [List.map_drop, List.getElem?_drop] at hu
          have hjl : nb k + j < 64 := by
            by_cases hq : nb k + j < 64
            · exact hq
            · rw [List.getElem?_eq_none (by simp [hol]; omega)] at hu; cases hu
          have := hsrcB (nb k + j) u hu
          rw [hoff, if_neg (by omega)]
          simpa using this
        obtain ⟨i5, hi5, hz5, hs5, hb5⟩ := info_parts info5
        have hix : ((t.2 : Nat) : Int) < 1 + ((rest t.1).length : Int) := by omega
        have hix0 : (0 : Int) < 1 + ((rest t.1).length : Int) := by omega
        have hHH := Lib.hid hsh
        have hFt := Lib.hid hft
        have hOl := Lib.hid hold
        have hNw := Lib.hid hnew
        have hOff := Lib.hid hoff
        clear hsh hft hold hnew hnat hq4 hall hlen
        go_wp2_with fail
--R5
        refine start_ (n := 18) (S := fun w' => w'.cell? ⟨b, 1, none⟩ = some (.int .i64 (t.2 : Int))) (ds := [17]) #[false, false, false, false, false, false, false, false, false, false, false, false, false, false, false, false, false, false] (by kernel_rfl) rfl rfl ((HB2.out.drew.cell 1)) (fun hHeld => ?_)
        refine pure_ (i := 0) (N := some 32) (v := ?_) (a' := ?_) #[true, false, false, false, false, false, false, false, false, false, false, false, false, false, false, false, false, false] rfl rfl (by kernel_rfl) (fun _ _ _ h => h) (Or.inl ⟨by rfl, ?_⟩) ?_ ?_
        rotate_left
        · intro w'
          go_simp
          with_reducible rfl
        rotate_left
        · simp only [Act.put, List.setIfInBounds_toArray, List.set_cons_zero, List.set_cons_succ]
          rfl
        refine pure_ (i := 2) (N := some 34) (v := ?_) (a' := ?_) #[true, false, true, false, false, false, false, false, false, false, false, false, false, false, false, false, false, false] rfl rfl (by kernel_rfl) (fun _ _ _ h => h) (Or.inl ⟨by rfl, ?_⟩) ?_ ?_
        rotate_left
        · intro w'
          go_simp
          with_reducible rfl
        rotate_left
        · simp only [Act.put, List.setIfInBounds_toArray, List.set_cons_zero, List.set_cons_succ]
          rfl
        refine pure_ (i := 3) (N := some 35) (v := ?_) (a' := ?_) #[true, false, true, true, false, false, false, false, false, false, false, false, false, false, false, false, false, false] rfl rfl (by kernel_rfl) (fun _ _ _ h => h) (Or.inl ⟨by rfl, ?_⟩) ?_ ?_
        rotate_left
        · intro w'
          go_simp
          with_reducible rfl
        rotate_left
        · simp only [Act.put, List.setIfInBounds_toArray, List.set_cons_zero, List.set_cons_succ]
          rfl
        refine pure_ (i := 6) (N := some 38) (v := ?_) (a' := ?_) #[true, false, true, true, false, false, true, false, false, false, false, false, false, false, false, false, false, false] rfl rfl (by kernel_rfl) (fun _ _ _ h => h) (Or.inl ⟨by rfl, ?_⟩) ?_ ?_
        rotate_left
        · intro w'
          go_simp
          with_reducible rfl
        rotate_left
        · simp only [Act.put, List.setIfInBounds_toArray, List.set_cons_zero, List.set_cons_succ]
          rfl
        refine pure_ (i := 9) (N := some 41) (v := ?_) (a' := ?_) #[true, false, true, true, false, false, true, false, false, true, false, false, false, false, false, false, false, false] rfl rfl (by kernel_rfl) (fun _ _ _ h => h) (Or.inl ⟨by rfl, ?_⟩) ?_ ?_
        rotate_left
        · intro w'
          go_simp
          with_reducible rfl
        rotate_left
        · simp only [Act.put, List.setIfInBounds_toArray, List.set_cons_zero, List.set_cons_succ]
          rfl
        refine pure_ (i := 10) (N := some 42) (v := ?_) (a' := ?_) #[true, false, true, true, false, false, true, false, false, true, true, false, false, false, false, false, false, false] rfl rfl (by kernel_rfl) (fun _ _ _ h => h) (Or.inl ⟨by rfl, ?_⟩) ?_ ?_
        rotate_left
        · intro w'
          go_simp
          with_reducible rfl
        rotate_left
        · simp only [Act.put, List.setIfInBounds_toArray, List.set_cons_zero, List.set_cons_succ]
          rfl
        refine pure_ (i := 11) (N := some 43) (v := ?_) (a' := ?_) #[true, false, true, true, false, false, true, false, false, true, true, true, false, false, false, false, false, false] rfl rfl (by kernel_rfl) (fun _ _ _ h => h) (Or.inl ⟨by rfl, ?_⟩) ?_ ?_
        rotate_left
        · intro w'
          go_simp
          with_reducible rfl
        rotate_left
        · simp only [Act.put, List.setIfInBounds_toArray, List.set_cons_zero, List.set_cons_succ]
          rfl
        refine pure_ (i := 12) (N := some 44) (v := .slice (some ⟨gs, offn, none⟩) (64 - nb k) (64 - nb k)) (a' := ?_) #[true, false, true, true, false, false, true, false, false, true, true, true, true, false, false, false, false, false] rfl rfl (by kernel_rfl) (fun _ _ _ h => h) (Or.inl ⟨by rfl, ?_⟩) ?_ ?_
        · intro w'
          exact runs_slice_from (.tmp 42) (.tmp 43) rfl gs (nb k) 64 5 Try.underlying34 size5 (by rfl) (by rfl) hn64 offn hoff w'
        rotate_left
        · simp only [Act.put, List.setIfInBounds_toArray, List.set_cons_zero, List.set_cons_succ]
          rfl
        refine take_ (i := 4) (N := some 36) (v := ?_) (a' := ?_) #[true, false, true, true, true, false, true, false, false, true, true, true, true, false, false, false, false, false] rfl rfl (by kernel_rfl) (fun _ _ _ h => h) (Or.inl ⟨by rfl, ?_⟩) hHeld ?_ ?_
        rotate_left
        · intro w' s0
          go_simp
          with_reducible rfl
        rotate_left
        · simp only [Act.put, List.setIfInBounds_toArray, List.set_cons_zero, List.set_cons_succ]
          rfl
        refine pure_ (i := 5) (N := some 37) (v := ?_) (a' := ?_) #[true, false, true, true, true, true, true, false, false, true, true, true, true, false, false, false, false, false] rfl rfl (by kernel_rfl) (fun _ _ _ h => h) (Or.inl ⟨by rfl, ?_⟩) ?_ ?_
        rotate_left
        · intro w'
          go_simp
          with_reducible rfl
        rotate_left
        · simp only [Act.put, List.setIfInBounds_toArray, List.set_cons_zero, List.set_cons_succ]
          rfl
        refine pure_ (i := 7) (N := some 39) (v := .slice (some ⟨gs, t.2 * 64, none⟩) (nb k) 64) (a' := ?_) #[true, false, true, true, true, true, true, true, false, true, true, true, true, false, false, false, false, false] rfl rfl (by kernel_rfl) (fun _ _ _ h => h) (Or.inl ⟨by rfl, ?_⟩) ?_ ?_
        · intro w'
          exact runs_slice_to (.tmp 37) (.tmp 38) rfl gs (t.2 * 64) (nb k) 64 5 Try.underlying34 size5 (by rfl) (by rfl) hn64 w'
        rotate_left
        · simp only [Act.put, List.setIfInBounds_toArray, List.set_cons_zero, List.set_cons_succ]
          rfl
        refine one_ (i := 1) (N := some 33) #[true, true, true, true, true, true, true, true, false, true, true, true, true, false, false, false, false, false] rfl rfl (by kernel_rfl) (by decide) (fun K hK => ?_)
        refine value_ (w1 := (wc.drew.alloc (.cells #[] 5))) (v := .slice (some ⟨wc.heap.size, 0, none⟩) 0 0) (by rfl) rfl ?_ ?_
        · exact runs_buildSlice_none _ rfl Try.underlying23 info5
        refine hK.out _ _ (((HB2.out.drew.alloc _).cell 1)) (fun hHeld => ?_)
        clear hK K
        refine norm_ (a' := ?_) ?_ ?_
        rotate_left
        · show Act.put _ (some 33) _ = _
          simp only [Act.put, List.setIfInBounds_toArray, List.set_cons_zero, List.set_cons_succ]
          rfl
        refine one_ (i := 8) (N := some 40) #[true, true, true, true, true, true, true, true, true, true, true, true, true, false, false, false, false, false] rfl rfl (by kernel_rfl) (by decide) (fun K hK => ?_)
        refine step_append_at (by rfl) (.tmp 33) (.tmp 39) 23 (by rfl) 0 5 i5 _ 1 1 Try.underlying23 hi5 hz5 hs5 hb5 rfl (by omega) (.slice (some ⟨wc.heap.size, 0, none⟩) 0 0) 0 [] (by rfl) (owns_empty wc 5) ⟨gs, t.2 * 64, none⟩ (nb k) 64 ((new.take (nb k)).map Bv) (by rfl) (by simp [hnl]; omega) (hsrc1 _ ((Below.refl _ wc).drew.alloc (Nat.le_refl _) _)) (oneB' _) (by unfold maxLen; omega) (by omega) (by simp) ?_
        intro v8 w8 hown8 hgrow8 hnil8 hat8
        simp only [List.nil_append, Nat.zero_add] at hown8
        have hb8 := below8 hgrow8
        refine hK.out _ _ (((HB2.out.below hb8 HB2.out.lt).cell 1)) (fun hHeld => ?_)
        clear hK K
        refine norm_ (a' := ?_) ?_ ?_
        rotate_left
        · show Act.put _ (some 40) _ = _
          simp only [Act.put, List.setIfInBounds_toArray, List.set_cons_zero, List.set_cons_succ]
          rfl
        refine one_ (i := 13) (N := some 45) #[true, true, true, true, true, true, true, true, true, true, true, true, true, true, false, false, false, false] rfl rfl (by kernel_rfl) (by decide) (fun K hK => ?_)
        refine step_append_at (by rfl) (.tmp 40) (.tmp 44) 23 (by rfl) 0 5 i5 _ 1 1 Try.underlying23 hi5 hz5 hs5 hb5 rfl (by omega) v8 (nb k) _ (by rfl) hown8 ⟨gs, offn, none⟩ (64 - nb k) (64 - nb k) ((old.drop (nb k)).map Bv) (by rfl) (by simp [hol]) (hsrc2 _ hb8) (oneB' _) (by unfold maxLen; omega) (by omega) (by simp) ?_
        intro v13 w13 hown13 hgrow13 hnil13 hat13
        have hb13 := below13 hb8 hgrow13 hat8 (by simp)
        rw [show nb k + (64 - nb k) = 64 by omega, ← List.map_append] at hown13
        obtain ⟨g13, cap13, cur13, rfl, hrow13, hc1, hc2, hc3, hc4⟩ := owns_some hown13 (by omega)
        have hrg13 : w13.rangeAt g13 0 ((land old new (nb k)).map Bv) := hrow13.range 0 _ (fun j v hv => by rw [Nat.zero_add]; exact take_get hc4 hv)
        refine hK.out _ _ (((HB2.out.below hb13 HB2.out.lt).cell 1)) (fun hHeld => ?_)
        clear hK K
        refine norm_ (a' := ?_) ?_ ?_
        rotate_left
        · show Act.put _ (some 45) _ = _
          simp only [Act.put, List.setIfInBounds_toArray, List.set_cons_zero, List.set_cons_succ]
          rfl
        refine one_ (i := 14) (N := some 46) #[true, true, true, true, true, true, true, true, true, true, true, true, true, true, true, false, false, false] rfl rfl (by kernel_rfl) (by decide) (fun K hK => ?_)
        refine value_ (w1 := w13) (v := .pointer (some ⟨g13, 0, none⟩)) (by rfl) rfl (runs_arrayAt 33 (.tmp 45) rfl 64 5 Try.underlying33 _ 64 cap13 (by rfl) (by omega) w13) ?_
        refine hK.out _ _ (((HB2.out.below hb13 HB2.out.lt).cell 1)) (fun hHeld => ?_)
        clear hK K
        refine norm_ (a' := ?_) ?_ ?_
        rotate_left
        · show Act.put _ (some 46) _ = _
          simp only [Act.put, List.setIfInBounds_toArray, List.set_cons_zero, List.set_cons_succ]
          rfl
        refine one_ (i := 15) (N := some 47) #[true, true, true, true, true, true, true, true, true, true, true, true, true, true, true, true, false, false] rfl rfl (by kernel_rfl) (by decide) (fun K hK => ?_)
        refine value_ (by rfl) rfl (runs_load_at 33 (.tmp 46) rfl g13 0 (by rfl) ((land old new (nb k)).map Bv) _ hrg13 64 (by simp [hll]) Try.underlying33 rfl size33) ?_
        refine hK.out _ _ (((HB2.out.below hb13 HB2.out.lt).cell 1)) (fun hHeld => ?_)
        clear hK K
        refine norm_ (a' := ?_) ?_ ?_
        rotate_left
        · show Act.put _ (some 47) _ = _
          simp only [Act.put, List.setIfInBounds_toArray, List.set_cons_zero, List.set_cons_succ]
          rfl
        refine pure_ (i := 16) (N := some 48) (v := ?_) (a' := ?_) #[true, true, true, true, true, true, true, true, true, true, true, true, true, true, true, true, true, false] rfl rfl (by kernel_rfl) (fun _ _ _ h => h) (Or.inl ⟨by rfl, ?_⟩) ?_ ?_
        rotate_left
        · intro w'
          go_simp
          with_reducible rfl
        rotate_left
        · simp only [Act.put, List.setIfInBounds_toArray, List.set_cons_zero, List.set_cons_succ]
          rfl
        refine last_ (i := 17) (N := none) #[true, true, true, true, true, true, true, true, true, true, true, true, true, true, true, true, true, true] rfl rfl (by kernel_rfl) (by decide) (fun K hK => ?_)
        refine skip_ (by rfl) rfl (runs_store_at 34 (.tmp 48) (.tmp 47) rfl gs 0 (by rfl) ((land old new (nb k)).map Bv) (by rfl) (hrowS.below hb13 hrowS.lt) 64 (by simp [hll]) (by omega) size34 (oneB' _)) ?_
        refine hK.out _ _ ?_
        clear hK K
        refine done_ (by kernel_rfl) ?_
        --E5
        have hfin := HR2.out.setBase hb13 t.1 hFt.out (land old new (nb k)) hll
        have hbk : fset (landed rest nb tick base k) t.1 (land old new (nb k)) = landed rest nb tick base (k + 1) := by
          rw [hOl.out, hNw.out]
          simp only [landed, hTK.out]
        rw [hbk] at hfin
        have hF1 := Lib.hid hfin.1
        have hF2 := Lib.hid (HM2.out.trans hfin.2)
        generalize w13.setCells gs 0 ((land old new (nb k)).map Bv) = w17 at *
        clear hfin hbk hrg13 hown13 hown8 hgrow8 hgrow13 hrow13 hc4 hsrcA hsrcB hsrc1 hsrc2 hrowS
        go_wp2
        go_roundw
        case rel => exact ⟨k + 1, by omega, by go_num, hF1, hF2⟩
        case measure => simp [intOf]; omega
    · obtain rfl : k = tick.length := by omega
      have H2 : wr.cell? ⟨p, 2, none⟩ = some (.slice wa tick.length wcap) := by rw [hr.out.row.cell]; rfl
      obtain ⟨wo, hwo⟩ : ∃ wo : World, wo = wr := ⟨_, rfl⟩
      obtain ⟨bs, hbs⟩ : ∃ bs, bs = landed rest nb tick base tick.length := ⟨_, rfl⟩
      rw [← hwo, ← hbs] at hr
      rw [← hwo] at hm H2 ⊢
      have hBS := Lib.hid hbs
      clear hwo hbs
      go_wp2_with fail
      go_loopw [55] (fun i wr => ∃ k : Nat, k ≤ tick.length ∧ i = .int .i64 k ∧ Hid (∃ f', RepX wr p role M (.slice wa tick.length wcap) actsV f' size bs (cleared rest tick k) tick fuse dead ∧ ∀ t ∈ tick, f' (t.1 : Nat) ≠ none) ∧ Hid (Moves w role wr role))
        (fun i _ => tick.length - (intOf i).toNat)
      case atStart => exact ⟨0, Nat.zero_le _, rfl, Lib.hid ⟨f, hr.out, fun t ht hn => by
        have h1 := hr.out.shape t.1
        rw [hn] at h1
        have h2 := HTO.out t ht
        rw [h1.2] at h2; simp at h2; omega⟩, hm⟩
      case round =>
      obtain ⟨k, hk, rfl, hr', hm'⟩ := hrel
      obtain ⟨f', hrr, hft⟩ := hr'.out
      have hFT := Lib.hid hft
      have hr := Lib.hid hrr
      clear hr' hrr hft H2
      by_cases hlt : k < tick.length
      · obtain ⟨t, htk⟩ : ∃ t, tick[k]? = some t := ⟨tick[k], by simp⟩
        obtain ⟨g, rfl, hgw, hc0, hc1⟩ := hr.out.ticket htk
        have hTK := Lib.hid htk
        clear htk hgw
        go_upto_region 10 with fail
        have hr1 := hr.out.below ((Below.refl _ _).alloc (Nat.le_refl _) (.cells #[.int .i64 (t.1 : Int), .int .i64 (t.2 : Int)] 126))
        have hm1 := hm'.out.trans (Moves.of_below (role := role) ((Below.refl wr.heap.size wr).alloc (Nat.le_refl _) (.cells #[.int .i64 (t.1 : Int), .int .i64 (t.2 : Int)] 126)))
        have hb1 := Row.new wr [.int .i64 (t.1 : Int), .int .i64 (t.2 : Int)] 126
        generalize wr.alloc (.cells #[.int .i64 (t.1 : Int), .int .i64 (t.2 : Int)] 126) = W1 at *
        generalize wr.heap.size = b at *
        obtain ⟨gs, sn, scap, hf1, hsn, hsc⟩ := hr1.sliceSome t.1 (hFT.out t (List.mem_of_getElem? hTK.out))
        have he : (f' t.1).getD (.slice none 0 0) = .slice (some ⟨gs, 0, none⟩) sn scap := by rw [hf1]; rfl
        obtain ⟨W5, hup, hmap5, hg5, hs5, hd5⟩ := hr1.drew.map.update (P := Try.prog) (T := 117) (K := 3) (E := 41) Try.underlying117 Try.underlying3 t.1 (.slice (some ⟨gs, 0, none⟩) 1 scap)
        have hcap : (1 : Int) ≤ scap := by omega
        have hcut := Lib.hid (hr1.drew.cutShape t.1 hf1 hmap5 hg5)
        have HR1 := Lib.hid hr1
        have HM1 := Lib.hid hm1
        have HB1 := Lib.hid hb1
        have HF1 := Lib.hid hf1
        clear hr1 hm1 hb1 hf1 hsn hsc hmap5 hg5 hs5 hd5 hc0 hc1 hr hm' hm
--R10
        refine start_ (n := 15) (S := fun w' => w'.cell? ⟨p, 0, none⟩ = some (.map (some M)) ∧ w'.cell? ⟨b, 0, none⟩ = some (.int .i64 (t.1 : Int)) ∧ (Instr.lookup 117 (.map (some M)) (.int .i64 (t.1 : Int)) false).run Try.prog w' = .ok (.slice (some ⟨gs, 0, none⟩) sn scap) w') (ds := [14]) #[false, false, false, false, false, false, false, false, false, false, false, false, false, false, false] (by kernel_rfl) rfl rfl ⟨(HR1.out.row.drew.cell 0), (HB1.out.drew.cell 0), (looks' he _ HR1.out.drew.map)⟩ (fun hHeld => ?_)
        refine pure_ (i := 0) (N := some 59) (v := ?_) (a' := ?_) #[true, false, false, false, false, false, false, false, false, false, false, false, false, false, false] rfl rfl (by kernel_rfl) (fun _ _ _ h => h) (Or.inl ⟨by rfl, ?_⟩) ?_ ?_
        rotate_left
        · intro w'
          go_simp
          with_reducible rfl
        rotate_left
        · simp only [Act.put, List.setIfInBounds_toArray, List.set_cons_zero, List.set_cons_succ]
          rfl
        refine pure_ (i := 1) (N := some 60) (v := ?_) (a' := ?_) #[true, true, false, false, false, false, false, false, false, false, false, false, false, false, false] rfl rfl (by kernel_rfl) (fun _ _ _ h => h) (Or.inl ⟨by rfl, ?_⟩) ?_ ?_
        rotate_left
        · intro w'
          go_simp
          with_reducible rfl
        rotate_left
        · simp only [Act.put, List.setIfInBounds_toArray, List.set_cons_zero, List.set_cons_succ]
          rfl
        refine pure_ (i := 2) (N := some 61) (v := ?_) (a' := ?_) #[true, true, true, false, false, false, false, false, false, false, false, false, false, false, false] rfl rfl (by kernel_rfl) (fun _ _ _ h => h) (Or.inl ⟨by rfl, ?_⟩) ?_ ?_
        rotate_left
        · intro w'
          go_simp
          with_reducible rfl
        rotate_left
        · simp only [Act.put, List.setIfInBounds_toArray, List.set_cons_zero, List.set_cons_succ]
          rfl
        refine pure_ (i := 4) (N := some 63) (v := ?_) (a' := ?_) #[true, true, true, false, true, false, false, false, false, false, false, false, false, false, false] rfl rfl (by kernel_rfl) (fun _ _ _ h => h) (Or.inl ⟨by rfl, ?_⟩) ?_ ?_
        rotate_left
        · intro w'
          go_simp
          with_reducible rfl
        rotate_left
        · simp only [Act.put, List.setIfInBounds_toArray, List.set_cons_zero, List.set_cons_succ]
          rfl
        refine pure_ (i := 6) (N := some 65) (v := ?_) (a' := ?_) #[true, true, true, false, true, false, true, false, false, false, false, false, false, false, false] rfl rfl (by kernel_rfl) (fun _ _ _ h => h) (Or.inl ⟨by rfl, ?_⟩) ?_ ?_
        rotate_left
        · intro w'
          go_simp
          with_reducible rfl
        rotate_left
        · simp only [Act.put, List.setIfInBounds_toArray, List.set_cons_zero, List.set_cons_succ]
          rfl
        refine pure_ (i := 7) (N := some 66) (v := ?_) (a' := ?_) #[true, true, true, false, true, false, true, true, false, false, false, false, false, false, false] rfl rfl (by kernel_rfl) (fun _ _ _ h => h) (Or.inl ⟨by rfl, ?_⟩) ?_ ?_
        rotate_left
        · intro w'
          go_simp
          with_reducible rfl
        rotate_left
        · simp only [Act.put, List.setIfInBounds_toArray, List.set_cons_zero, List.set_cons_succ]
          rfl
        refine pure_ (i := 8) (N := some 67) (v := ?_) (a' := ?_) #[true, true, true, false, true, false, true, true, true, false, false, false, false, false, false] rfl rfl (by kernel_rfl) (fun _ _ _ h => h) (Or.inl ⟨by rfl, ?_⟩) ?_ ?_
        rotate_left
        · intro w'
          go_simp
          with_reducible rfl
        rotate_left
        · simp only [Act.put, List.setIfInBounds_toArray, List.set_cons_zero, List.set_cons_succ]
          rfl
        refine pure_ (i := 10) (N := some 69) (v := ?_) (a' := ?_) #[true, true, true, false, true, false, true, true, true, false, true, false, false, false, false] rfl rfl (by kernel_rfl) (fun _ _ _ h => h) (Or.inl ⟨by rfl, ?_⟩) ?_ ?_
        rotate_left
        · intro w'
          go_simp
          with_reducible rfl
        rotate_left
        · simp only [Act.put, List.setIfInBounds_toArray, List.set_cons_zero, List.set_cons_succ]
          rfl
        refine take_ (i := 3) (N := some 62) (v := ?_) (a' := ?_) #[true, true, true, true, true, false, true, true, true, false, true, false, false, false, false] rfl rfl (by kernel_rfl) (fun _ _ _ h => h) (Or.inl ⟨by rfl, ?_⟩) hHeld ?_ ?_
        rotate_left
        · rintro w' ⟨s0, s1, s2⟩
          go_simp
          with_reducible rfl
        rotate_left
        · simp only [Act.put, List.setIfInBounds_toArray, List.set_cons_zero, List.set_cons_succ]
          rfl
        refine take_ (i := 5) (N := some 64) (v := ?_) (a' := ?_) #[true, true, true, true, true, true, true, true, true, false, true, false, false, false, false] rfl rfl (by kernel_rfl) (fun _ _ _ h => h) (Or.inl ⟨by rfl, ?_⟩) hHeld ?_ ?_
        rotate_left
        · rintro w' ⟨s0, s1, s2⟩
          go_simp
          with_reducible rfl
        rotate_left
        · simp only [Act.put, List.setIfInBounds_toArray, List.set_cons_zero, List.set_cons_succ]
          rfl
        refine take_ (i := 9) (N := some 68) (v := ?_) (a' := ?_) #[true, true, true, true, true, true, true, true, true, true, true, false, false, false, false] rfl rfl (by kernel_rfl) (fun _ _ _ h => h) (Or.inl ⟨by rfl, ?_⟩) hHeld ?_ ?_
        rotate_left
        · rintro w' ⟨s0, s1, s2⟩
          go_simp
          with_reducible rfl
        rotate_left
        · simp only [Act.put, List.setIfInBounds_toArray, List.set_cons_zero, List.set_cons_succ]
          rfl
        refine take_ (i := 11) (N := some 70) (v := ?_) (a' := ?_) #[true, true, true, true, true, true, true, true, true, true, true, true, false, false, false] rfl rfl (by kernel_rfl) (fun _ _ _ h => h) (Or.inl ⟨by rfl, ?_⟩) hHeld ?_ ?_
        rotate_left
        · rintro w' ⟨s0, s1, s2⟩
          go_simp
          with_reducible rfl
        rotate_left
        · simp only [Act.put, List.setIfInBounds_toArray, List.set_cons_zero, List.set_cons_succ]
          rfl
        refine take_ (i := 12) (N := some 71) (v := .slice (some ⟨gs, 0, none⟩) sn scap) (a' := ?_) #[true, true, true, true, true, true, true, true, true, true, true, true, true, false, false] rfl rfl (by kernel_rfl) (fun _ _ _ h => h) (Or.inl ⟨by rfl, ?_⟩) hHeld ?_ ?_
        · rintro w' ⟨s0, s1, s2⟩
          exact runs_lookup (M := .map (some M)) (kv := .int .i64 (t.1 : Int)) (.tmp 68) (.tmp 70) rfl (by rfl) (by rfl) s2
        rotate_left
        · simp only [Act.put, List.setIfInBounds_toArray, List.set_cons_zero, List.set_cons_succ]
          rfl
        refine pure_ (i := 13) (N := some 72) (v := ?_) (a' := ?_) #[true, true, true, true, true, true, true, true, true, true, true, true, true, true, false] rfl rfl (by kernel_rfl) (fun _ _ _ h => h) (Or.inl ⟨by rfl, ?_⟩) ?_ ?_
        rotate_left
        · intro w'
          go_simp
          with_reducible rfl
        rotate_left
        · simp only [Act.put, List.setIfInBounds_toArray, List.set_cons_zero, List.set_cons_succ]
          rfl
        refine last_ (i := 14) (N := none) #[true, true, true, true, true, true, true, true, true, true, true, true, true, true, true] rfl rfl (by kernel_rfl) (by decide) (fun K hK => ?_)
        refine skip_ (by rfl) rfl (runs_mapUpdate (.tmp 62) (.tmp 64) (.tmp 72) rfl (by rfl) (by rfl) (by rfl) hup) ?_
        refine hK.out _ _ ?_
        clear hK K
        refine done_ (by kernel_rfl) ?_
--E10
        have hck : fset (cleared rest tick k) t.1 [] = cleared rest tick (k + 1) := by simp only [cleared, hTK.out]
        have hF1 := hcut.out.1
        rw [hck] at hF1
        have hFT2 : ∀ t' ∈ tick, upd f' (t.1 : Nat) (.slice (some ⟨gs, 0, none⟩) 1 scap) (t'.1 : Nat) ≠ none := fun t' ht' => by
          unfold upd
          split
          · simp
          · exact hFT.out t' ht'
        have hG1 := Lib.hid (p := ∃ f'', RepX W5 p role M (.slice (some ⟨g, 0, none⟩) tick.length wcap) actsV f'' size bs (cleared rest tick (k + 1)) tick fuse dead ∧ ∀ t ∈ tick, f'' (t.1 : Nat) ≠ none) ⟨_, hF1, hFT2⟩
        have hG2 := Lib.hid (HM1.out.trans (Moves.trans ((Moves.refl W1 role).drew) hcut.out.2))
        clear hck hF1 hup he hFT2
        go_wp2
        go_roundw
        case rel => exact ⟨k + 1, by omega, by go_num, hG1, hG2⟩
        case measure => simp [intOf]; omega
      · obtain rfl : k = tick.length := by omega
        have H2 : wr.cell? ⟨p, 2, none⟩ = some (.slice wa tick.length wcap) := by rw [hr.out.row.cell]; rfl
        have F2 : wr.frozen? ⟨p, 2, none⟩ = false := hr.out.row.thaw 2
        go_wp2
        go_end0
        have hw := hr.out.way0
        rw [hBS.out] at hw
        exact ⟨rfl, _, _, hw.1, hm'.out.trans hw.2⟩

end Go.Proofs.Ytpddbffamejgeaa
