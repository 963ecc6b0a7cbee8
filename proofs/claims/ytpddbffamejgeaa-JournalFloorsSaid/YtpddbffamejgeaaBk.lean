/- journal: Compact. -/
import Derived.Test.YtpddbffamejgeaaBj
import Derived.Test.YtpddbffamejgeaaBg
namespace Go.Proofs.Ytpddbffamejgeaa
open Go.RowKit Go.Proofs.YtpddbffamejgeaaW.PrintLast

theorem step_append_src {ops : Array Oper} {o : Oper} {a : Act} {w : World} {K : Act → World → Prop} {Q : Exit → Act → World → Prop} {E : Prop} (hgd : o.guard = none) (s x : Operand)
    (ho : o.op = .call { callee := .builtin .append, args := #[s, x], argTypes := #[23, 23] }) (base : Nat) (v : Value) (n : Nat) (xs : List Value) (hs : a.eval s = v) (hown : w.ownsRow base 5 1 v n xs)
    (pa : Option Addr) (l : List UInt8) (m c : Nat) (hm : m = l.length) (hx : a.eval x = .slice pa m c) (hsrc : Src w pa (l.map Bv)) (h63 : n + l.length ≤ 140737488355328) (hbase : base ≤ w.heap.size)
    (h : ∀ v' w', w'.ownsRow base 5 1 v' (n + l.length) (xs ++ l.map Bv) → w.grownBy w' v.ownBlock → K (a.put o.dst v') w') :
    if Region.wanted o (yielded ops a.tmps) = true then Oper.wp Try.prog o a w K Q else E := by
  have hw : Region.wanted o (yielded ops a.tmps) = true := by simp [Region.wanted, hgd]
  rw [if_pos hw]
  subst hm
  obtain ⟨v', w', hr, h2, h3⟩ := run_append_src w base o.type v n xs hown pa l c hsrc h63 hbase
  unfold Oper.wp execOp
  simp only [ho, resolve, invoke, builtin, Sem.run_bind, Sem.run_pure, Result.andThen_ok, List.map_toArray, List.map_cons, List.map_nil, hs, hx, hr]
  exact h v' w' h2 h3
/-- Another state: the disk, whether it is ready, the log, what is answered. -/
def compactD (d : DS) (size : Nat) (ready : Bool) (l : LogV) (st : List UInt8) : DS × Bool × LogV × Nat :=
  if st.length > 12288 ∨ l.stamp - 1 > 1152921504606846976 then (d, ready, l, 121)
  else if (slotWrite d 0 size (numN (l.stamp - 1) ++ st)).2.2 ≠ 0 then ((slotWrite d 0 size (numN (l.stamp - 1) ++ st)).1, ready && ((slotWrite d 0 size (numN (l.stamp - 1) ++ st)).2.2 != 82), l, (slotWrite d 0 size (numN (l.stamp - 1) ++ st)).2.2)
  else ((slotWrite d 0 size (numN (l.stamp - 1) ++ st)).1, true, (slotWrite d 0 size (numN (l.stamp - 1) ++ st)).1.logV (2 * size) (slotWrite d 0 size (numN (l.stamp - 1) ++ st)).1.size (l.stamp - 1), 0)
def JCPost (p q g size : Nat) (role : Nat → Option Own) (x : DS × Bool × LogV × Nat) (w : World) (e : Ending) (w' : World) : Prop :=
  e = .returned (.int .i64 (x.2.2.2 : Nat)) ∧ ∃ role' g', (g' = g ∨ w.heap.size ≤ g') ∧ DiskAt w' p role' x.1 ∧ JAt w' p q g' role' size x.2.1 x.2.2.1 ∧ Moves w (jr role q g) w' (jr role' q g')
theorem puts_err : ∀ (a t n : Nat) (b : List UInt8) (m i : Nat) (d : DS), (d.puts a t n b i m).2 ≤ 82 := by
  intro a t n b m
  induction m with
  | zero => intro i d; simp [DS.puts]
  | succ m ih =>
    intro i d
    simp only [DS.puts]
    split
    · exact ih _ _
    · unfold DS.put; split <;> simp
theorem write_err (d : DS) (a : Int) (n : Nat) (b : List UInt8) : (d.write a n b).2 ≤ 91 := by
  unfold DS.write
  split
  · simp
  split
  · simp
  have := puts_err a.toNat (spanN b.length) n b (spanN b.length) 0 d
  omega
theorem flush_err (d : DS) : d.flush.2 ≤ 82 := by unfold DS.flush; split <;> simp
theorem flush_size (d : DS) : d.flush.1.size = d.size := by unfold DS.flush; split <;> simp [DS.act]
theorem slotWrite_err (d : DS) (f s : Nat) (b : List UInt8) : (slotWrite d f s b).2.2 ≤ 111 ∧ (slotWrite d f s b).1.size = d.size := by
  unfold slotWrite
  have h1 := write_err d ((f + s * (d.nextGen f s % 2) : Nat) : Int) (d.nextGen f s) (sealedN b)
  have h2 := flush_err (d.write ((f + s * (d.nextGen f s % 2) : Nat) : Int) (d.nextGen f s) (sealedN b)).1
  have h3 := (write_len d ((f + s * (d.nextGen f s % 2) : Nat) : Int) (d.nextGen f s) (sealedN b)).1
  have h4 := flush_size (d.write ((f + s * (d.nextGen f s % 2) : Nat) : Int) (d.nextGen f s) (sealedN b)).1
  split
  · exact ⟨Nat.le_refl _, rfl⟩
  split
  · exact ⟨by simp only; omega, h3⟩
  split
  · exact ⟨by simp only; omega, by rw [h4]; exact h3⟩
  · exact ⟨by simp, by rw [h4]; exact h3⟩

set_option maxRecDepth 100000 in
set_option maxHeartbeats 3200000 in
theorem compact_any {w : World} {p q g size : Nat} {role : Nat → Option Own} {d : DS} {ready : Bool} {l : LogV} (h : DiskAt w p role d) (hj : JAt w p q g role size ready l) (hs1 : 1 ≤ size) (hs2 : size ≤ 255) (hfit : 2 * size < d.size)
    (hst0 : l.stamp ≠ 0) (hst : l.stamp < 18446744073709551616) (b : List UInt8) (ba : Option Addr) (bc : Nat) (hb : BArg w role ba b bc) (hbl : b.length ≤ 800000) (hq : d.queue.length ≤ 700000) :
    Calls Try.prog 55 #[.pointer (some ⟨q, 0, none⟩), .slice ba b.length bc] w (JCPost p q g size role (compactD d size ready l b) w) := by
  obtain ⟨fl, hfl⟩ : ∃ fl, fl = l.stamp - 1 := ⟨_, rfl⟩
  obtain ⟨Z, hZ⟩ : ∃ Z, Z = compactD d size ready l b := ⟨_, rfl⟩
  rw [← hZ]
  obtain ⟨cn, hcn⟩ : ∃ cn, cn = numN fl ++ b := ⟨_, rfl⟩
  obtain ⟨x, hx⟩ : ∃ x, x = slotWrite d 0 size cn := ⟨_, rfl⟩
  unfold compactD at hZ
  rw [← hfl, ← hcn, ← hx] at hZ
  have hxe := slotWrite_err d 0 size cn
  rw [← hx] at hxe
  have hnl := numN_le10 (n := fl) (by omega)
  have hcl : cn.length = (numN fl).length + b.length := by rw [hcn]; simp
  have c2 := (jfacts hj.row).2.2.1
  unfold ptr at c2
  have hstamp : Calls Try.prog 39 #[.pointer (some ⟨g, 0, none⟩)] w fun e w' => e = .returned (.int .u64 (l.stamp : Nat)) ∧ w = w' := logstamp_any hj.log
  have hsub : IntKind.u64.wrap ((l.stamp : Int) - 1) = (fl : Int) := by rw [u64_wrap]; omega
  have hsub2 : ((l.stamp : Int) - 1) = (fl : Int) := by omega
  have HST := Lib.hid hstamp
  have HJ := Lib.hid hj
  have HD := Lib.hid h
  have HB := Lib.hid hb
  have HZ := Lib.hid hZ
  have HXE := Lib.hid hxe
  have HCN := Lib.hid hcn
  have HX := Lib.hid hx
  have HNL := Lib.hid hnl
  have HCL := Lib.hid hcl
  obtain ⟨sp, hsp⟩ : ∃ sp, sp = l.stamp := ⟨_, rfl⟩
  have HSPL := Lib.hid hsp
  rw [← hsp] at HST hsub hsub2 hst hst0 hfl
  have hfl64 : fl < 18446744073709551616 := by omega
  have HFL := Lib.hid hfl
  clear hstamp hj h hb hZ hxe hcn hx hnl hcl hsp hfl
  by_cases cA : 12288 < b.length ∨ 1152921504606846976 < fl
  · have hz : Z = (d, ready, l, 121) := by have := HZ.out; rwa [if_pos cA] at this
    have HZ2 := Lib.hid hz
    clear hz HZ
    by_cases c1 : (12288 : Int) < b.length
    · clear cA
      go_enter Try.func55, Try.ntmps55
      go_wp2_with (go_at_call 39; refine HST.out.mono ?_; rintro e w' ⟨rfl, rfl⟩)
      go_ret
      rw [HZ2.out]
      exact ⟨rfl, role, g, Or.inl rfl, HD.out, HJ.out, Moves.refl _ _⟩
    · have c1' : ((1152921504606846976 : Int)) < fl := by omega
      clear cA
      go_enter Try.func55, Try.ntmps55
      go_wp2_with (go_at_call 39; refine HST.out.mono ?_; rintro e w' ⟨rfl, rfl⟩)
      go_ret
      rw [HZ2.out]
      exact ⟨rfl, role, g, Or.inl rfl, HD.out, HJ.out, Moves.refl _ _⟩
  have cB : ¬ ((12288 : Int) < b.length) := by omega
  have cC : ¬ ((1152921504606846976 : Int) < fl) := by omega
  have hZ1 := HZ.out
  rw [if_neg cA] at hZ1
  have HZ1 := Lib.hid hZ1
  clear hZ1 HZ cA
  have hsw : ∀ W oa oc, DiskAt W p role d → BArg W role oa cn oc → Calls Try.prog 42 #[.pointer (some ⟨p, 0, none⟩), .int .i64 0, .int .i64 size, .slice oa cn.length oc] W (SlotWritePost p role x W) := fun W oa oc h1 h2 => by
    have := slotwrite_any h1 0 size hs1 hs2 (by omega) cn oa oc h2 (by have := HCL.out; have := HNL.out; omega) (by omega)
    rw [← HX.out] at this
    exact this
  have HSW := Lib.hid hsw
  clear hsw
  have HBD := Lib.hid ((Below.refl w.heap.size w).drew)
  have HRD := Lib.hid HJ.out.row.drew
  have HBA := Lib.hid (HBD.out.alloc (Nat.le_refl _) (.cells #[.int .u64 (fl : Nat)] 22))
  have HRA := Lib.hid (HJ.out.row.below HBA.out HJ.out.row.lt)
  have HNEW := Lib.hid (Row.new w.drew [.int .u64 (fl : Nat)] 22)
  go_enter Try.func55, Try.ntmps55
  go_upto_region 4 with (go_at_call 39; refine HST.out.mono ?_; rintro e w' ⟨rfl, rfl⟩)
  clear c2
--B4
  refine start_ (n := 19) (S := fun w' => w'.cell? ⟨q, 0, none⟩ = some (.pointer (some ⟨p, 0, none⟩)) ∧ w'.cell? ⟨q, 1, none⟩ = some (.int .i64 (size : Nat))) (ds := []) #[false, false, false, false, false, false, false, false, false, false, false, false, false, false, false, false, false, false, false] (by kernel_rfl) rfl rfl ⟨(jfacts HRD.out).1, (jfacts HRD.out).2.1⟩ (fun hHeld => ?_)
  refine pure_ (i := 0) (N := some 24) (v := ?_) (a' := ?_) #[true, false, false, false, false, false, false, false, false, false, false, false, false, false, false, false, false, false, false] rfl rfl (by kernel_rfl) (fun _ _ _ h => h) (Or.inl ⟨by rfl, ?_⟩) ?_ ?_
  rotate_left
  · intro w'
    go_simp
    with_reducible rfl
  rotate_left
  · simp only [Act.put, List.setIfInBounds_toArray, List.set_cons_zero, List.set_cons_succ]
    rfl
  refine pure_ (i := 1) (N := some 25) (v := ?_) (a' := ?_) #[true, true, false, false, false, false, false, false, false, false, false, false, false, false, false, false, false, false, false] rfl rfl (by kernel_rfl) (fun _ _ _ h => h) (Or.inl ⟨by rfl, ?_⟩) ?_ ?_
  rotate_left
  · intro w'
    go_simp
    with_reducible rfl
  rotate_left
  · simp only [Act.put, List.setIfInBounds_toArray, List.set_cons_zero, List.set_cons_succ]
    rfl
  refine pure_ (i := 2) (N := some 26) (v := ?_) (a' := ?_) #[true, true, true, false, false, false, false, false, false, false, false, false, false, false, false, false, false, false, false] rfl rfl (by kernel_rfl) (fun _ _ _ h => h) (Or.inl ⟨by rfl, ?_⟩) ?_ ?_
  rotate_left
  · intro w'
    go_simp
    with_reducible rfl
  rotate_left
  · simp only [Act.put, List.setIfInBounds_toArray, List.set_cons_zero, List.set_cons_succ]
    rfl
  refine pure_ (i := 4) (N := some 28) (v := ?_) (a' := ?_) #[true, true, true, false, true, false, false, false, false, false, false, false, false, false, false, false, false, false, false] rfl rfl (by kernel_rfl) (fun _ _ _ h => h) (Or.inl ⟨by rfl, ?_⟩) ?_ ?_
  rotate_left
  · intro w'
    go_simp
    with_reducible rfl
  rotate_left
  · simp only [Act.put, List.setIfInBounds_toArray, List.set_cons_zero, List.set_cons_succ]
    rfl
  refine pure_ (i := 5) (N := some 29) (v := ?_) (a' := ?_) #[true, true, true, false, true, true, false, false, false, false, false, false, false, false, false, false, false, false, false] rfl rfl (by kernel_rfl) (fun _ _ _ h => h) (Or.inl ⟨by rfl, ?_⟩) ?_ ?_
  rotate_left
  · intro w'
    go_simp
    with_reducible rfl
  rotate_left
  · simp only [Act.put, List.setIfInBounds_toArray, List.set_cons_zero, List.set_cons_succ]
    rfl
  refine pure_ (i := 6) (N := some 30) (v := ?_) (a' := ?_) #[true, true, true, false, true, true, true, false, false, false, false, false, false, false, false, false, false, false, false] rfl rfl (by kernel_rfl) (fun _ _ _ h => h) (Or.inl ⟨by rfl, ?_⟩) ?_ ?_
  rotate_left
  · intro w'
    go_simp
    with_reducible rfl
  rotate_left
  · simp only [Act.put, List.setIfInBounds_toArray, List.set_cons_zero, List.set_cons_succ]
    rfl
  refine pure_ (i := 8) (N := some 32) (v := ?_) (a' := ?_) #[true, true, true, false, true, true, true, false, true, false, false, false, false, false, false, false, false, false, false] rfl rfl (by kernel_rfl) (fun _ _ _ h => h) (Or.inl ⟨by rfl, ?_⟩) ?_ ?_
  rotate_left
  · intro w'
    go_simp
    with_reducible rfl
  rotate_left
  · simp only [Act.put, List.setIfInBounds_toArray, List.set_cons_zero, List.set_cons_succ]
    rfl
  refine pure_ (i := 11) (N := some 35) (v := ?_) (a' := ?_) #[true, true, true, false, true, true, true, false, true, false, false, true, false, false, false, false, false, false, false] rfl rfl (by kernel_rfl) (fun _ _ _ h => h) (Or.inl ⟨by rfl, ?_⟩) ?_ ?_
  rotate_left
  · intro w'
    go_simp
    with_reducible rfl
  rotate_left
  · simp only [Act.put, List.setIfInBounds_toArray, List.set_cons_zero, List.set_cons_succ]
    rfl
  refine take_ (i := 3) (N := some 27) (v := ?_) (a' := ?_) #[true, true, true, true, true, true, true, false, true, false, false, true, false, false, false, false, false, false, false] rfl rfl (by kernel_rfl) (fun _ _ _ h => h) (Or.inl ⟨by rfl, ?_⟩) hHeld ?_ ?_
  rotate_left
  · rintro w' ⟨s0, s1⟩
    go_simp
    with_reducible rfl
  rotate_left
  · simp only [Act.put, List.setIfInBounds_toArray, List.set_cons_zero, List.set_cons_succ]
    rfl
  refine take_ (i := 7) (N := some 31) (v := ?_) (a' := ?_) #[true, true, true, true, true, true, true, true, true, false, false, true, false, false, false, false, false, false, false] rfl rfl (by kernel_rfl) (fun _ _ _ h => h) (Or.inl ⟨by rfl, ?_⟩) hHeld ?_ ?_
  rotate_left
  · rintro w' ⟨s0, s1⟩
    go_simp
    with_reducible rfl
  rotate_left
  · simp only [Act.put, List.setIfInBounds_toArray, List.set_cons_zero, List.set_cons_succ]
    rfl
  refine one_ (i := 9) (N := some 33) #[true, true, true, true, true, true, true, true, true, true, false, true, false, false, false, false, false, false, false] rfl rfl (by kernel_rfl) (by decide) (fun K hK => ?_)
  refine value_ (w1 := ?_) (v := ?_) (by rfl) rfl ?_ ?_
  rotate_left 2
  · go_simp
    constructor
    · rfl
    · rfl
  refine hK.out _ _ ⟨(jfacts HRA.out).1, (jfacts HRA.out).2.1⟩ (fun hHeld => ?_)
  clear hK K
  refine norm_ (a' := ?_) ?_ ?_
  rotate_left
  · show Act.put _ (some 33) _ = _
    simp only [Act.put, List.setIfInBounds_toArray, List.set_cons_zero, List.set_cons_succ]
    rfl
  refine one_ (i := 10) (N := some 34) #[true, true, true, true, true, true, true, true, true, true, true, true, false, false, false, false, false, false, false] rfl rfl (by kernel_rfl) (by decide) (fun K hK => ?_)
  refine goes_ Try.func94 (by kernel_rfl) rfl #[.slice none 0 0, .slice (some ⟨w.heap.size, 0, none⟩) 1 1] (by rfl) rfl rfl (by simp only [List.map_toArray, List.map_cons, List.map_nil]; rfl) ?_
  with_reducible refine (num_any _ fl hfl64 w.heap.size HNEW.out).mono ?_
  rintro e w3 ⟨v3, rfl, hown3, hb3⟩
  refine ⟨_, rfl, ?_⟩
  have HO3 := Lib.hid hown3
  have HB3 := Lib.hid (HBA.out.trans (hb3.mono HBA.out.size))
  have HR3 := Lib.hid (HJ.out.row.below HB3.out HJ.out.row.lt)
  have HS3 := Lib.hid hb3.size
  clear hown3 hb3
  refine hK.out _ _ ⟨(jfacts HR3.out).1, (jfacts HR3.out).2.1⟩ (fun hHeld => ?_)
  clear hK K
  refine norm_ (a' := ?_) ?_ ?_
  rotate_left
  · show Act.put _ (some 34) _ = _
    simp only [Act.put, List.setIfInBounds_toArray, List.set_cons_zero, List.set_cons_succ]
    rfl
  refine one_ (i := 12) (N := some 36) #[true, true, true, true, true, true, true, true, true, true, true, true, true, false, false, false, false, false, false] rfl rfl (by kernel_rfl) (by decide) (fun K hK => ?_)
  refine step_append_src (by rfl) (.tmp 34) (.tmp 35) (by rfl) _ v3 _ _ (by rfl) HO3.out ba b b.length bc rfl (by rfl) (HB.out.src.below HB3.out) (by have := HNL.out; omega) HS3.out ?_
  intro v4 w4 hown4 hg4
  have HO4 := Lib.hid hown4
  have HB4 := Lib.hid (HB3.out.grown hg4 HB3.out.size (fun g hg => Nat.le_trans HBA.out.size (HO3.out.lt g hg).1))
  have HR4 := Lib.hid (HJ.out.row.below HB4.out HJ.out.row.lt)
  have HD4 := Lib.hid (HD.out.below HB4.out)
  clear hown4 hg4
  rw [show (numN fl).map Bv ++ b.map Bv = cn.map Bv by rw [HCN.out, List.map_append], ← HCL.out] at HO4
  obtain ⟨oa, oc, rfl, hs4, hf4, hm4, ho4⟩ := owns_at HO4.out
  have HBA4 := Lib.hid (barg_made HD.out hs4 hf4 hm4 (fun ad e => ⟨Nat.le_trans HBA.out.size (ho4 ad e).1, (ho4 ad e).2⟩))
  clear hs4 ho4
  refine hK.out _ _ ⟨(jfacts HR4.out).1, (jfacts HR4.out).2.1⟩ (fun hHeld => ?_)
  clear hK K
  refine norm_ (a' := ?_) ?_ ?_
  rotate_left
  · show Act.put _ (some 36) _ = _
    simp only [Act.put, List.setIfInBounds_toArray, List.set_cons_zero, List.set_cons_succ]
    rfl
  refine one_ (i := 13) (N := some 37) #[true, true, true, true, true, true, true, true, true, true, true, true, true, true, false, false, false, false, false] rfl rfl (by kernel_rfl) (by decide) (fun K hK => ?_)
  refine goes_ Try.func42 (by kernel_rfl) rfl #[.pointer (some ⟨p, 0, none⟩), .int .i64 0, .int .i64 size, .slice oa cn.length oc] (by rfl) rfl rfl (by simp only [List.map_toArray, List.map_cons, List.map_nil]; rfl) ?_
  with_reducible refine (HSW.out _ _ _ HD4.out HBA4.out).mono ?_
  rintro e w5 ⟨rfl, r5, hd5, hm5⟩
  refine ⟨_, rfl, ?_⟩
  have HJ5 := Lib.hid ((HJ.out.below HB4.out).moves hm5)
  have HD5 := Lib.hid hd5
  have HM5 := Lib.hid ((Moves.of_below HB4.out).trans hm5)
  clear hd5 hm5
  refine hK.out _ _ ⟨(jfacts HJ5.out.row).1, (jfacts HJ5.out.row).2.1⟩ (fun hHeld => ?_)
  clear hK K
  refine norm_ (a' := ?_) ?_ ?_
  rotate_left
  · show Act.put _ (some 37) _ = _
    simp only [Act.put, List.setIfInBounds_toArray, List.set_cons_zero, List.set_cons_succ]
    rfl
  refine pure_ (i := 14) (N := some 23) (v := ?_) (a' := ?_) #[true, true, true, true, true, true, true, true, true, true, true, true, true, true, true, false, false, false, false] rfl rfl (by kernel_rfl) (fun _ _ _ h => h) (Or.inl ⟨by rfl, ?_⟩) ?_ ?_
  rotate_left
  · intro w'
    go_simp
    with_reducible rfl
  rotate_left
  · simp only [Act.put, List.setIfInBounds_toArray, List.set_cons_zero, List.set_cons_succ]
    rfl
  refine pure_ (i := 15) (N := some 38) (v := ?_) (a' := ?_) #[true, true, true, true, true, true, true, true, true, true, true, true, true, true, true, true, false, false, false] rfl rfl (by kernel_rfl) (fun _ _ _ h => h) (Or.inl ⟨by rfl, ?_⟩) ?_ ?_
  rotate_left
  · intro w'
    go_simp
    with_reducible rfl
  rotate_left
  · simp only [Act.put, List.setIfInBounds_toArray, List.set_cons_zero, List.set_cons_succ]
    rfl
  refine pure_ (i := 16) (N := some 39) (v := ?_) (a' := ?_) #[true, true, true, true, true, true, true, true, true, true, true, true, true, true, true, true, true, false, false] rfl rfl (by kernel_rfl) (fun _ _ _ h => h) (Or.inl ⟨by rfl, ?_⟩) ?_ ?_
  rotate_left
  · intro w'
    go_simp
    with_reducible rfl
  rotate_left
  · simp only [Act.put, List.setIfInBounds_toArray, List.set_cons_zero, List.set_cons_succ]
    rfl
  refine pure_ (i := 17) (N := some 6) (v := ?_) (a' := ?_) #[true, true, true, true, true, true, true, true, true, true, true, true, true, true, true, true, true, true, false] rfl rfl (by kernel_rfl) (fun _ _ _ h => h) (Or.inl ⟨by rfl, ?_⟩) ?_ ?_
  rotate_left
  · intro w'
    go_simp
    with_reducible rfl
  rotate_left
  · simp only [Act.put, List.setIfInBounds_toArray, List.set_cons_zero, List.set_cons_succ]
    rfl
  refine pure_ (i := 18) (N := some 7) (v := ?_) (a' := ?_) #[true, true, true, true, true, true, true, true, true, true, true, true, true, true, true, true, true, true, true] rfl rfl (by kernel_rfl) (fun _ _ _ h => h) (Or.inl ⟨by rfl, ?_⟩) ?_ ?_
  rotate_left
  · intro w'
    go_simp
    with_reducible rfl
  rotate_left
  · simp only [Act.put, List.setIfInBounds_toArray, List.set_cons_zero, List.set_cons_succ]
    rfl
  refine done_ (by kernel_rfl) ?_
--E4
  clear hHeld HBD HRD HBA HRA HNEW HSW HST HB HD HJ
  have herr := HXE.out.1
  by_cases hx0 : x.2.2 = 0
  · have hx0' : ((x.2.2 : Int) != 0) = false := by simp [hx0]
    have hz : Z = (x.1, true, x.1.logV (2 * size) x.1.size fl, 0) := by have := HZ1.out; rwa [if_neg (by omega)] at this
    have hjo : Calls Try.prog 89 #[.pointer (some ⟨q, 0, none⟩), .int .u64 fl] w5 (JOpenPost w5 p q size r5 ready x.1 fl) :=
      jopen_any HD5.out HJ5.out.row HJ5.out.rq hs2 (by rw [HXE.out.2]; omega) fl hfl64
    have HZ2 := Lib.hid hz
    have HJO := Lib.hid hjo
    clear hz hjo HZ1 hx0
    go_upto_region 8 with (go_at_call 89; refine HJO.out.mono ?_; clear HJO; rintro e w6 ⟨g6, v6, rfl, hg6, hd6, hj6, hl6, hm6⟩; have HG6 := Lib.hid hg6; have HD6 := Lib.hid hd6; have HJ6 := Lib.hid hj6; have HM6 := Lib.hid hm6; clear hg6 hd6 hj6 hl6 hm6)
    have c3 := (jfacts HJ6.out.row).2.2.2
    have f3 : w6.frozen? ⟨q, 3, none⟩ = false := HJ6.out.row.thaw 3
    go_wp2
    go_ret
    rw [HZ2.out]
    have hj6 := HJ6.out
    have hm6 := only_moves HM6.out r5
    have hg6 := HG6.out
    refine ⟨rfl, r5, g6, Or.inr (Nat.le_trans HM5.out.size hg6), HD6.out.setCell hj6.rq 3 _, ⟨hj6.row.set 3 (.bool true), hj6.log.other _ _ (fun e => hj6.ne e.symm), hj6.rq, hj6.rg, hj6.ne⟩, ?_⟩
    refine (HM5.out.jr q g).trans (Moves.trans (s := jr r5 q g6) ⟨hm6.os, hm6.tape, hm6.output, hm6.size, fun k hk hn => ?_, fun k hk hn => ?_⟩ (Moves.setCell _ _ (by unfold jr; simp [roleSet])))
    · obtain ⟨n1, n2, n3⟩ := jr_none hn
      exact hm6.block k hk (by rw [roleSet_ne n2]; exact n1)
    · obtain ⟨n1, n2, n3⟩ := jr_none hn
      exact jr_of n1 n2 (by omega)
  · have hx0' : ((x.2.2 : Int) != 0) = true := by simp [hx0]
    have hz : Z = (x.1, ready && (x.2.2 != 82), l, x.2.2) := by have := HZ1.out; rwa [if_pos hx0] at this
    have HZ2 := Lib.hid hz
    clear hz HZ1 hx0
    go_wp2_with (go_at_call 90; refine (told_any w5 p q size (ptr g) ready HJ5.out.row x.2.2 (by omega)).mono ?_; rintro e w6 ⟨rfl, hw6⟩; have HW6 := Lib.hid hw6; clear hw6)
    go_ret
    rw [HZ2.out]
    have hj5 := HJ5.out
    refine ⟨rfl, r5, g, Or.inl rfl, ?_⟩
    rw [HW6.out]
    by_cases h82 : x.2.2 = 82
    · rw [if_pos h82]
      have e1 : (ready && (x.2.2 != 82)) = false := by simp [h82]
      simp only [e1]
      exact ⟨HD5.out.setCell hj5.rq 3 _, ⟨hj5.row.set 3 (.bool false), hj5.log.other _ _ (fun e => hj5.ne e.symm), hj5.rq, hj5.rg, hj5.ne⟩, (HM5.out.jr q g).trans (Moves.setCell _ _ (by unfold jr; simp [roleSet]))⟩
    · rw [if_neg h82]
      have e1 : (ready && (x.2.2 != 82)) = ready := by simp [h82]
      simp only [e1]
      exact ⟨HD5.out, hj5, HM5.out.jr q g⟩

end Go.Proofs.Ytpddbffamejgeaa
