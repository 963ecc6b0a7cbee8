import Derived.Test.YtpddbffamejgeaaU
import Derived.Test.YtpddbffamejgeaaX
import Derived.Deep.CutRange
namespace Go.Proofs.Ytpddbffamejgeaa
open Go.RowKit Go.Proofs.YtpddbffamejgeaaW.PrintLast

/-! ### What is read -/
def cntOf (s : Sec) : Nat := (s.getD 2 0).toNat
def bodyOf (s : Sec) : List UInt8 := (s.drop 3).take (cntOf s)
def fullB (total k c : Nat) : Bool := c == 53 || (k + 1 == total && decide (c < 53) && (decide (0 < c) || k == 0))
def okS (d : DS) (a total stamp k : Nat) : Bool := fullB total k (cntOf (d.get (a + k))) && (d.get (a + k) == mk k total stamp (bodyOf (d.get (a + k))))
def bodies (d : DS) (a : Nat) : Nat → List UInt8
  | 0 => []
  | k + 1 => bodies d a k ++ bodyOf (d.get (a + k))
structure RR where
  b : List UInt8
  n : Nat
  many : Nat
  err : Nat
def DS.read (d : DS) (at_ end_ : Int) : RR :=
  if at_ < 0 ∨ end_ > d.size then ⟨[], 0, 0, 81⟩
  else if at_ ≥ end_ then ⟨[], 0, 0, 91⟩
  else
    let f := d.get at_.toNat
    let st := numS f
    let tot := (f.getD 1 0).toNat
    if st = 0 ∨ tot = 0 ∨ (tot : Int) > end_ - at_ then ⟨[], 0, 0, 91⟩
    else if (List.range tot).all (okS d at_.toNat tot st) then ⟨bodies d at_.toNat tot, st, tot, 0⟩ else ⟨[], 0, 0, 91⟩
def ReadPost (w : World) (r : RR) (e : Ending) (w' : World) : Prop :=
  ∃ v, e = .returned (.tuple #[v, .int .u64 (r.n : Nat), .int .i64 (r.many : Nat), .int .i64 (r.err : Nat)]) ∧ w'.ownsRow w.heap.size 5 1 v r.b.length (r.b.map Bv) ∧ Below w.heap.size w w'

theorem i64_byte (x : UInt8) : IntKind.i64.wrap (x.toNat : Int) = (x.toNat : Int) := by
  have := UInt8.toNat_lt x
  rw [IntKind.wrap_i64]; omega
theorem keepF {W : World} {g : Nat} {cs : List Value} {t : TypeId} (h : Row W g cs t) : W.rangeAt g 0 cs ∧ ∀ j v, cs[j]? = some v → W.cell? ⟨g, j, none⟩ = some v :=
  ⟨h.range 0 _ fun j v hv => by rwa [Nat.zero_add], fun j v hv => by rw [h.cell]; exact hv⟩
/-- Some of an array's cells. -/
theorem runs_slice_mid {P : Program} {o : Oper} {a : Act} {T : TypeId} (h : Operand) {op : Op} (ho' : o.op = op) (x : Operand) (lo : Nat) (ho : op = .slice T x (some (.const (.int .i64 lo))) (some h) none) (g n len E : Nat) (hT : P.underlying T = some (.array len E)) (hE : (P.info? E).map (·.size) = some 1)
    (hx : a.eval x = .pointer (some ⟨g, 0, none⟩)) (hh : a.eval h = .int .i64 ((lo + n : Nat) : Int)) (hn : lo + n ≤ len) (hlo : 0 < lo ∧ lo < len) (w : World) :
    (execOp a.eval o).run P w = .ok (.value (.slice (some ⟨g, lo, none⟩) n (len - lo))) w := by
  obtain ⟨i, hi, hs⟩ := size_info hE
  subst ho
  have e0 : (0 : Int) ≤ ((lo + n : Nat) : Int) ∧ ((lo + n : Nat) : Int) ≤ (len : Int) := by omega
  have e1 : (0 : Int) ≤ (lo : Int) ∧ (lo : Int) ≤ ((lo + n : Nat) : Int) := by omega
  have e2 : ¬ len = lo := by omega
  have e3 : lo ≠ 0 := by omega
  have hc : a.eval (.const (.int .i64 lo)) = .int .i64 lo := rfl
  unfold execOp
  simp only [ho', hx, hh, hc, Option.map_some, Option.map_none, Instr.sliceAt, Instr.sureAddr, Instr.sliceBounds, Instr.sliceBound, asIntOf, Sem.run_bind, run_underlying hT w, Result.andThen_ok, Sem.run_pure, e0, e1, and_self, if_true]
  simp [sizeOf, typeInfo, program, Sem.run, hi, hs, Bind.bind, Sem.bind, pure, e2, e3, Addr.add]
  rw [if_pos (by omega)]
  congr 4
  omega
theorem wpl_of_run {P : Program} {ops : Array Oper} {rest : List Oper} {o : Oper} {a : Act} {w w' : World} {Q : Exit → Act → World → Prop} {v : Value} (hgd : o.guard = none) (hr : (execOp a.eval o).run P w = .ok (.value v) w')
    (h : wpList P ops Q rest (a.put o.dst v) w') : wpList P ops Q (o :: rest) a w := by
  refine wpList_plain hgd fun K hK => ?_
  unfold Oper.wp
  rw [hr]
  exact hK _ _ h
theorem length_bodies (d : DS) (a : Nat) : ∀ k, (bodies d a k).length ≤ 255 * k
  | 0 => by simp [bodies]
  | k + 1 => by
    have ih := length_bodies d a k
    have h1 : (bodyOf (d.get (a + k))).length ≤ 255 := by
      unfold bodyOf cntOf
      have := UInt8.toNat_lt ((d.get (a + k)).getD 2 0)
      simp only [List.length_take]
      omega
    simp only [bodies, List.length_append]
    omega
theorem ReadPost.err {w w' : World} {n : Nat} (h : Below w.heap.size w w') : ReadPost w ⟨[], 0, 0, n⟩ (.returned (.tuple #[.slice none 0 0, .int .u64 0, .int .i64 0, .int .i64 (n : Nat)])) w' :=
  ⟨_, rfl, World.ownsRow_nil _ _ _ _, h⟩

set_option maxRecDepth 100000 in
set_option maxHeartbeats 1600000 in
theorem read_any {w : World} {p : Nat} {role : Nat → Option Own} {d : DS} (h : DiskAt w p role d) (at_ end_ : Int) (ha0 : -9223372036854775808 ≤ at_) :
    Calls Try.prog 18 #[.pointer (some ⟨p, 0, none⟩), .int .i64 at_, .int .i64 end_] w (ReadPost w (d.read at_ end_)) := by
  obtain ⟨x, hx⟩ : ∃ x, x = d.read at_ end_ := ⟨_, rfl⟩
  rw [← hx]
  have hsz : d.size ≤ 2048 := by obtain ⟨M, a1, a2, f, hh⟩ := h; exact hh.sz
  have HX := Lib.hid hx
  have HZ := Lib.hid (disk_size h)
  have HD := Lib.hid h
  clear hx h
  by_cases hin : at_ < 0 ∨ end_ > d.size
  · have HE : x = ⟨[], 0, 0, 81⟩ := by have := HX.out; unfold DS.read at this; rwa [if_pos hin] at this
    subst HE
    by_cases h0 : at_ < 0
    · go_enter Try.func18, Try.ntmps18
      go_wp2
      exact bodyPost_ret (v := .tuple #[.slice none 0 0, .int .u64 0, .int .i64 0, .int .i64 81]) (by simp [results, Try.results18, go_sem]) rfl (ReadPost.err (Below.refl _ _))
    · have h1 : (d.size : Int) < end_ := by omega
      go_enter Try.func18, Try.ntmps18
      go_wp2_with (go_at_call 65; refine HZ.out.mono ?_; rintro e w' ⟨rfl, rfl⟩)
      exact bodyPost_ret (v := .tuple #[.slice none 0 0, .int .u64 0, .int .i64 0, .int .i64 81]) (by simp [results, Try.results18, go_sem]) rfl (ReadPost.err (Below.refl _ _))
  · have h0 : ¬ at_ < 0 := by omega
    have h1 : ¬ (d.size : Int) < end_ := by omega
    by_cases hge : end_ ≤ at_
    · have HE : x = ⟨[], 0, 0, 91⟩ := by have := HX.out; unfold DS.read at this; rwa [if_neg hin, if_pos hge] at this
      subst HE
      go_enter Try.func18, Try.ntmps18
      go_wp2_with (go_at_call 65; refine HZ.out.mono ?_; rintro e w' ⟨rfl, rfl⟩)
      exact bodyPost_ret (v := .tuple #[.slice none 0 0, .int .u64 0, .int .i64 0, .int .i64 91]) (by simp [results, Try.results18, go_sem]) rfl (ReadPost.err (Below.refl _ _))
    · obtain ⟨a, rfl⟩ : ∃ a : Nat, at_ = a := ⟨at_.toNat, by omega⟩
      obtain ⟨f, hf⟩ : ∃ f, f = d.get a := ⟨_, rfl⟩
      have hfl : f.length = 64 := by rw [hf]; exact HD.out.len a
      have hget := disk_get HD.out a (by omega)
      rw [← hf] at hget
      have HG := Lib.hid hget
      have HFL := Lib.hid hfl
      have HF := Lib.hid hf
      clear hget hfl hf
      go_enter Try.func18, Try.ntmps18
      go_upto_region 8 with (first | (go_at_call 65; refine HZ.out.mono ?_; rintro e w' ⟨rfl, rfl⟩) | (go_at_call 19; refine HG.out.mono ?_; clear HG; rintro e w1 ⟨rfl, hb1⟩; have HB1 := Lib.hid hb1; clear hb1) | (refine wpl_alloc rfl 34 rfl Z64 64 64 info34 ?_) | (with_reducible refine wpl_store rfl 34 (.tmp 10) (.tmp 37) rfl _ (f.map Bv) rfl rfl 34 _ (Row.newZ _ 34) 64 size34 (by simp [HFL.out]) length_zeros64 (oneB' _) ?_))
      have hbe2 : Below w.heap.size w ((w1.alloc (.cells Z64 34)).setRow w1.heap.size (f.map Bv).toArray) := below_setRow (HB1.out.alloc HB1.out.size _) HB1.out.size _
      have hr2 : Row ((w1.alloc (.cells Z64 34)).setRow w1.heap.size (f.map Bv).toArray) w1.heap.size (f.map Bv) 34 := (Row.newZ w1 34).setRow _
      generalize (w1.alloc (.cells Z64 34)).setRow w1.heap.size (f.map Bv).toArray = W2 at *
      generalize w1.heap.size = b1 at *
      obtain ⟨f1, hf1e⟩ : ∃ f1, f1 = f.getD 1 0 := ⟨_, rfl⟩
      have hf1 : (f.map Bv)[1]? = some (Bv f1) := by
        have := HFL.out
        rw [hf1e]; simp [show 1 < f.length by omega]
      have HF1e := Lib.hid hf1e
      clear hf1e
      have HR2 := Lib.hid hr2
      have HE2 := Lib.hid hbe2
      have HF1 := Lib.hid hf1
      clear hr2 hbe2 hf1 HB1
--B8
      refine start_ (n := 7) (S := fun w' => w'.rangeAt b1 0 (f.map Bv) ∧ w'.cell? ⟨b1, 1, none⟩ = some (Bv f1)) (ds := []) #[false, false, false, false, false, false, false] (by kernel_rfl) rfl rfl ⟨(keepF HR2.out.drew).1, (keepF HR2.out.drew).2 1 _ (HF1.out)⟩ (fun hHeld => ?_)
      refine pure_ (i := 2) (N := some 44) (v := ?_) (a' := ?_) #[false, false, true, false, false, false, false] rfl rfl (by kernel_rfl) (fun _ _ _ h => h) (Or.inl ⟨by rfl, ?_⟩) ?_ ?_
      rotate_left
      · intro w'
        go_simp
        with_reducible rfl
      rotate_left
      · simp only [Act.put, List.setIfInBounds_toArray, List.set_cons_zero, List.set_cons_succ]
        rfl
      refine take_ (i := 0) (N := some 42) (v := .agg (f.map Bv).toArray) (a' := ?_) #[true, false, true, false, false, false, false] rfl rfl (by kernel_rfl) (fun _ _ _ h => h) (Or.inl ⟨by rfl, ?_⟩) hHeld ?_ ?_
      · rintro w' ⟨s0, s1⟩
        exact runs_load_at 34 (.tmp 10) rfl b1 0 (by rfl) (f.map Bv) _ s0 64 (by simp [HFL.out]) Try.underlying34 rfl size34
      rotate_left
      · simp only [Act.put, List.setIfInBounds_toArray, List.set_cons_zero, List.set_cons_succ]
        rfl
      refine take_ (i := 3) (N := some 45) (v := ?_) (a' := ?_) #[true, false, true, true, false, false, false] rfl rfl (by kernel_rfl) (fun _ _ _ h => h) (Or.inl ⟨by rfl, ?_⟩) hHeld ?_ ?_
      rotate_left
      · rintro w' ⟨s0, s1⟩
        go_simp
        with_reducible rfl
      rotate_left
      · simp only [Act.put, List.setIfInBounds_toArray, List.set_cons_zero, List.set_cons_succ]
        rfl
      refine pure_ (i := 4) (N := some 46) (v := .int .i64 (f1.toNat : Int)) (a' := ?_) #[true, false, true, true, true, false, false] rfl rfl (by kernel_rfl) (fun _ _ _ h => h) (Or.inl ⟨by rfl, ?_⟩) ?_ ?_
      · intro w'
        have hw := i64_byte f1
        go_simp
      rotate_left
      · simp only [Act.put, List.setIfInBounds_toArray, List.set_cons_zero, List.set_cons_succ]
        rfl
      refine one_ (i := 1) (N := some 43) #[true, true, true, true, true, false, false] rfl rfl (by kernel_rfl) (by decide) (fun K hK => ?_)
      refine goes_ Try.func67 (by kernel_rfl) rfl #[.agg (f.map Bv).toArray] (by rfl) rfl rfl (by simp only [List.map_toArray, List.map_cons, List.map_nil]; rfl) ?_
      with_reducible refine ((number_any f HFL.out _)).mono ?_
      rintro e w3 ⟨rfl, hb3⟩
      refine ⟨_, rfl, ?_⟩
      have hr3 := HR2.out.drew.below hb3 HR2.out.drew.lt
      refine hK.out _ _ ⟨(keepF hr3).1, (keepF hr3).2 1 _ (HF1.out)⟩ (fun hHeld => ?_)
      clear hK K
      refine norm_ (a' := ?_) ?_ ?_
      rotate_left
      · show Act.put _ (some 43) _ = _
        simp only [Act.put, List.setIfInBounds_toArray, List.set_cons_zero, List.set_cons_succ]
        rfl
      refine pure_ (i := 5) (N := some 12) (v := ?_) (a' := ?_) #[true, true, true, true, true, true, false] rfl rfl (by kernel_rfl) (fun _ _ _ h => h) (Or.inl ⟨by rfl, ?_⟩) ?_ ?_
      rotate_left
      · intro w'
        go_simp
        with_reducible rfl
      rotate_left
      · simp only [Act.put, List.setIfInBounds_toArray, List.set_cons_zero, List.set_cons_succ]
        rfl
      refine pure_ (i := 6) (N := some 13) (v := ?_) (a' := ?_) #[true, true, true, true, true, true, true] rfl rfl (by kernel_rfl) (fun _ _ _ h => h) (Or.inl ⟨by rfl, ?_⟩) ?_ ?_
      rotate_left
      · intro w'
        go_simp
        with_reducible rfl
      rotate_left
      · simp only [Act.put, List.setIfInBounds_toArray, List.set_cons_zero, List.set_cons_succ]
        rfl
      refine done_ (by kernel_rfl) ?_
--E8
      have hbe3 := HE2.out.drew.trans (hb3.mono (by have := HE2.out.size; simpa using this))
      have hx2 := HX.out
      unfold DS.read at hx2
      rw [if_neg hin, if_neg (by omega)] at hx2
      simp only [Int.toNat_natCast, ← HF.out] at hx2
      obtain ⟨st, hst⟩ : ∃ st, st = numS f := ⟨_, rfl⟩
      obtain ⟨tot, htot⟩ : ∃ tot, tot = f1.toNat := ⟨_, rfl⟩
      rw [← hst, ← HF1e.out, ← htot] at hx2
      have hst2 : st < 18446744073709551616 := by rw [hst]; exact numTo_lt f 8
      have ht2 : tot < 256 := by rw [htot]; exact UInt8.toNat_lt _
      rw [← hst, ← htot]
      have HE3 := Lib.hid hbe3
      have HX2 := Lib.hid hx2
      clear hbe3 hx2 hst htot hb3 hr3 HR2 HE2 HF1 HX HF hHeld
      by_cases hbad : st = 0 ∨ tot = 0 ∨ (tot : Int) > end_ - a
      · have HE : x = ⟨[], 0, 0, 91⟩ := by have := HX2.out; rwa [if_pos hbad] at this
        subst HE
        have HRP : Hid (∀ n, n = 91 → ReadPost w ⟨[], 0, 0, n⟩ (.returned (.tuple #[.slice none 0 0, .int .u64 0, .int .i64 0, .int .i64 (n : Nat)])) w3) := fun n _ => ReadPost.err HE3.out
        by_cases h1s : st = 0
        · have h1s' : ((st : Int) == 0) = true := by simp [h1s]
          go_wp2
          exact bodyPost_ret (v := .tuple #[.slice none 0 0, .int .u64 0, .int .i64 0, .int .i64 91]) (by simp [results, Try.results18, go_sem]) rfl (HRP.out 91 rfl)
        · have h1s' : ((st : Int) == 0) = false := by simp; omega
          by_cases h2s : tot = 0
          · have h2s' : ((tot : Int) == 0) = true := by simp [h2s]
            go_wp2
            exact bodyPost_ret (v := .tuple #[.slice none 0 0, .int .u64 0, .int .i64 0, .int .i64 91]) (by simp [results, Try.results18, go_sem]) rfl (HRP.out 91 rfl)
          · have h2s' : ((tot : Int) == 0) = false := by simp; omega
            have h3s : end_ - (a : Int) < tot := by omega
            go_wp2
            exact bodyPost_ret (v := .tuple #[.slice none 0 0, .int .u64 0, .int .i64 0, .int .i64 91]) (by simp [results, Try.results18, go_sem]) rfl (HRP.out 91 rfl)
      · have h1s' : ((st : Int) == 0) = false := by simp; omega
        have h2s' : ((tot : Int) == 0) = false := by simp; omega
        have h3s : ¬ (end_ - (a : Int) < tot) := by omega
        have hfit : a + tot ≤ d.size := by omega
        have hx3 : x = if (List.range tot).all (okS d a tot st) then ⟨bodies d a tot, st, tot, 0⟩ else ⟨[], 0, 0, 91⟩ := by have := HX2.out; rwa [if_neg hbad] at this
        have HX3 := Lib.hid hx3
        clear hx3 HX2 hbad
        go_wp2_with fail
        go_loopw [14, 61] (fun v i wr => ∃ k : Nat, k ≤ tot ∧ i = .int .i64 k ∧ Hid (wr.ownsRow w.heap.size 5 1 v (bodies d a k).length ((bodies d a k).map Bv)) ∧ Hid (Below w.heap.size w wr) ∧ Hid ((List.range k).all (okS d a tot st) = true))
          (fun _ i _ => tot - (intOf i).toNat)
        case atStart => exact ⟨0, by omega, rfl, World.ownsRow_nil _ _ _ _, HE3, rfl⟩
        case round =>
          obtain ⟨k, hk, rfl, hown, hbr, hok⟩ := hrel
          clear HE3 HFL
          by_cases hlt : k < tot
          · obtain ⟨s, hs⟩ : ∃ s, s = d.get (a + k) := ⟨_, rfl⟩
            have hdr := HD.out.below hbr.out
            have hsl : s.length = 64 := by rw [hs]; exact hdr.len _
            have hget := disk_get hdr (a + k) (by omega)
            rw [← hs] at hget
            have HG := Lib.hid hget
            have HSL := Lib.hid hsl
            have HS := Lib.hid hs
            clear hdr hsl hget hs
            go_upto_region 18 with (first | (go_at_call 19; refine HG.out.mono ?_; clear HG; rintro e w4 ⟨rfl, hb4⟩; have HB4 := Lib.hid hb4; clear hb4) | (refine wpl_alloc rfl 34 rfl Z64 64 64 info34 ?_) | (with_reducible refine wpl_store rfl 34 (.tmp 16) (.tmp 70) rfl _ (s.map Bv) rfl rfl 34 _ (Row.newZ _ 34) 64 size34 (by simp [HSL.out]) length_zeros64 (oneB' _) ?_))
            have hbe4 : Below wr.heap.size wr ((w4.alloc (.cells Z64 34)).setRow w4.heap.size (s.map Bv).toArray) := below_setRow (HB4.out.alloc HB4.out.size _) HB4.out.size _
            have hr4 : Row ((w4.alloc (.cells Z64 34)).setRow w4.heap.size (s.map Bv).toArray) w4.heap.size (s.map Bv) 34 := (Row.newZ w4 34).setRow _
            generalize (w4.alloc (.cells Z64 34)).setRow w4.heap.size (s.map Bv).toArray = W4 at *
            generalize w4.heap.size = b at *
            obtain ⟨c2, hc2⟩ : ∃ c2, c2 = s.getD 2 0 := ⟨_, rfl⟩
            have hcell : W4.cell? ⟨b, 2, none⟩ = some (Bv c2) := by
              have := HSL.out
              rw [hr4.cell, hc2]; simp [show 2 < s.length by omega]
            have hw := i64_byte c2
            have hcn : cntOf s = c2.toNat := by simp [cntOf, hc2]
            have hcl : (bodyOf s).length = min (c2.toNat) 61 := by
              have := HSL.out
              unfold bodyOf
              rw [hcn]; simp; omega
            have HR4 := Lib.hid hr4
            have HE4 := Lib.hid hbe4
            have HC2 := Lib.hid hcn
            have HCM := Lib.hid hcl
            clear hr4 hbe4 HB4 hc2 hcn hcl
            go_upto_region 19 with fail
            clear hw hcell
            have hc256 : c2.toNat < 256 := UInt8.toNat_lt _
            generalize c2.toNat = c at *
            go_cut [19] from 62 to 116 (fun v w' => v = .bool (fullB tot k c) ∧ w' = W4)
            case first =>
              by_cases q1 : c = 53
              · have q1' : ((c : Int) == 53) = true := by simp [q1]
                have Q1 := Lib.hid q1
                clear q1
                go_wp2
                go_meet
                case rel => exact ⟨by simp [fullB, Q1.out], rfl⟩
              · have q1' : ((c : Int) == 53) = false := by simp; omega
                by_cases q2 : k + 1 = tot
                · have q2' : ((k : Int) == (tot : Int) - 1) = true := by simp; omega
                  have Q2 := Lib.hid q2
                  clear q2
                  by_cases q3 : c < 53
                  · have q3' : (c : Int) < 53 := by omega
                    by_cases q4 : 0 < c
                    · have q4' : (0 : Int) < c := by omega
                      go_wp2
                      go_meet
                      case rel => exact ⟨by simp [fullB, Q2.out, q3, q4], rfl⟩
                    · have q4' : ¬ (0 : Int) < c := by omega
                      by_cases q5 : k = 0
                      · have q5' : ((k : Int) == 0) = true := by simp [q5]
                        have Q5 := Lib.hid q5
                        clear q5
                        go_wp2
                        go_meet
                        case rel => exact ⟨by have e5 := Q5.out; have e2 := Q2.out; subst e5; simp [fullB, e2, q3], rfl⟩
                      · have q5' : ((k : Int) == 0) = false := by simp; omega
                        go_wp2
                        go_meet
                        case rel => exact ⟨by simp [fullB, q1, q3, q4, q5], rfl⟩
                  · have q3' : ¬ (c : Int) < 53 := by omega
                    go_wp2
                    go_meet
                    case rel => exact ⟨by simp [fullB, q1, q3], rfl⟩
                · have q2' : ((k : Int) == (tot : Int) - 1) = false := by simp; omega
                  go_wp2
                  go_meet
                  case rel => exact ⟨by simp [fullB, q1, q2], rfl⟩
            case rest =>
              obtain ⟨rfl, rfl⟩ := hcut
              cases hfull : fullB tot k c with
              | false =>
                have HFu := Lib.hid hfull
                clear hfull
                have hbad : okS d a tot st k = false := by
                  unfold okS
                  rw [← HS.out, HC2.out, HFu.out]; rfl
                have hxe : x = ⟨[], 0, 0, 91⟩ := by
                  have := HX3.out
                  rwa [if_neg] at this
                  intro hall
                  rw [List.all_eq_true] at hall
                  have := hall k (by simp; omega)
                  rw [hbad] at this; cases this
                have HXE := Lib.hid hxe
                clear hbad hxe
                go_upto_region 20 with fail
--B20f
                refine start_ (n := 13) (S := fun w' => True) (ds := []) #[false, false, false, false, false, false, false, false, false, false, false, false, false] (by kernel_rfl) rfl rfl trivial (fun hHeld => ?_)
                refine pure_ (i := 0) (N := some 98) (v := ?_) (a' := ?_) #[true, false, false, false, false, false, false, false, false, false, false, false, false] rfl rfl (by kernel_rfl) (fun _ _ _ h => h) (Or.inl ⟨by rfl, ?_⟩) ?_ ?_
                rotate_left
                · intro w'
                  go_simp
                  with_reducible rfl
                rotate_left
                · simp only [Act.put, List.setIfInBounds_toArray, List.set_cons_zero, List.set_cons_succ]
                  rfl
                refine pure_ (i := 1) (N := some 99) (v := ?_) (a' := ?_) #[true, true, false, false, false, false, false, false, false, false, false, false, false] rfl rfl (by kernel_rfl) (fun _ _ _ h => h) (Or.inl ⟨by rfl, ?_⟩) ?_ ?_
                rotate_left
                · intro w'
                  go_simp
                  with_reducible rfl
                rotate_left
                · simp only [Act.put, List.setIfInBounds_toArray, List.set_cons_zero, List.set_cons_succ]
                  rfl
                refine pure_ (i := 2) (N := some 100) (v := ?_) (a' := ?_) #[true, true, true, false, false, false, false, false, false, false, false, false, false] rfl rfl (by kernel_rfl) (fun _ _ _ h => h) (Or.inl ⟨by rfl, ?_⟩) ?_ ?_
                rotate_left
                · intro w'
                  go_simp
                  with_reducible rfl
                rotate_left
                · simp only [Act.put, List.setIfInBounds_toArray, List.set_cons_zero, List.set_cons_succ]
                  rfl
                refine pure_ (i := 3) (N := some 101) (v := undef) (a' := ?_) #[true, true, true, true, false, false, false, false, false, false, false, false, false] rfl rfl (by kernel_rfl) (fun _ _ _ h => h) (Or.inr ⟨by rfl, rfl⟩) ?_ ?_
                rotate_left
                · simp only [Act.put, List.setIfInBounds_toArray, List.set_cons_zero, List.set_cons_succ]
                  rfl
                refine pure_ (i := 4) (N := some 102) (v := undef) (a' := ?_) #[true, true, true, true, true, false, false, false, false, false, false, false, false] rfl rfl (by kernel_rfl) (fun _ _ _ h => h) (Or.inr ⟨by rfl, rfl⟩) ?_ ?_
                rotate_left
                · simp only [Act.put, List.setIfInBounds_toArray, List.set_cons_zero, List.set_cons_succ]
                  rfl
                refine pure_ (i := 5) (N := some 103) (v := undef) (a' := ?_) #[true, true, true, true, true, true, false, false, false, false, false, false, false] rfl rfl (by kernel_rfl) (fun _ _ _ h => h) (Or.inr ⟨by rfl, rfl⟩) ?_ ?_
                rotate_left
                · simp only [Act.put, List.setIfInBounds_toArray, List.set_cons_zero, List.set_cons_succ]
                  rfl
                refine pure_ (i := 6) (N := some 104) (v := undef) (a' := ?_) #[true, true, true, true, true, true, true, false, false, false, false, false, false] rfl rfl (by kernel_rfl) (fun _ _ _ h => h) (Or.inr ⟨by rfl, rfl⟩) ?_ ?_
                rotate_left
                · simp only [Act.put, List.setIfInBounds_toArray, List.set_cons_zero, List.set_cons_succ]
                  rfl
                refine pure_ (i := 7) (N := some 105) (v := undef) (a' := ?_) #[true, true, true, true, true, true, true, true, false, false, false, false, false] rfl rfl (by kernel_rfl) (fun _ _ _ h => h) (Or.inr ⟨by rfl, rfl⟩) ?_ ?_
                rotate_left
                · simp only [Act.put, List.setIfInBounds_toArray, List.set_cons_zero, List.set_cons_succ]
                  rfl
                refine pure_ (i := 8) (N := some 106) (v := undef) (a' := ?_) #[true, true, true, true, true, true, true, true, true, false, false, false, false] rfl rfl (by kernel_rfl) (fun _ _ _ h => h) (Or.inr ⟨by rfl, rfl⟩) ?_ ?_
                rotate_left
                · simp only [Act.put, List.setIfInBounds_toArray, List.set_cons_zero, List.set_cons_succ]
                  rfl
                refine pure_ (i := 9) (N := some 107) (v := undef) (a' := ?_) #[true, true, true, true, true, true, true, true, true, true, false, false, false] rfl rfl (by kernel_rfl) (fun _ _ _ h => h) (Or.inr ⟨by rfl, rfl⟩) ?_ ?_
                rotate_left
                · simp only [Act.put, List.setIfInBounds_toArray, List.set_cons_zero, List.set_cons_succ]
                  rfl
                refine pure_ (i := 10) (N := some 108) (v := undef) (a' := ?_) #[true, true, true, true, true, true, true, true, true, true, true, false, false] rfl rfl (by kernel_rfl) (fun _ _ _ h => h) (Or.inr ⟨by rfl, rfl⟩) ?_ ?_
                rotate_left
                · simp only [Act.put, List.setIfInBounds_toArray, List.set_cons_zero, List.set_cons_succ]
                  rfl
                refine pure_ (i := 11) (N := some 109) (v := undef) (a' := ?_) #[true, true, true, true, true, true, true, true, true, true, true, true, false] rfl rfl (by kernel_rfl) (fun _ _ _ h => h) (Or.inr ⟨by rfl, rfl⟩) ?_ ?_
                rotate_left
                · simp only [Act.put, List.setIfInBounds_toArray, List.set_cons_zero, List.set_cons_succ]
                  rfl
                refine pure_ (i := 12) (N := some 110) (v := ?_) (a' := ?_) #[true, true, true, true, true, true, true, true, true, true, true, true, true] rfl rfl (by kernel_rfl) (fun _ _ _ h => h) (Or.inl ⟨by rfl, ?_⟩) ?_ ?_
                rotate_left
                · intro w'
                  go_simp
                  with_reducible rfl
                rotate_left
                · simp only [Act.put, List.setIfInBounds_toArray, List.set_cons_zero, List.set_cons_succ]
                  rfl
                refine done_ (by kernel_rfl) ?_
--E20f
                go_wp2
                exact bodyPost_ret (v := .tuple #[.slice none 0 0, .int .u64 0, .int .i64 0, .int .i64 91]) (by simp [results, Try.results18, go_sem]) rfl (by rw [HXE.out]; exact ReadPost.err (hbr.out.trans (HE4.out.drew.mono hbr.out.size)))
              | true =>
                have HFu := Lib.hid hfull
                clear hfull
                have hc53 : c ≤ 53 := by
                  have := HFu.out
                  simp [fullB] at this; omega
                have hcl : (bodyOf s).length = c := by rw [HCM.out]; omega
                have hsr : ∀ W : World, W.rangeAt b 0 (s.map Bv) → Src W (some ⟨b, 3, none⟩) ((bodyOf s).map Bv) := fun W hW _ => by
                  refine ⟨_, rfl, fun j v hv => ?_⟩
                  rw [Addr.add_mid]
                  have := hW (3 + j) v (by
                    unfold bodyOf at hv
                    rw [List.map_take, List.map_drop] at hv
                    have := take_get rfl hv
                    rwa [List.getElem?_drop] at this)
                  simpa using this
                have hbl53 : (bodyOf s).length ≤ 53 := by rw [hcl]; exact hc53
                have HCL := Lib.hid hcl
                have HSR := Lib.hid hsr
                clear hcl hsr
                go_upto_region 20 with fail
--B20t
                refine start_ (n := 13) (S := fun w' => w'.rangeAt b 0 (s.map Bv)) (ds := []) #[false, false, false, false, false, false, false, false, false, false, false, false, false] (by kernel_rfl) rfl rfl ((keepF HR4.out.drew).1) (fun hHeld => ?_)
                refine pure_ (i := 0) (N := some 98) (v := ?_) (a' := ?_) #[true, false, false, false, false, false, false, false, false, false, false, false, false] rfl rfl (by kernel_rfl) (fun _ _ _ h => h) (Or.inl ⟨by rfl, ?_⟩) ?_ ?_
                rotate_left
                · intro w'
                  go_simp
                  with_reducible rfl
                rotate_left
                · simp only [Act.put, List.setIfInBounds_toArray, List.set_cons_zero, List.set_cons_succ]
                  rfl
                refine pure_ (i := 1) (N := some 99) (v := ?_) (a' := ?_) #[true, true, false, false, false, false, false, false, false, false, false, false, false] rfl rfl (by kernel_rfl) (fun _ _ _ h => h) (Or.inl ⟨by rfl, ?_⟩) ?_ ?_
                rotate_left
                · intro w'
                  go_simp
                  with_reducible rfl
                rotate_left
                · simp only [Act.put, List.setIfInBounds_toArray, List.set_cons_zero, List.set_cons_succ]
                  rfl
                refine pure_ (i := 2) (N := some 100) (v := ?_) (a' := ?_) #[true, true, true, false, false, false, false, false, false, false, false, false, false] rfl rfl (by kernel_rfl) (fun _ _ _ h => h) (Or.inl ⟨by rfl, ?_⟩) ?_ ?_
                rotate_left
                · intro w'
                  go_simp
                  with_reducible rfl
                rotate_left
                · simp only [Act.put, List.setIfInBounds_toArray, List.set_cons_zero, List.set_cons_succ]
                  rfl
                refine pure_ (i := 4) (N := some 102) (v := ?_) (a' := ?_) #[true, true, true, false, true, false, false, false, false, false, false, false, false] rfl rfl (by kernel_rfl) (fun _ _ _ h => h) (Or.inl ⟨by rfl, ?_⟩) ?_ ?_
                rotate_left
                · intro w'
                  go_simp
                  with_reducible rfl
                rotate_left
                · simp only [Act.put, List.setIfInBounds_toArray, List.set_cons_zero, List.set_cons_succ]
                  rfl
                refine pure_ (i := 5) (N := some 103) (v := ?_) (a' := ?_) #[true, true, true, false, true, true, false, false, false, false, false, false, false] rfl rfl (by kernel_rfl) (fun _ _ _ h => h) (Or.inl ⟨by rfl, ?_⟩) ?_ ?_
                rotate_left
                · intro w'
                  go_simp
                  with_reducible rfl
                rotate_left
                · simp only [Act.put, List.setIfInBounds_toArray, List.set_cons_zero, List.set_cons_succ]
                  rfl
                refine pure_ (i := 6) (N := some 104) (v := ?_) (a' := ?_) #[true, true, true, false, true, true, true, false, false, false, false, false, false] rfl rfl (by kernel_rfl) (fun _ _ _ h => h) (Or.inl ⟨by rfl, ?_⟩) ?_ ?_
                rotate_left
                · intro w'
                  go_simp
                  with_reducible rfl
                rotate_left
                · simp only [Act.put, List.setIfInBounds_toArray, List.set_cons_zero, List.set_cons_succ]
                  rfl
                refine pure_ (i := 7) (N := some 105) (v := ?_) (a' := ?_) #[true, true, true, false, true, true, true, true, false, false, false, false, false] rfl rfl (by kernel_rfl) (fun _ _ _ h => h) (Or.inl ⟨by rfl, ?_⟩) ?_ ?_
                rotate_left
                · intro w'
                  go_simp
                  with_reducible rfl
                rotate_left
                · simp only [Act.put, List.setIfInBounds_toArray, List.set_cons_zero, List.set_cons_succ]
                  rfl
                refine pure_ (i := 8) (N := some 106) (v := .int .i64 ((3 + c : Nat) : Int)) (a' := ?_) #[true, true, true, false, true, true, true, true, true, false, false, false, false] rfl rfl (by kernel_rfl) (fun _ _ _ h => h) (Or.inl ⟨by rfl, ?_⟩) ?_ ?_
                · intro w'
                  have hw3 : IntKind.i64.wrap (3 + (c : Int)) = 3 + (c : Int) := by rw [IntKind.wrap_i64]; omega
                  go_simp
                rotate_left
                · simp only [Act.put, List.setIfInBounds_toArray, List.set_cons_zero, List.set_cons_succ]
                  rfl
                refine pure_ (i := 9) (N := some 107) (v := .slice (some ⟨b, 3, none⟩) (bodyOf s).length 61) (a' := ?_) #[true, true, true, false, true, true, true, true, true, true, false, false, false] rfl rfl (by kernel_rfl) (fun _ _ _ h => h) (Or.inl ⟨by rfl, ?_⟩) ?_ ?_
                · intro w'
                  exact runs_slice_mid (.tmp 106) rfl (.tmp 16) 3 rfl b (bodyOf s).length 64 5 Try.underlying34 size5 (by rfl) (by rw [HCL.out]; rfl) (by omega) (by omega) w'
                rotate_left
                · simp only [Act.put, List.setIfInBounds_toArray, List.set_cons_zero, List.set_cons_succ]
                  rfl
                refine take_ (i := 3) (N := some 101) (v := .agg (s.map Bv).toArray) (a' := ?_) #[true, true, true, true, true, true, true, true, true, true, false, false, false] rfl rfl (by kernel_rfl) (fun _ _ _ h => h) (Or.inl ⟨by rfl, ?_⟩) hHeld ?_ ?_
                · intro w' s0
                  exact runs_load_at 34 (.tmp 16) rfl b 0 (by rfl) (s.map Bv) _ s0 64 (by simp [HSL.out]) Try.underlying34 rfl size34
                rotate_left
                · simp only [Act.put, List.setIfInBounds_toArray, List.set_cons_zero, List.set_cons_succ]
                  rfl
                refine one_ (i := 10) (N := some 108) #[true, true, true, true, true, true, true, true, true, true, true, false, false] rfl rfl (by kernel_rfl) (by decide) (fun K hK => ?_)
                refine goes_ Try.func66 (by kernel_rfl) rfl #[.int .i64 k, .int .i64 tot, .int .u64 st, .slice (some ⟨b, 3, none⟩) (bodyOf s).length 61] (by rfl) rfl rfl (by simp only [List.map_toArray, List.map_cons, List.map_nil]; rfl) ?_
                with_reducible refine ((made_any k tot 61 st (some ⟨b, 3, none⟩) (bodyOf s) _ (by omega) (by omega) (by omega) (HSR.out _ hHeld))).mono ?_
                rintro e w5 ⟨rfl, hb5⟩
                refine ⟨_, rfl, ?_⟩
                have hr5 := HR4.out.drew.below hb5 HR4.out.drew.lt
                refine hK.out _ _ ((keepF hr5).1) (fun hHeld => ?_)
                clear hK K
                refine norm_ (a' := ?_) ?_ ?_
                rotate_left
                · show Act.put _ (some 108) _ = _
                  simp only [Act.put, List.setIfInBounds_toArray, List.set_cons_zero, List.set_cons_succ]
                  rfl
                refine pure_ (i := 11) (N := some 109) (v := .bool (!(s == mk k tot st (bodyOf s)))) (a' := ?_) #[true, true, true, true, true, true, true, true, true, true, true, true, false] rfl rfl (by kernel_rfl) (fun _ _ _ h => h) (Or.inl ⟨by rfl, ?_⟩) ?_ ?_
                · intro w'
                  exact runs_neq_array (.tmp 101) (.tmp 108) rfl 64 Try.underlying34 Try.underlying5 size5 (by kernel_rfl) s (mk k tot st (bodyOf s)) HSL.out (length_mk _ _ _ _ (by omega)) (by rfl) (by rfl) w'
                rotate_left
                · simp only [Act.put, List.setIfInBounds_toArray, List.set_cons_zero, List.set_cons_succ]
                  rfl
                refine pure_ (i := 12) (N := some 110) (v := ?_) (a' := ?_) #[true, true, true, true, true, true, true, true, true, true, true, true, true] rfl rfl (by kernel_rfl) (fun _ _ _ h => h) (Or.inl ⟨by rfl, ?_⟩) ?_ ?_
                rotate_left
                · intro w'
                  go_simp
                  with_reducible rfl
                rotate_left
                · simp only [Act.put, List.setIfInBounds_toArray, List.set_cons_zero, List.set_cons_succ]
                  rfl
                refine done_ (by kernel_rfl) ?_
--E20t
                have hbe5 := hbr.out.trans ((HE4.out.drew.trans (hb5.mono (by have := HE4.out.size; simpa using this))).mono hbr.out.size)
                have HE5 := Lib.hid hbe5
                have HW5 := Lib.hid (HE4.out.drew.trans (hb5.mono (by have := HE4.out.size; simpa using this)))
                have HR5 := Lib.hid hr5
                clear hbe5 hb5 hr5 hHeld
                cases hq : (s == mk k tot st (bodyOf s)) with
                | false =>
                  have hbad : okS d a tot st k = false := by
                    unfold okS
                    rw [← HS.out, HC2.out, HFu.out, hq]; rfl
                  have hxe : x = ⟨[], 0, 0, 91⟩ := by
                    have := HX3.out
                    rwa [if_neg] at this
                    intro hall
                    rw [List.all_eq_true] at hall
                    have := hall k (by simp; omega)
                    rw [hbad] at this; cases this
                  have HXE := Lib.hid hxe
                  clear hbad hxe hq
                  go_wp2
                  exact bodyPost_ret (v := .tuple #[.slice none 0 0, .int .u64 0, .int .i64 0, .int .i64 91]) (by simp [results, Try.results18, go_sem]) rfl (by rw [HXE.out]; exact ReadPost.err HE5.out)
                | true =>
                  have hgood : okS d a tot st k = true := by
                    unfold okS
                    rw [← HS.out, HC2.out, HFu.out, hq]; rfl
                  have HGd := Lib.hid hgood
                  clear hgood hq
                  have hown5 : w5.ownsRow w.heap.size 5 1 u14 (bodies d a k).length ((bodies d a k).map Bv) := ownsRow_of_block hown.out fun g hg => HW5.out.block g (hown.out.lt g hg).2
                  have hnews : ∀ j u, ((bodyOf s).map Bv)[j]? = some u → w5.cell? ((⟨b, 3, none⟩ : Addr).add j) = some u := fun j u hu => by
                    have hp : 0 < ((bodyOf s).map Bv).length := by
                      by_cases hp : 0 < ((bodyOf s).map Bv).length
                      · exact hp
                      · rw [List.getElem?_eq_none (by omega)] at hu; cases hu
                    obtain ⟨ad, e, hc⟩ := HSR.out w5 (keepF HR5.out).1 hp
                    cases e
                    exact hc j u hu
                  have hlb := length_bodies d a k
                  have hw3 : IntKind.i64.wrap (3 + (c : Int)) = 3 + (c : Int) := by rw [IntKind.wrap_i64]; omega
                  have hO5 := Lib.hid hown5
                  have hN5 := Lib.hid hnews
                  have hB5 := Lib.hid HE5.out.size
                  clear hown5 hnews
                  obtain ⟨i5, hi5, hz5, hs5, hb5⟩ := info_parts info5
                  go_wp2_with (first | (refine wpl_of_run (o := ⟨some 114, _, _, _, _, _⟩) rfl (runs_slice_mid (.tmp 113) rfl (.tmp 16) 3 rfl b (bodyOf s).length 64 5 Try.underlying34 size5 (by rfl) (by rw [HCL.out]; rfl) (by omega) (by omega) w5) ?_) | (at_builtin; refine wpList_append_own _ rfl (.tmp 111) (.tmp 114) 23 rfl w.heap.size 5 i5 _ 1 1 Try.underlying23 hi5 hz5 hs5 hb5 rfl (by omega) _ _ _ rfl hO5.out ⟨b, 3, none⟩ (bodyOf s).length 61 ((bodyOf s).map Bv) rfl (by simp) hN5.out (oneB' _) (by unfold maxLen; omega) (by omega) hB5.out ?_; intro v6 w6 hown6 hgrow6 _; have hO6 := Lib.hid hown6; have hG6 := Lib.hid hgrow6; clear hown6 hgrow6))
                  go_roundw
                  case rel =>
                    refine ⟨k + 1, by omega, by go_num, ?_, HE5.out.grown hG6.out HE5.out.size (fun g hg => (hO5.out.lt g hg).1), ?_⟩
                    · have := hO6.out
                      rw [HS.out] at this
                      exact Lib.hid (by simpa [bodies] using this)
                    · show (List.range (k + 1)).all (okS d a tot st) = true
                      rw [List.range_succ, List.all_append, hok.out]
                      simp [HGd.out]
                  case measure => simp [intOf]; omega
          · obtain rfl : k = tot := by omega
            have hxe : x = ⟨bodies d a k, st, k, 0⟩ := by have := HX3.out; rwa [if_pos hok.out] at this
            have HXE := Lib.hid hxe
            clear hxe HX3
            go_wp2
            exact bodyPost_ret (v := .tuple #[u14, .int .u64 (st : Nat), .int .i64 (k : Nat), .int .i64 0]) (by simp [results, Try.results18, go_sem]) rfl (by rw [HXE.out]; exact ⟨_, rfl, hown.out, hbr.out⟩)

end Go.Proofs.Ytpddbffamejgeaa
