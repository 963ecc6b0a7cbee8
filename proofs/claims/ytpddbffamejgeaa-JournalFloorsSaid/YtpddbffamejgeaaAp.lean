/- log: Open, Room, Stamp, Append. -/
import Derived.Test.YtpddbffamejgeaaAo
namespace Go.Proofs.Ytpddbffamejgeaa
open Go.RowKit Go.Proofs.YtpddbffamejgeaaW.PrintLast

structure LogV where
  at_ : Nat
  end_ : Nat
  stamp : Nat
def LogV.cells (p : Nat) (l : LogV) : List Value := [.pointer (some ⟨p, 0, none⟩), .int .i64 (l.at_ : Nat), .int .i64 (l.end_ : Nat), .int .u64 (l.stamp : Nat)]
def DS.logStamp (d : DS) (a e floor : Nat) : Nat := (max floor (d.top a e) + 1) % 18446744073709551616
def DS.logV (d : DS) (a e floor : Nat) : LogV := ⟨(d.recs a e floor).2, e, d.logStamp a e floor⟩
def LogOpenPost (w : World) (p : Nat) (l : LogV) (L : List (List UInt8)) (e : Ending) (w' : World) : Prop :=
  ∃ g v, e = .returned (.tuple #[.pointer (some ⟨g, 0, none⟩), v, .int .i64 0]) ∧ w.heap.size ≤ g ∧ Row w' g (l.cells p) 142 ∧ ListsAt w' (fun k => w.heap.size ≤ k ∧ k ≠ g) v L ∧ Below w.heap.size w w'
theorem u64_wrap (n : Int) : IntKind.u64.wrap n = n % 18446744073709551616 := by simp [IntKind.wrap, IntKind.bits, IntKind.signed]
theorem topFrom_lt (d : DS) : ∀ (n i t : Nat), t < 18446744073709551616 → topFrom d i t n < 18446744073709551616
  | 0, _, _, h => h
  | n + 1, i, t, h => topFrom_lt d n (i + 1) _ (by have := numS_lt (d.get i); omega)

set_option maxRecDepth 100000 in
set_option maxHeartbeats 800000 in
theorem logopen_any {w : World} {p : Nat} {role : Nat → Option Own} {d : DS} (h : DiskAt w p role d) (a e floor : Nat) (hae : a ≤ e) (he : e ≤ d.size) (hfl : floor < 18446744073709551616) :
    Calls Try.prog 35 #[.pointer (some ⟨p, 0, none⟩), .int .i64 a, .int .i64 e, .int .u64 floor] w (LogOpenPost w p (d.logV a e floor) (d.recs a e floor).1) := by
  obtain ⟨t, ht⟩ : ∃ t, t = d.top a e := ⟨_, rfl⟩
  obtain ⟨x, hx⟩ : ∃ x, x = d.recs a e floor := ⟨_, rfl⟩
  have htl : t < 18446744073709551616 := by rw [ht]; exact topFrom_lt d _ _ _ (by omega)
  have hsz : d.size ≤ 2048 := by obtain ⟨M, a1, a2, f, hh⟩ := h; exact hh.sz
  have h1 : ¬ (a : Int) < 0 := by omega
  have h2 : ¬ (e : Int) < a := by omega
  have h3 : ¬ (d.size : Int) < e := by omega
  have htop := top_any h a e hae he
  have hrec : ∀ W, Below w.heap.size w W → Calls Try.prog 80 #[.pointer (some ⟨p, 0, none⟩), .int .i64 a, .int .i64 e, .int .u64 floor] W (RecsPost W x) := fun W hb => by
    rw [hx]; exact records_any (h.below hb) a e floor hae he hfl
  rw [← ht] at htop
  have hlv : ∀ n : Int, n = ((max floor t + 1 : Nat) : Int) % 18446744073709551616 → [Value.pointer (some ⟨p, 0, none⟩), .int .i64 (x.2 : Nat), .int .i64 (e : Nat), .int .u64 n] = (d.logV a e floor).cells p := fun n hn => by
    subst hn
    unfold LogV.cells DS.logV DS.logStamp
    rw [← hx, ← ht]
    rfl
  have HZ := Lib.hid (disk_size h)
  have HT := Lib.hid htop
  have HR := Lib.hid hrec
  have HLV := Lib.hid hlv
  rw [← hx]
  clear h htop hrec hlv hx ht
  go_enter Try.func35, Try.ntmps35
  go_wp2_with (first
    | (go_at_call 65; refine HZ.out.mono ?_; rintro e w' ⟨rfl, rfl⟩)
    | (go_at_call 31; refine HT.out.mono ?_; clear HT; rintro e w1 ⟨rfl, hb1⟩; have HB1 := Lib.hid hb1; clear hb1)
    | (go_at_call 80; refine (HR.out _ HB1.out).mono ?_; clear HR; rintro e w2 ⟨v2, rfl, hL2, hb2⟩; have HB2 := Lib.hid (HB1.out.trans (hb2.mono HB1.out.size)); have HL2 := Lib.hid hL2; clear hb2 hL2))
  all_goals
    have key : ∀ n : Int, n = ((max floor t + 1 : Nat) : Int) % 18446744073709551616 → Row (w2.alloc (.cells #[.pointer (some ⟨p, 0, none⟩), .int .i64 (x.2 : Nat), .int .i64 (e : Nat), .int .u64 n] 142)) w2.heap.size ((d.logV a e floor).cells p) 142 := fun n hn => by
      rw [← HLV.out n hn]; exact Row.new w2 _ 142
    have hl2 := HB2.out.size
    have hb2 := HB1.out.size
    refine bodyPost_ret (v := .tuple #[.pointer (some ⟨w2.heap.size, 0, none⟩), v2, .int .i64 0]) (by simp [results, Try.results35, go_sem]) rfl ⟨_, v2, rfl, hl2, key _ (by rw [u64_wrap]; omega), (HL2.out.mono fun k hk hf => ⟨by omega, by omega⟩).below ((Below.refl w2.heap.size w2).alloc (Nat.le_refl _) _), HB2.out.trans (((Below.refl w2.heap.size w2).alloc (Nat.le_refl _) _).mono hl2)⟩

theorem LogV.facts {w : World} {g p : Nat} {l : LogV} (h : Row w g (l.cells p) 142) : w.cell? ⟨g, 0, none⟩ = some (.pointer (some ⟨p, 0, none⟩)) ∧ w.cell? ⟨g, 1, none⟩ = some (.int .i64 (l.at_ : Nat)) ∧ w.cell? ⟨g, 2, none⟩ = some (.int .i64 (l.end_ : Nat)) ∧ w.cell? ⟨g, 3, none⟩ = some (.int .u64 (l.stamp : Nat)) :=
  ⟨by rw [h.cell]; rfl, by rw [h.cell]; rfl, by rw [h.cell]; rfl, by rw [h.cell]; rfl⟩
def DrewPost (w : World) (v : Value) (e : Ending) (w' : World) : Prop := e = .returned v ∧ ∃ n, w' = w.drewN n
set_option maxRecDepth 100000 in
theorem logroom_any {w : World} {g p : Nat} {l : LogV} (h : Row w g (l.cells p) 142) (hle : l.at_ ≤ l.end_) (hend : l.end_ ≤ 2048) : Calls Try.prog 38 #[.pointer (some ⟨g, 0, none⟩)] w fun e w' => e = .returned (.int .i64 ((l.end_ - l.at_ : Nat) : Int)) ∧ Below w.heap.size w w' := by
  obtain ⟨c0, c1, c2, c3⟩ := LogV.facts h
  generalize l.at_ = a at *
  generalize l.end_ = z at *
  have hsub : IntKind.i64.wrap ((z : Int) - (a : Int)) = ((z - a : Nat) : Int) := by rw [IntKind.wrap_i64]; omega
  have HS := Lib.hid hsub
  clear hsub c0 c3 h
  go_enter Try.func38, Try.ntmps38
  go_upto_region 1 with fail
--B1
  refine start_ (n := 10) (S := fun w' => w'.cell? ⟨g, 1, none⟩ = some (.int .i64 (a : Nat)) ∧ w'.cell? ⟨g, 2, none⟩ = some (.int .i64 (z : Nat))) (ds := []) #[false, false, false, false, false, false, false, false, false, false] (by kernel_rfl) rfl rfl ⟨c1, c2⟩ (fun hHeld => ?_)
  refine pure_ (i := 0) (N := some 3) (v := ?_) (a' := ?_) #[true, false, false, false, false, false, false, false, false, false] rfl rfl (by kernel_rfl) (fun _ _ _ h => h) (Or.inl ⟨by rfl, ?_⟩) ?_ ?_
  rotate_left
  · intro w'
    go_simp
    with_reducible rfl
  rotate_left
  · simp only [Act.put, List.setIfInBounds_toArray, List.set_cons_zero, List.set_cons_succ]
    rfl
  refine pure_ (i := 1) (N := some 4) (v := ?_) (a' := ?_) #[true, true, false, false, false, false, false, false, false, false] rfl rfl (by kernel_rfl) (fun _ _ _ h => h) (Or.inl ⟨by rfl, ?_⟩) ?_ ?_
  rotate_left
  · intro w'
    go_simp
    with_reducible rfl
  rotate_left
  · simp only [Act.put, List.setIfInBounds_toArray, List.set_cons_zero, List.set_cons_succ]
    rfl
  refine pure_ (i := 2) (N := some 5) (v := ?_) (a' := ?_) #[true, true, true, false, false, false, false, false, false, false] rfl rfl (by kernel_rfl) (fun _ _ _ h => h) (Or.inl ⟨by rfl, ?_⟩) ?_ ?_
  rotate_left
  · intro w'
    go_simp
    with_reducible rfl
  rotate_left
  · simp only [Act.put, List.setIfInBounds_toArray, List.set_cons_zero, List.set_cons_succ]
    rfl
  refine pure_ (i := 4) (N := some 7) (v := ?_) (a' := ?_) #[true, true, true, false, true, false, false, false, false, false] rfl rfl (by kernel_rfl) (fun _ _ _ h => h) (Or.inl ⟨by rfl, ?_⟩) ?_ ?_
  rotate_left
  · intro w'
    go_simp
    with_reducible rfl
  rotate_left
  · simp only [Act.put, List.setIfInBounds_toArray, List.set_cons_zero, List.set_cons_succ]
    rfl
  refine pure_ (i := 5) (N := some 8) (v := ?_) (a' := ?_) #[true, true, true, false, true, true, false, false, false, false] rfl rfl (by kernel_rfl) (fun _ _ _ h => h) (Or.inl ⟨by rfl, ?_⟩) ?_ ?_
  rotate_left
  · intro w'
    go_simp
    with_reducible rfl
  rotate_left
  · simp only [Act.put, List.setIfInBounds_toArray, List.set_cons_zero, List.set_cons_succ]
    rfl
  refine pure_ (i := 6) (N := some 9) (v := ?_) (a' := ?_) #[true, true, true, false, true, true, true, false, false, false] rfl rfl (by kernel_rfl) (fun _ _ _ h => h) (Or.inl ⟨by rfl, ?_⟩) ?_ ?_
  rotate_left
  · intro w'
    go_simp
    with_reducible rfl
  rotate_left
  · simp only [Act.put, List.setIfInBounds_toArray, List.set_cons_zero, List.set_cons_succ]
    rfl
  refine take_ (i := 3) (N := some 6) (v := ?_) (a' := ?_) #[true, true, true, true, true, true, true, false, false, false] rfl rfl (by kernel_rfl) (fun _ _ _ h => h) (Or.inl ⟨by rfl, ?_⟩) hHeld ?_ ?_
  rotate_left
  · rintro w' ⟨s0, s1⟩
    go_simp
    with_reducible rfl
  rotate_left
  · simp only [Act.put, List.setIfInBounds_toArray, List.set_cons_zero, List.set_cons_succ]
    rfl
  refine take_ (i := 7) (N := some 10) (v := ?_) (a' := ?_) #[true, true, true, true, true, true, true, true, false, false] rfl rfl (by kernel_rfl) (fun _ _ _ h => h) (Or.inl ⟨by rfl, ?_⟩) hHeld ?_ ?_
  rotate_left
  · rintro w' ⟨s0, s1⟩
    go_simp
    with_reducible rfl
  rotate_left
  · simp only [Act.put, List.setIfInBounds_toArray, List.set_cons_zero, List.set_cons_succ]
    rfl
  refine pure_ (i := 8) (N := some 11) (v := ?_) (a' := ?_) #[true, true, true, true, true, true, true, true, true, false] rfl rfl (by kernel_rfl) (fun _ _ _ h => h) (Or.inl ⟨by rfl, ?_⟩) ?_ ?_
  rotate_left
  · intro w'
    go_simp
    with_reducible rfl
  rotate_left
  · simp only [Act.put, List.setIfInBounds_toArray, List.set_cons_zero, List.set_cons_succ]
    rfl
  refine pure_ (i := 9) (N := some 2) (v := ?_) (a' := ?_) #[true, true, true, true, true, true, true, true, true, true] rfl rfl (by kernel_rfl) (fun _ _ _ h => h) (Or.inl ⟨by rfl, ?_⟩) ?_ ?_
  rotate_left
  · intro w'
    go_simp
    with_reducible rfl
  rotate_left
  · simp only [Act.put, List.setIfInBounds_toArray, List.set_cons_zero, List.set_cons_succ]
    rfl
  refine done_ (by kernel_rfl) ?_
--E1
  go_wp2
  go_ret
  exact ⟨congrArg (fun q => Ending.returned (.int .i64 q)) HS.out, (Below.refl _ _).drew⟩
theorem logstamp_any {w : World} {g p : Nat} {l : LogV} (h : Row w g (l.cells p) 142) : Calls Try.prog 39 #[.pointer (some ⟨g, 0, none⟩)] w fun e w' => e = .returned (.int .u64 (l.stamp : Nat)) ∧ w = w' := by
  obtain ⟨c0, c1, c2, c3⟩ := LogV.facts h
  generalize l.stamp = a at *
  clear c0 c1 c2 h
  go_enter Try.func39, Try.ntmps39
  go_wp2
  go_ret
  exact ⟨rfl, rfl⟩

end Go.Proofs.Ytpddbffamejgeaa
