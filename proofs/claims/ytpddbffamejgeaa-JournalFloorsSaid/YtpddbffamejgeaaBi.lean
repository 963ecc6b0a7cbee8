/- journal: what it is in memory; right, open, told, Append, Room, Ready. -/
import Derived.Test.YtpddbffamejgeaaBd
import Derived.Test.YtpddbffamejgeaaAt
namespace Go.Proofs.Ytpddbffamejgeaa
open Go.RowKit Go.Proofs.YtpddbffamejgeaaW.PrintLast

def jcells (p size : Nat) (lv : Value) (ready : Bool) : List Value := [.pointer (some ⟨p, 0, none⟩), .int .i64 (size : Nat), lv, .bool ready]
def ptr (g : Nat) : Value := .pointer (some ⟨g, 0, none⟩)
theorem jfacts {w : World} {p q size : Nat} {lv : Value} {ready : Bool} (h : Row w q (jcells p size lv ready) 153) :
    w.cell? ⟨q, 0, none⟩ = some (.pointer (some ⟨p, 0, none⟩)) ∧ w.cell? ⟨q, 1, none⟩ = some (.int .i64 (size : Nat)) ∧ w.cell? ⟨q, 2, none⟩ = some lv ∧ w.cell? ⟨q, 3, none⟩ = some (.bool ready) :=
  ⟨by rw [h.cell]; rfl, by rw [h.cell]; rfl, by rw [h.cell]; rfl, by rw [h.cell]; rfl⟩
/-- A journal lies at q, its log at g. -/
structure JAt (w : World) (p q g : Nat) (role : Nat → Option Own) (size : Nat) (ready : Bool) (l : LogV) : Prop where
  row : Row w q (jcells p size (ptr g) ready) 153
  log : Row w g (l.cells p) 142
  rq : role q = none
  rg : role g = none
  ne : q ≠ g
/-- The disk's blocks, the journal's and its log's. -/
def jr (role : Nat → Option Own) (q g : Nat) : Nat → Option Own := roleSet (roleSet role q .fuse) g .fuse
theorem jr_none {role : Nat → Option Own} {q g k : Nat} (h : jr role q g k = none) : role k = none ∧ k ≠ q ∧ k ≠ g := by
  unfold jr at h
  have h1 : k ≠ g := by rintro rfl; simp [roleSet] at h
  rw [roleSet_ne h1] at h
  have h2 : k ≠ q := by rintro rfl; simp [roleSet] at h
  rw [roleSet_ne h2] at h
  exact ⟨h, h2, h1⟩
theorem jr_of {role : Nat → Option Own} {q g k : Nat} (h : role k = none) (h1 : k ≠ q) (h2 : k ≠ g) : jr role q g k = none := by
  unfold jr; rw [roleSet_ne h2, roleSet_ne h1]; exact h
theorem Moves.jr {w w' : World} {role role' : Nat → Option Own} (h : Moves w role w' role') (q g : Nat) : Moves w (jr role q g) w' (jr role' q g) := (h.widen q .fuse).widen g .fuse
theorem JAt.moves {w w' : World} {p q g size : Nat} {role role' : Nat → Option Own} {ready : Bool} {l : LogV} (h : JAt w p q g role size ready l) (hm : Moves w role w' role') : JAt w' p q g role' size ready l :=
  ⟨hm.row h.row h.rq, hm.row h.log h.rg, hm.old _ h.row.lt h.rq, hm.old _ h.log.lt h.rg, h.ne⟩
theorem JAt.below {w w' : World} {p q g size : Nat} {role : Nat → Option Own} {ready : Bool} {l : LogV} (h : JAt w p q g role size ready l) (hb : Below w.heap.size w w') : JAt w' p q g role size ready l := h.moves (Moves.of_below hb)

theorem jright_yes {w : World} {p : Nat} {role : Nat → Option Own} {d : DS} (h : DiskAt w p role d) (s : Nat) (hs : 1 ≤ s) (hs2 : s ≤ 255) (hfit : 2 * s < d.size) :
    Calls Try.prog 88 #[.pointer (some ⟨p, 0, none⟩), .int .i64 s] w fun e w' => e = .returned (.bool true) ∧ w = w' := by
  have HZ := Lib.hid (disk_size h)
  have hsz : d.size ≤ 2048 := by obtain ⟨M, a1, a2, f, hh⟩ := h; exact hh.sz
  have h2 : (1 : Int) ≤ s := by omega
  have h3 : (s : Int) ≤ 255 := by omega
  have h4 : 2 * (s : Int) < (d.size : Int) := by omega
  clear h
  go_enter Try.func88, Try.ntmps88
  go_wp2_with (go_at_call 65; refine HZ.out.mono ?_; rintro e w' ⟨rfl, rfl⟩)
  go_ret
  exact ⟨congrArg (fun q => Ending.returned (.bool q)) (by first | rfl | simp [h4] | (simp; omega)), rfl⟩
theorem told_any (w : World) (p q size : Nat) (lv : Value) (ready : Bool) (h : Row w q (jcells p size lv ready) 153) (n : Nat) (hn : n ≤ 1000) :
    Calls Try.prog 90 #[.pointer (some ⟨q, 0, none⟩), .int .i64 n] w fun e w' => e = .returned (.int .i64 (n : Nat)) ∧ w' = if n = 82 then w.setCell ⟨q, 3, none⟩ (.bool false) else w := by
  have hc := (jfacts h).2.2.2
  have hf : w.frozen? ⟨q, 3, none⟩ = false := h.thaw 3
  clear h
  by_cases h82 : n = 82
  · subst h82
    go_enter Try.func90, Try.ntmps90
    go_wp2
    go_ret
    exact ⟨rfl, by first | rfl | rw [if_pos rfl]⟩
  · have h82' : ((n : Int) == 82) = false := by simp; omega
    rw [if_neg h82]
    clear h82
    go_enter Try.func90, Try.ntmps90
    go_wp2
    go_ret
    exact ⟨rfl, rfl⟩
theorem ready_any (w : World) (p q size : Nat) (lv : Value) (ready : Bool) (h : Row w q (jcells p size lv ready) 153) : Calls Try.prog 64 #[.pointer (some ⟨q, 0, none⟩)] w fun e w' => e = .returned (.bool ready) ∧ w = w' := by
  have hc := (jfacts h).2.2.2
  clear h
  go_enter Try.func64, Try.ntmps64
  go_wp2
  go_ret
  exact ⟨rfl, rfl⟩

/-- Only one block is another one. -/
theorem only_moves {w w' : World} {q : Nat} (h : Moves w (roleSet (fun _ => none) q .fuse) w' (roleSet (fun _ => none) q .fuse)) (role : Nat → Option Own) : Moves w (roleSet role q .fuse) w' (roleSet role q .fuse) :=
  ⟨h.os, h.tape, h.output, h.size, fun k hk hn => h.block k hk (by
    have : k ≠ q := by rintro rfl; simp [roleSet] at hn
    rw [roleSet_ne this]), fun k _ hn => hn⟩
/-- What comes of opening the log. -/
def JOpenPost (w : World) (p q size : Nat) (role : Nat → Option Own) (ready : Bool) (d : DS) (floor : Nat) (e : Ending) (w' : World) : Prop :=
  ∃ g v, e = .returned (.tuple #[v, .int .i64 0]) ∧ w.heap.size ≤ g ∧ DiskAt w' p role d ∧ JAt w' p q g role size ready (d.logV (2 * size) d.size floor) ∧
    ListsAt w' (fun k => w.heap.size ≤ k ∧ k ≠ g) v (d.recs (2 * size) d.size floor).1 ∧ Moves w (roleSet (fun _ => none) q .fuse) w' (roleSet (fun _ => none) q .fuse)

set_option maxRecDepth 100000 in
set_option maxHeartbeats 1600000 in
theorem jopen_any {w : World} {p q : Nat} {role : Nat → Option Own} {d : DS} {size : Nat} {lv : Value} {ready : Bool} (h : DiskAt w p role d) (hr : Row w q (jcells p size lv ready) 153) (hq : role q = none) (hs2 : size ≤ 255) (hfit : 2 * size ≤ d.size) (floor : Nat) (hfl : floor < 18446744073709551616) :
    Calls Try.prog 89 #[.pointer (some ⟨q, 0, none⟩), .int .u64 floor] w (JOpenPost w p q size role ready d floor) := by
  have hsz : d.size ≤ 2048 := by obtain ⟨M, a1, a2, f, hh⟩ := h; exact hh.sz
  have hdz : ∀ W, DiskAt W p role d → Calls Try.prog 65 #[.pointer (some ⟨p, 0, none⟩)] W fun e w' => e = .returned (.int .i64 d.size) ∧ W = w' := fun W hW => disk_size hW
  obtain ⟨l, hl⟩ : ∃ l, l = d.logV (2 * size) d.size floor := ⟨_, rfl⟩
  obtain ⟨L, hL⟩ : ∃ L, L = (d.recs (2 * size) d.size floor).1 := ⟨_, rfl⟩
  have ho : ∀ W, DiskAt W p role d → Calls Try.prog 35 #[.pointer (some ⟨p, 0, none⟩), .int .i64 (2 * (size : Int)), .int .i64 d.size, .int .u64 floor] W (LogOpenPost W p l L) := fun W hW => by
    have := logopen_any hW (2 * size) d.size floor hfit (Nat.le_refl _) hfl
    rw [← hl, ← hL, show ((2 * size : Nat) : Int) = 2 * (size : Int) by omega] at this
    exact this
  unfold JOpenPost
  rw [← hl, ← hL]
  have HDZ := Lib.hid hdz
  have HO := Lib.hid ho
  have HD := Lib.hid h
  have HR := Lib.hid hr
  have HQ := Lib.hid hq
  clear hdz ho h hr hq hl hL
  have HDD := Lib.hid (HD.out.below ((Below.refl w.heap.size w).drew))
  have HRD := Lib.hid HR.out.drew
  go_enter Try.func89, Try.ntmps89
  go_upto_region 1 with fail
--B1
  refine start_ (n := 23) (S := fun w' => w'.cell? ⟨q, 0, none⟩ = some (.pointer (some ⟨p, 0, none⟩)) ∧ w'.cell? ⟨q, 1, none⟩ = some (.int .i64 (size : Nat))) (ds := []) #[false, false, false, false, false, false, false, false, false, false, false, false, false, false, false, false, false, false, false, false, false, false, false] (by kernel_rfl) rfl rfl ⟨(jfacts HRD.out).1, (jfacts HRD.out).2.1⟩ (fun hHeld => ?_)
  refine pure_ (i := 0) (N := some 10) (v := ?_) (a' := ?_) #[true, false, false, false, false, false, false, false, false, false, false, false, false, false, false, false, false, false, false, false, false, false, false] rfl rfl (by kernel_rfl) (fun _ _ _ h => h) (Or.inl ⟨by rfl, ?_⟩) ?_ ?_
  rotate_left
  · intro w'
    go_simp
    with_reducible rfl
  rotate_left
  · simp only [Act.put, List.setIfInBounds_toArray, List.set_cons_zero, List.set_cons_succ]
    rfl
  refine pure_ (i := 1) (N := some 11) (v := ?_) (a' := ?_) #[true, true, false, false, false, false, false, false, false, false, false, false, false, false, false, false, false, false, false, false, false, false, false] rfl rfl (by kernel_rfl) (fun _ _ _ h => h) (Or.inl ⟨by rfl, ?_⟩) ?_ ?_
  rotate_left
  · intro w'
    go_simp
    with_reducible rfl
  rotate_left
  · simp only [Act.put, List.setIfInBounds_toArray, List.set_cons_zero, List.set_cons_succ]
    rfl
  refine pure_ (i := 2) (N := some 12) (v := ?_) (a' := ?_) #[true, true, true, false, false, false, false, false, false, false, false, false, false, false, false, false, false, false, false, false, false, false, false] rfl rfl (by kernel_rfl) (fun _ _ _ h => h) (Or.inl ⟨by rfl, ?_⟩) ?_ ?_
  rotate_left
  · intro w'
    go_simp
    with_reducible rfl
  rotate_left
  · simp only [Act.put, List.setIfInBounds_toArray, List.set_cons_zero, List.set_cons_succ]
    rfl
  refine pure_ (i := 4) (N := some 14) (v := ?_) (a' := ?_) #[true, true, true, false, true, false, false, false, false, false, false, false, false, false, false, false, false, false, false, false, false, false, false] rfl rfl (by kernel_rfl) (fun _ _ _ h => h) (Or.inl ⟨by rfl, ?_⟩) ?_ ?_
  rotate_left
  · intro w'
    go_simp
    with_reducible rfl
  rotate_left
  · simp only [Act.put, List.setIfInBounds_toArray, List.set_cons_zero, List.set_cons_succ]
    rfl
  refine pure_ (i := 5) (N := some 15) (v := ?_) (a' := ?_) #[true, true, true, false, true, true, false, false, false, false, false, false, false, false, false, false, false, false, false, false, false, false, false] rfl rfl (by kernel_rfl) (fun _ _ _ h => h) (Or.inl ⟨by rfl, ?_⟩) ?_ ?_
  rotate_left
  · intro w'
    go_simp
    with_reducible rfl
  rotate_left
  · simp only [Act.put, List.setIfInBounds_toArray, List.set_cons_zero, List.set_cons_succ]
    rfl
  refine pure_ (i := 6) (N := some 16) (v := ?_) (a' := ?_) #[true, true, true, false, true, true, true, false, false, false, false, false, false, false, false, false, false, false, false, false, false, false, false] rfl rfl (by kernel_rfl) (fun _ _ _ h => h) (Or.inl ⟨by rfl, ?_⟩) ?_ ?_
  rotate_left
  · intro w'
    go_simp
    with_reducible rfl
  rotate_left
  · simp only [Act.put, List.setIfInBounds_toArray, List.set_cons_zero, List.set_cons_succ]
    rfl
  refine pure_ (i := 9) (N := some 19) (v := ?_) (a' := ?_) #[true, true, true, false, true, true, true, false, false, true, false, false, false, false, false, false, false, false, false, false, false, false, false] rfl rfl (by kernel_rfl) (fun _ _ _ h => h) (Or.inl ⟨by rfl, ?_⟩) ?_ ?_
  rotate_left
  · intro w'
    go_simp
    with_reducible rfl
  rotate_left
  · simp only [Act.put, List.setIfInBounds_toArray, List.set_cons_zero, List.set_cons_succ]
    rfl
  refine pure_ (i := 10) (N := some 20) (v := ?_) (a' := ?_) #[true, true, true, false, true, true, true, false, false, true, true, false, false, false, false, false, false, false, false, false, false, false, false] rfl rfl (by kernel_rfl) (fun _ _ _ h => h) (Or.inl ⟨by rfl, ?_⟩) ?_ ?_
  rotate_left
  · intro w'
    go_simp
    with_reducible rfl
  rotate_left
  · simp only [Act.put, List.setIfInBounds_toArray, List.set_cons_zero, List.set_cons_succ]
    rfl
  refine pure_ (i := 11) (N := some 21) (v := ?_) (a' := ?_) #[true, true, true, false, true, true, true, false, false, true, true, true, false, false, false, false, false, false, false, false, false, false, false] rfl rfl (by kernel_rfl) (fun _ _ _ h => h) (Or.inl ⟨by rfl, ?_⟩) ?_ ?_
  rotate_left
  · intro w'
    go_simp
    with_reducible rfl
  rotate_left
  · simp only [Act.put, List.setIfInBounds_toArray, List.set_cons_zero, List.set_cons_succ]
    rfl
  refine pure_ (i := 14) (N := some 24) (v := ?_) (a' := ?_) #[true, true, true, false, true, true, true, false, false, true, true, true, false, false, true, false, false, false, false, false, false, false, false] rfl rfl (by kernel_rfl) (fun _ _ _ h => h) (Or.inl ⟨by rfl, ?_⟩) ?_ ?_
  rotate_left
  · intro w'
    go_simp
    with_reducible rfl
  rotate_left
  · simp only [Act.put, List.setIfInBounds_toArray, List.set_cons_zero, List.set_cons_succ]
    rfl
  refine take_ (i := 3) (N := some 13) (v := ?_) (a' := ?_) #[true, true, true, true, true, true, true, false, false, true, true, true, false, false, true, false, false, false, false, false, false, false, false] rfl rfl (by kernel_rfl) (fun _ _ _ h => h) (Or.inl ⟨by rfl, ?_⟩) hHeld ?_ ?_
  rotate_left
  · rintro w' ⟨s0, s1⟩
    go_simp
    with_reducible rfl
  rotate_left
  · simp only [Act.put, List.setIfInBounds_toArray, List.set_cons_zero, List.set_cons_succ]
    rfl
  refine take_ (i := 7) (N := some 17) (v := ?_) (a' := ?_) #[true, true, true, true, true, true, true, true, false, true, true, true, false, false, true, false, false, false, false, false, false, false, false] rfl rfl (by kernel_rfl) (fun _ _ _ h => h) (Or.inl ⟨by rfl, ?_⟩) hHeld ?_ ?_
  rotate_left
  · rintro w' ⟨s0, s1⟩
    go_simp
    with_reducible rfl
  rotate_left
  · simp only [Act.put, List.setIfInBounds_toArray, List.set_cons_zero, List.set_cons_succ]
    rfl
  refine pure_ (i := 8) (N := some 18) (v := .int .i64 (2 * (size : Int))) (a' := ?_) #[true, true, true, true, true, true, true, true, true, true, true, true, false, false, true, false, false, false, false, false, false, false, false] rfl rfl (by kernel_rfl) (fun _ _ _ h => h) (Or.inl ⟨by rfl, ?_⟩) ?_ ?_
  · intro w'
    have hw2 : IntKind.i64.wrap (2 * (size : Int)) = 2 * (size : Int) := by rw [IntKind.wrap_i64]; omega
    go_simp
  rotate_left
  · simp only [Act.put, List.setIfInBounds_toArray, List.set_cons_zero, List.set_cons_succ]
    rfl
  refine take_ (i := 12) (N := some 22) (v := ?_) (a' := ?_) #[true, true, true, true, true, true, true, true, true, true, true, true, true, false, true, false, false, false, false, false, false, false, false] rfl rfl (by kernel_rfl) (fun _ _ _ h => h) (Or.inl ⟨by rfl, ?_⟩) hHeld ?_ ?_
  rotate_left
  · rintro w' ⟨s0, s1⟩
    go_simp
    with_reducible rfl
  rotate_left
  · simp only [Act.put, List.setIfInBounds_toArray, List.set_cons_zero, List.set_cons_succ]
    rfl
  refine one_ (i := 13) (N := some 23) #[true, true, true, true, true, true, true, true, true, true, true, true, true, true, true, false, false, false, false, false, false, false, false] rfl rfl (by kernel_rfl) (by decide) (fun K hK => ?_)
  refine goes_ Try.func65 (by kernel_rfl) rfl #[.pointer (some ⟨p, 0, none⟩)] (by rfl) rfl rfl (by simp only [List.map_toArray, List.map_cons, List.map_nil]; rfl) ?_
  with_reducible refine (HDZ.out _ HDD.out).mono ?_
  rintro e w3 ⟨rfl, rfl⟩
  refine ⟨_, rfl, ?_⟩
  refine hK.out _ _ ⟨(jfacts HRD.out).1, (jfacts HRD.out).2.1⟩ (fun hHeld => ?_)
  clear hK K
  refine norm_ (a' := ?_) ?_ ?_
  rotate_left
  · show Act.put _ (some 23) _ = _
    simp only [Act.put, List.setIfInBounds_toArray, List.set_cons_zero, List.set_cons_succ]
    rfl
  refine one_ (i := 15) (N := some 25) #[true, true, true, true, true, true, true, true, true, true, true, true, true, true, true, true, false, false, false, false, false, false, false] rfl rfl (by kernel_rfl) (by decide) (fun K hK => ?_)
  refine goes_ Try.func35 (by kernel_rfl) rfl #[.pointer (some ⟨p, 0, none⟩), .int .i64 (2 * (size : Int)), .int .i64 d.size, .int .u64 floor] (by rfl) rfl rfl (by simp only [List.map_toArray, List.map_cons, List.map_nil]; rfl) ?_
  with_reducible refine (HO.out _ HDD.out).mono ?_
  rintro e w3 ⟨g3, v3, rfl, hg3, hrow3, hL3, hb3⟩
  refine ⟨_, rfl, ?_⟩
  refine hK.out _ _ ⟨(jfacts (HRD.out.below hb3 HRD.out.lt)).1, (jfacts (HRD.out.below hb3 HRD.out.lt)).2.1⟩ (fun hHeld => ?_)
  clear hK K
  refine norm_ (a' := ?_) ?_ ?_
  rotate_left
  · show Act.put _ (some 25) _ = _
    simp only [Act.put, List.setIfInBounds_toArray, List.set_cons_zero, List.set_cons_succ]
    rfl
  refine pure_ (i := 16) (N := some 9) (v := ?_) (a' := ?_) #[true, true, true, true, true, true, true, true, true, true, true, true, true, true, true, true, true, false, false, false, false, false, false] rfl rfl (by kernel_rfl) (fun _ _ _ h => h) (Or.inl ⟨by rfl, ?_⟩) ?_ ?_
  rotate_left
  · intro w'
    go_simp
    with_reducible rfl
  rotate_left
  · simp only [Act.put, List.setIfInBounds_toArray, List.set_cons_zero, List.set_cons_succ]
    rfl
  refine pure_ (i := 17) (N := some 26) (v := ?_) (a' := ?_) #[true, true, true, true, true, true, true, true, true, true, true, true, true, true, true, true, true, true, false, false, false, false, false] rfl rfl (by kernel_rfl) (fun _ _ _ h => h) (Or.inl ⟨by rfl, ?_⟩) ?_ ?_
  rotate_left
  · intro w'
    go_simp
    with_reducible rfl
  rotate_left
  · simp only [Act.put, List.setIfInBounds_toArray, List.set_cons_zero, List.set_cons_succ]
    rfl
  refine pure_ (i := 18) (N := some 27) (v := ?_) (a' := ?_) #[true, true, true, true, true, true, true, true, true, true, true, true, true, true, true, true, true, true, true, false, false, false, false] rfl rfl (by kernel_rfl) (fun _ _ _ h => h) (Or.inl ⟨by rfl, ?_⟩) ?_ ?_
  rotate_left
  · intro w'
    go_simp
    with_reducible rfl
  rotate_left
  · simp only [Act.put, List.setIfInBounds_toArray, List.set_cons_zero, List.set_cons_succ]
    rfl
  refine pure_ (i := 19) (N := some 28) (v := ?_) (a' := ?_) #[true, true, true, true, true, true, true, true, true, true, true, true, true, true, true, true, true, true, true, true, false, false, false] rfl rfl (by kernel_rfl) (fun _ _ _ h => h) (Or.inl ⟨by rfl, ?_⟩) ?_ ?_
  rotate_left
  · intro w'
    go_simp
    with_reducible rfl
  rotate_left
  · simp only [Act.put, List.setIfInBounds_toArray, List.set_cons_zero, List.set_cons_succ]
    rfl
  refine pure_ (i := 20) (N := some 6) (v := ?_) (a' := ?_) #[true, true, true, true, true, true, true, true, true, true, true, true, true, true, true, true, true, true, true, true, true, false, false] rfl rfl (by kernel_rfl) (fun _ _ _ h => h) (Or.inl ⟨by rfl, ?_⟩) ?_ ?_
  rotate_left
  · intro w'
    go_simp
    with_reducible rfl
  rotate_left
  · simp only [Act.put, List.setIfInBounds_toArray, List.set_cons_zero, List.set_cons_succ]
    rfl
  refine pure_ (i := 21) (N := some 7) (v := ?_) (a' := ?_) #[true, true, true, true, true, true, true, true, true, true, true, true, true, true, true, true, true, true, true, true, true, true, false] rfl rfl (by kernel_rfl) (fun _ _ _ h => h) (Or.inl ⟨by rfl, ?_⟩) ?_ ?_
  rotate_left
  · intro w'
    go_simp
    with_reducible rfl
  rotate_left
  · simp only [Act.put, List.setIfInBounds_toArray, List.set_cons_zero, List.set_cons_succ]
    rfl
  refine pure_ (i := 22) (N := some 8) (v := ?_) (a' := ?_) #[true, true, true, true, true, true, true, true, true, true, true, true, true, true, true, true, true, true, true, true, true, true, true] rfl rfl (by kernel_rfl) (fun _ _ _ h => h) (Or.inl ⟨by rfl, ?_⟩) ?_ ?_
  rotate_left
  · intro w'
    go_simp
    with_reducible rfl
  rotate_left
  · simp only [Act.put, List.setIfInBounds_toArray, List.set_cons_zero, List.set_cons_succ]
    rfl
  refine done_ (by kernel_rfl) ?_
--E1
  have hbd := (Below.refl w.heap.size w).drew.trans (hb3.mono (Nat.le_refl _))
  have hr3 := HR.out.below hbd HR.out.lt
  have HR3 := Lib.hid hr3
  have HD3 := Lib.hid (HD.out.below hbd)
  have hC2 := (jfacts hr3).2.2.1
  have hF2 : w3.frozen? ⟨q, 2, none⟩ = false := hr3.thaw 2
  have HBD := Lib.hid hbd
  have HL3 := Lib.hid hL3
  have HG3 := Lib.hid hrow3
  have HG := Lib.hid hg3
  clear hbd hr3 hL3 hrow3 hg3 hb3 hHeld
  go_wp2
  go_ret2
  have hqg : q ≠ g3 := by have := HR.out.lt; have := HG.out; rintro rfl; simp at this; omega
  have hgl : g3 < w3.heap.size := HG3.out.lt
  refine ⟨g3, v3, rfl, HG.out, HD3.out.setCell HQ.out 2 _, ⟨HR3.out.set 2 (ptr g3), HG3.out.other _ _ (fun e => hqg e.symm), HQ.out, HD.out.off HG.out, hqg⟩, ?_, ?_⟩
  · refine HL3.out.of_block fun k hk hlt => heap_setCell_other _ _ _ _ ?_
    intro e
    have h1 := HR.out.lt
    have h2 : w.heap.size ≤ k := hk.1
    simp at e
    omega
  · exact (Moves.of_below HBD.out).trans (Moves.setCell _ _ (by simp [roleSet]))

end Go.Proofs.Ytpddbffamejgeaa
