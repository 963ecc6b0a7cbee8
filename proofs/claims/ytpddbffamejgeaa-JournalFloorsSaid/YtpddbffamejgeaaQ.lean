import Derived.Test.YtpddbffamejgeaaG
namespace Go.Proofs.Ytpddbffamejgeaa
open Go.RowKit

set_option maxRecDepth 100000 in
set_option maxHeartbeats 800000 in
theorem put_out {w : World} {p : Nat} {role : Nat → Option Own} {M : Nat} {wayV actsV : Value} {f : Int → Option Value} {size : Nat} {base : Nat → Sec} {rest : Nat → List Sec} {tick : List (Nat × Nat)} {fuse : Option Nat} {dead : Bool}
    (h : RepX w p role M wayV actsV f size base rest tick fuse dead) (i : Int) (hi : ¬ (0 ≤ i ∧ i < size)) (s : Sec) :
    Calls Try.prog 20 #[.pointer (some ⟨p, 0, none⟩), .int .i64 i, .agg (s.map Bv).toArray] w fun e w' => e = .returned (.int .i64 81) ∧ Below w.heap.size w w' := by
  have h1 := h.below ((Below.refl _ _).alloc (Nat.le_refl _) (.cells (s.map Bv).toArray 34))
  have HT := Lib.hid (there_any h1 i)
  rw [decide_eq_false hi] at HT
  clear h h1 hi
  go_enter Try.func20, Try.ntmps20
  go_wp2_with (first | (refine wpl_box rfl 34 (.tmp 2) rfl (s.map Bv).toArray rfl ?_) | (go_at_call 68; refine HT.out.mono ?_; rintro e w' ⟨rfl, rfl⟩))
  go_ret
  exact ⟨rfl, (Below.refl _ _).alloc (Nat.le_refl _) _⟩

set_option maxRecDepth 100000 in
set_option maxHeartbeats 800000 in
theorem put_dead {w : World} {p : Nat} {role : Nat → Option Own} {M : Nat} {wayV actsV : Value} {f : Int → Option Value} {size : Nat} {base : Nat → Sec} {rest : Nat → List Sec} {tick : List (Nat × Nat)} {fuse : Option Nat} {dead : Bool}
    (h : RepX w p role M wayV actsV f size base rest tick fuse dead) (k : Nat) (hk : k < size) (s : Sec) (hd : actD fuse dead = true) :
    Calls Try.prog 20 #[.pointer (some ⟨p, 0, none⟩), .int .i64 k, .agg (s.map Bv).toArray] w fun e w' => e = .returned (.int .i64 82) ∧
      RepX w' p role M wayV actsV f size base rest tick (actF fuse dead) true ∧ Moves w role w' role := by
  have h1 := h.below ((Below.refl _ _).alloc (Nat.le_refl _) (.cells (s.map Bv).toArray 34))
  have hm0 : Moves w role (w.alloc (.cells (s.map Bv).toArray 34)) role := Moves.of_below ((Below.refl _ _).alloc (Nat.le_refl _) _)
  have HT := Lib.hid (there_any h1 k)
  rw [decide_eq_true (show 0 ≤ (k : Int) ∧ (k : Int) < size by omega)] at HT
  have HA := Lib.hid (act_any h1)
  rw [hd] at HA
  generalize actF fuse dead = fuse1 at HA ⊢
  have HM0 := Lib.hid hm0
  clear h h1 hd hm0
  go_enter Try.func20, Try.ntmps20
  go_wp2_with (first | (refine wpl_box rfl 34 (.tmp 2) rfl (s.map Bv).toArray rfl ?_) | (go_at_call 68; refine HT.out.mono ?_; rintro e w' ⟨rfl, rfl⟩) | (go_at_call 69; refine HA.out.mono ?_; clear HA HT; rintro e w1 ⟨rfl, hrep, hmv, hsz1⟩; have HR := Lib.hid hrep; have HM := Lib.hid hmv; clear hrep hmv hsz1))
  go_ret
  exact ⟨rfl, HR.out, HM0.out.trans HM.out⟩

set_option maxRecDepth 100000 in
set_option maxHeartbeats 800000 in
theorem size_any {w : World} {p : Nat} {role : Nat → Option Own} {M : Nat} {wayV actsV : Value} {f : Int → Option Value} {size : Nat} {base : Nat → Sec} {rest : Nat → List Sec} {tick : List (Nat × Nat)} {fuse : Option Nat} {dead : Bool}
    (h : RepX w p role M wayV actsV f size base rest tick fuse dead) :
    Calls Try.prog 65 #[.pointer (some ⟨p, 0, none⟩)] w fun e w' => e = .returned (.int .i64 size) ∧ w = w' := by
  have h1 : w.cell? ⟨p, 1, none⟩ = some (.int .i64 size) := by rw [h.row.cell]; rfl
  clear h
  go_enter Try.func65, Try.ntmps65
  go_wp2
  go_ret
  exact ⟨rfl, rfl⟩

set_option maxRecDepth 100000 in
set_option maxHeartbeats 800000 in
theorem dead_any {w : World} {p : Nat} {role : Nat → Option Own} {M : Nat} {wayV actsV : Value} {f : Int → Option Value} {size : Nat} {base : Nat → Sec} {rest : Nat → List Sec} {tick : List (Nat × Nat)} {fuse : Option Nat} {dead : Bool}
    (h : RepX w p role M wayV actsV f size base rest tick fuse dead) :
    Calls Try.prog 45 #[.pointer (some ⟨p, 0, none⟩)] w fun e w' => e = .returned (.bool dead) ∧ w = w' := by
  have h1 : w.cell? ⟨p, 4, none⟩ = some (.bool dead) := by rw [h.row.cell]; rfl
  clear h
  go_enter Try.func45, Try.ntmps45
  go_wp2
  go_ret
  exact ⟨rfl, rfl⟩

/-- No role. -/
def noRole : Nat → Option Own := fun _ => none
theorem info121 : (Try.prog.info? 121).map (fun i => (i.zero, i.size, i.bytes)) = some (some (.agg #[.map none, .int .i64 0, .slice none 0 0, .pointer none, .bool false]), 5, 56) := by kernel_rfl

def BlankPost (w : World) (s : Nat) (e : Ending) (w' : World) : Prop :=
  ∃ p role M, e = .returned (.pointer (some ⟨p, 0, none⟩)) ∧ RepX w' p role M (.slice none 0 0) (.pointer none) (fun _ => none) s (fun _ => zeros) (fun _ => []) [] none false ∧
      Below w.heap.size w w' ∧ (∀ k, k < w.heap.size → role k = none)
theorem blank_mk (w : World) (s : Nat) (hs : s ≤ 2048) {v : Value} (hv : v = .int .i64 s) :
    BlankPost w s (.returned (.pointer (some ⟨w.heap.size + 1, 0, none⟩))) ((w.alloc (.map #[] 0)).alloc (.cells #[.map (some w.heap.size), v, .slice none 0 0, .pointer none, .bool false] 121)) := by
  subst hv
  refine ⟨w.heap.size + 1, roleSet (roleSet noRole w.heap.size .map) (w.heap.size + 1) .disk, w.heap.size, rfl, ?_, ((Below.refl _ _).alloc (Nat.le_refl _) _).alloc (by simp) _, ?_⟩
  · refine ⟨by simp [roleSet], heap_alloc2_new _ _ _, by simp [roleSet], (MapAt.new w).of_block (Below.heap_alloc _ _ _ (by simp)), World.ownsRow_nil _ _ _ _, ?_, rfl, ?_, ?_, hs, ?_⟩
    · intro g hg; simp [Value.ownBlock] at hg
    · intro k; exact ⟨rfl, rfl⟩
    · intro k; exact ⟨rfl, by simp⟩
    · intro k hk
      simp only [roleSet, noRole] at hk
      split at hk
      · simp; omega
      · split at hk
        · simp; omega
        · exact absurd rfl hk
  · intro k hk
    simp [roleSet, noRole, Nat.ne_of_lt hk, Nat.ne_of_lt (Nat.lt_succ_of_lt hk)]

set_option maxRecDepth 100000 in
set_option maxHeartbeats 800000 in
theorem blank_any (w : World) (n : Int) (s : Nat) (hs : (s : Int) = max 0 (min n 2048)) :
    Calls Try.prog 16 #[.int .i64 n] w (BlankPost w s) := by
  have hmm := @run_makeMap Try.prog
  have HS := Lib.hid hs
  clear hs
  go_enter Try.func16, Try.ntmps16
  go_wp2
  all_goals
    go_ret
    have hS := HS.out
    exact blank_mk w s (by omega) (by congr 1; omega)

end Go.Proofs.Ytpddbffamejgeaa
