import Derived.Test.YtpddbffamejgeaaA
import Derived.Test.YtpddbffamejgeaaE
import Derived.Maps.OwnOps
namespace Go.Proofs.Ytpddbffamejgeaa
open Go.RowKit

theorem zero41 (w : World) : (zeroValue 41).run Try.prog w = .ok (.slice none 0 0) w := by kernel_rfl
def topOf (b : Sec) (r : List Sec) : Sec := r.getLast?.getD b

set_option maxRecDepth 100000 in
set_option maxHeartbeats 400000 in
theorem there_any {w : World} {p : Nat} {role : Nat → Option Own} {M : Nat} {wayV actsV : Value} {f : Int → Option Value} {size : Nat} {base : Nat → Sec} {rest : Nat → List Sec} {tick : List (Nat × Nat)} {fuse : Option Nat} {dead : Bool}
    (h : RepX w p role M wayV actsV f size base rest tick fuse dead) (i : Int) :
    Calls Try.prog 68 #[.pointer (some ⟨p, 0, none⟩), .int .i64 i] w fun e w' => e = .returned (.bool (decide (0 ≤ i ∧ i < size))) ∧ w = w' := by
  have h1 : w.cell? ⟨p, 1, none⟩ = some (.int .i64 size) := by rw [h.row.cell]; rfl
  clear h
  by_cases h0 : 0 ≤ i
  · go_enter Try.func68, Try.ntmps68
    go_wp2
    go_ret
    exact ⟨by simp [h0], rfl⟩
  · go_enter Try.func68, Try.ntmps68
    go_wp2
    go_ret
    exact ⟨by simp [Int.not_le.2 (show i < 0 by omega)], rfl⟩

set_option maxRecDepth 100000 in
set_option maxHeartbeats 400000 in
theorem get_out {w : World} {p : Nat} {role : Nat → Option Own} {M : Nat} {wayV actsV : Value} {f : Int → Option Value} {size : Nat} {base : Nat → Sec} {rest : Nat → List Sec} {tick : List (Nat × Nat)} {fuse : Option Nat} {dead : Bool}
    (h : RepX w p role M wayV actsV f size base rest tick fuse dead) (i : Int) (hi : ¬ (0 ≤ i ∧ i < size)) :
    Calls Try.prog 19 #[.pointer (some ⟨p, 0, none⟩), .int .i64 i] w fun e w' => e = .returned (.tuple #[.agg (zeros.map Bv).toArray, .int .i64 81]) ∧ Below w.heap.size w w' := by
  have HT := Lib.hid (there_any (h.below ((Below.refl _ _).alloc (Nat.le_refl _) (.cells Z64 34))) i)
  rw [decide_eq_false hi] at HT
  clear h hi
  have hr := Row.newZ w 34
  go_enter Try.func19, Try.ntmps19
  go_wp2_with (first | (refine wpl_alloc rfl 34 rfl Z64 64 64 info34 ?_) | (refine wpl_build0 rfl 34 rfl Z64 64 64 info34 64 5 1 Try.underlying34 size5 ?_) | (go_at_call 68; refine HT.out.mono ?_; rintro e w' ⟨rfl, rfl⟩) | (refine wpl_store rfl 34 (.tmp 4) (.tmp 11) rfl w.heap.size (zeros64.map Bv) rfl rfl 34 _ hr 64 size34 length_zeros64 length_zeros64 (oneB' _) ?_))
  refine bodyPost_ret (results_cell_row2 rfl _ _ w.heap.size 34 _ (0, 0) _ rfl (hr.setRow _).eq Try.underlying34 rfl size34) rfl ⟨rfl, ?_⟩
  exact below_setRow ((Below.refl _ _).alloc (Nat.le_refl _) _) (Nat.le_refl _) _


set_option maxRecDepth 100000 in
set_option maxHeartbeats 400000 in
theorem get_in {w : World} {p : Nat} {role : Nat → Option Own} {M : Nat} {wayV actsV : Value} {f : Int → Option Value} {size : Nat} {base : Nat → Sec} {rest : Nat → List Sec} {tick : List (Nat × Nat)} {fuse : Option Nat} {dead : Bool}
    (h : RepX w p role M wayV actsV f size base rest tick fuse dead) (k : Nat) (hk : k < size) :
    Calls Try.prog 19 #[.pointer (some ⟨p, 0, none⟩), .int .i64 k] w fun e w' => e = .returned (.tuple #[.agg ((topOf (base k) (rest k)).map Bv).toArray, .int .i64 0]) ∧ Below w.heap.size w w' := by
  have h' := h.below ((Below.refl _ _).alloc (Nat.le_refl _) (.cells Z64 34))
  have HT := Lib.hid (there_any h' k)
  rw [decide_eq_true (show 0 ≤ (k : Int) ∧ (k : Int) < size by omega)] at HT
  have hM : (w.alloc (.cells Z64 34)).cell? ⟨p, 0, none⟩ = some (.map (some M)) := by rw [h'.row.cell]; rfl
  have hl := h'.map.lookup (P := Try.prog) (T := 117) (K := 3) (E := 41) Try.underlying117 Try.underlying3 (zero41 _) k
  have hr := Row.newZ w 34
  have hs := h'.shape k
  have hlen := h.len k
  cases hf : f k with
  | none =>
    rw [hf] at hl hs
    obtain ⟨hb, hrest⟩ := hs
    have htop : topOf (base k) (rest k) = zeros := by rw [hb, hrest]; rfl
    rw [htop]
    simp only [Option.getD_none] at hl
    clear h h' hf hb hrest htop hlen hk
    go_enter Try.func19, Try.ntmps19
    go_wp2_with (first | (refine wpl_alloc rfl 34 rfl Z64 64 64 info34 ?_) | (refine wpl_build0 rfl 34 rfl Z64 64 64 info34 64 5 1 Try.underlying34 size5 ?_) | (go_at_call 68; refine HT.out.mono ?_; rintro e w' ⟨rfl, rfl⟩) | (refine wpl_store rfl 34 (.tmp 4) (.tmp 21) rfl w.heap.size (zeros64.map Bv) rfl rfl 34 _ hr 64 size34 length_zeros64 length_zeros64 (oneB' _) ?_))
    refine bodyPost_ret (results_cell_row2 rfl _ _ w.heap.size 34 _ (0, 0) _ rfl (hr.setRow _).eq Try.underlying34 rfl size34) rfl ⟨rfl, ?_⟩
    exact below_setRow ((Below.refl _ _).alloc (Nat.le_refl _) _) (Nat.le_refl _) _
  | some v =>
    rw [hf] at hl hs
    obtain ⟨hown, hrole⟩ := hs
    obtain ⟨g, cap, cur, rfl, hrow, h1, h2, h3, h4⟩ := owns_some hown (by omega)
    obtain ⟨t, ht⟩ : ∃ t, t = topOf (base k) (rest k) := ⟨_, rfl⟩
    rw [← ht]
    have hall : ∀ x ∈ base k :: rest k, x.length = 64 := by
      intro x hx
      rcases List.mem_cons.1 hx with rfl | hx
      · exact hlen.1
      · exact hlen.2 x hx
    have hat : (base k :: rest k)[(rest k).length]? = some t := by
      rw [ht]; unfold topOf
      cases hq : (rest k).reverse with
      | nil => have : rest k = [] := by simpa using hq
               simp [this]
      | cons x l => have : rest k = l.reverse ++ [x] := by rw [← List.reverse_reverse (rest k), hq]; simp
                    simp [this]
    have htl : t.length = 64 := hall t (List.mem_of_getElem? hat)
    have hrg : (w.alloc (.cells Z64 34)).rangeAt g ((1 + (rest k).length - 1) * 64) (t.map Bv) := fun j v hv => by
      rw [Nat.add_sub_cancel_left, hrow.cell]; exact take_get h4 (secs_at _ _ t hall hat j v hv)
    have hg : role g = some (.shp k) := hrole g rfl
    have hglt : g < w.heap.size := h.inn g (by rw [hg]; simp)
    generalize (rest k).length = n at *
    simp only [Option.getD_some] at hl
    unfold maxLen at h2
    clear h h' hf ht hat hlen hk hown hrole hrow h3 h4 hall hg
    go_enter Try.func19, Try.ntmps19
    go_wp2_with (first | (refine wpl_alloc rfl 34 rfl Z64 64 64 info34 ?_) | (go_at_call 68; refine HT.out.mono ?_; rintro e w' ⟨rfl, rfl⟩) | (refine wpl_load_at rfl 34 (.tmp 26) rfl g ((1 + n - 1) * 64) rfl (t.map Bv) _ hrg 64 (by simp [htl]) Try.underlying34 rfl size34 ?_) | (refine wpl_store rfl 34 (.tmp 4) (.tmp 27) rfl w.heap.size (t.map Bv) rfl rfl 34 _ hr 64 size34 (by simp [htl]) length_zeros64 (oneB' _) ?_))
    refine bodyPost_ret (results_cell_row2 rfl _ _ w.heap.size 34 _ (0, 0) _ rfl (hr.setRow _).eq Try.underlying34 rfl (by simp [htl, size34])) rfl ⟨rfl, ?_⟩
    exact below_setRow ((Below.refl _ _).alloc (Nat.le_refl _) _) (Nat.le_refl _) _


set_option maxRecDepth 100000 in
set_option maxHeartbeats 400000 in
theorem act_any {w : World} {p : Nat} {role : Nat → Option Own} {M : Nat} {wayV actsV : Value} {f : Int → Option Value} {size : Nat} {base : Nat → Sec} {rest : Nat → List Sec} {tick : List (Nat × Nat)} {fuse : Option Nat} {dead : Bool}
    (h : RepX w p role M wayV actsV f size base rest tick fuse dead) :
    Calls Try.prog 69 #[.pointer (some ⟨p, 0, none⟩)] w fun e w' => e = .returned (.bool (!(actD fuse dead))) ∧ RepX w' p role M wayV actsV f size base rest tick (actF fuse dead) (actD fuse dead) ∧ Moves w role w' role ∧ w'.heap.size = w.heap.size := by
  have h3 : w.cell? ⟨p, 3, none⟩ = some actsV := by rw [h.row.cell]; rfl
  have h4 : w.cell? ⟨p, 4, none⟩ = some (.bool dead) := by rw [h.row.cell]; rfl
  have f4 : w.frozen? ⟨p, 4, none⟩ = false := h.row.thaw 4
  have hfu := h.fuse
  cases fuse with
  | none =>
    obtain rfl := hfu
    have H := Lib.hid h; clear h
    cases dead <;>
    · go_enter Try.func69, Try.ntmps69
      go_wp2
      go_ret
      exact ⟨rfl, H.out, Moves.refl _ _, rfl⟩
  | some n =>
    obtain ⟨hle, g, rfl, hr, t, hrow⟩ := hfu
    have h0 : w.cell? ⟨g, 0, none⟩ = some (.int .i64 n) := by rw [hrow.cell]; rfl
    have f0 : w.frozen? ⟨g, 0, none⟩ = false := hrow.thaw 0
    have hgp : g ≠ p := by rintro rfl; have := h.rp; rw [hr] at this; cases this
    have hgp' : p ≠ g := fun e => hgp e.symm
    have H := Lib.hid h
    have HR := Lib.hid hr
    clear h hr hrow
    cases dead with
    | true =>
      by_cases hn : n = 0
      · subst hn
        go_enter Try.func69, Try.ntmps69
        go_wp2
        go_ret
        exact ⟨rfl, by have := H.out.setDead true; exact this, Moves.setCell _ _ (by simp [H.out.rp]), by simp [World.setCell]⟩
      · have hn' : ((n : Int) == 0) = false := by simp; omega
        go_enter Try.func69, Try.ntmps69
        go_wp2
        go_ret
        exact ⟨rfl, H.out, Moves.refl _ _, rfl⟩
    | false =>
      by_cases hn : n = 0
      · subst hn
        go_enter Try.func69, Try.ntmps69
        go_wp2
        go_ret
        exact ⟨rfl, H.out.setDead true, Moves.setCell _ _ (by simp [H.out.rp]), by simp [World.setCell]⟩
      · have hn' : ((n : Int) == 0) = false := by simp; omega
        go_enter Try.func69, Try.ntmps69
        go_wp2
        go_ret
        have e1 : actD (some n) false = false := by simp [actD, hn]
        have e2 : actF (some n) false = some (n - 1) := by simp [actF, e1]
        have e3 : ((n : Int) - 1) = ((n - 1 : Nat) : Int) := by omega
        rw [e1, e2, e3]
        exact ⟨rfl, H.out.setFuse (n - 1) (by omega), Moves.setCell _ _ (by simp [HR.out]), by simp [World.setCell]⟩

end Go.Proofs.Ytpddbffamejgeaa
