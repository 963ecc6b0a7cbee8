/- The slot's laws over values. -/
import Derived.Test.YtpddbffamejgeaaBd
import Derived.Test.YtpddbffamejgeaaAz
namespace Go.Proofs.Ytpddbffamejgeaa

/-- A content stands in its place; all that is there bears no greater stamp than M. -/
structure SlotW (d : DS) (f s M g : Nat) (b : List UInt8) : Prop where
  s1 : 1 ≤ s
  s2 : s ≤ 255
  size : f + 2 * s ≤ d.size
  low : ∀ k, f ≤ k → k < f + 2 * s → numS (d.get k) ≤ M
  le : g ≤ M
  small : M < 9223372036854775808
  nil : g = 0 → b = []
  stands : g ≠ 0 → Stands d (f + s * (g % 2)) g (sealedN b) ∧ spanN (sealedN b).length ≤ s ∧ spanN (sealedN b).length ≠ 0
  read : d.slot f s = (b, g)
theorem place_le (f s g : Nat) : f ≤ f + s * (g % 2) ∧ f + s * (g % 2) + s ≤ f + 2 * s := by
  rcases (show g % 2 = 0 ∨ g % 2 = 1 by omega) with e | e <;> rw [e] <;> omega
theorem slotAt_le {d : DS} {f s k M : Nat} (h : ∀ j, f ≤ j → j < f + 2 * s → numS (d.get j) ≤ M) (hk : k < 2) (hs : 1 ≤ s) : (slotAt d f s k).2 ≤ M := by
  unfold slotAt
  split
  · rename_i hc
    have hr : d.read ((f + s * k : Nat) : Int) ((f + s * k + s : Nat) : Int) = ⟨(d.read (f + s * k : Nat) (f + s * k + s : Nat)).b, (d.read (f + s * k : Nat) (f + s * k + s : Nat)).n, (d.read (f + s * k : Nat) (f + s * k + s : Nat)).many, 0⟩ := by rw [← hc.1]
    obtain ⟨_, _, _, _, _, _, _, hn⟩ := stands_of_read hr
    show (d.read (f + s * k : Nat) (f + s * k + s : Nat)).n ≤ M
    rw [← hn]
    have : s * k ≤ s := by rcases (show k = 0 ∨ k = 1 by omega) with e | e <;> subst e <;> omega
    exact h _ (by omega) (by omega)
  · exact Nat.zero_le _
theorem slotAt_par (d : DS) (f s k : Nat) : (slotAt d f s k).2 = 0 ∨ (slotAt d f s k).2 % 2 = k := by
  unfold slotAt
  split
  · rename_i hc; exact Or.inr hc.2.2
  · exact Or.inl rfl
theorem slotAt_stands {d : DS} {f s g : Nat} {b : List UInt8} (hs : f + 2 * s ≤ d.size) (h : Stands d (f + s * (g % 2)) g (sealedN b)) (h1 : spanN (sealedN b).length ≤ s) (h2 : spanN (sealedN b).length ≠ 0) (hg : g ≠ 0) (hg2 : g < 18446744073709551616) : slotAt d f s (g % 2) = (b, g) := by
  have hp := place_le f s g
  have hr := read_stands h h2 hg hg2 (e := ((f + s * (g % 2) + s : Nat) : Int)) (by omega) (by omega)
  unfold slotAt
  rw [hr, unseal_sealed]
  simp
/-- The greater one is read. -/
theorem slot_two (d : DS) (f s : Nat) : d.slot f s = if (slotAt d f s 0).2 < (slotAt d f s 1).2 then slotAt d f s 1 else if 0 < (slotAt d f s 0).2 then slotAt d f s 0 else ([], 0) := by
  unfold DS.slot
  simp only [slotTo]
  by_cases h0 : 0 < (slotAt d f s 0).2
  · simp only [h0, if_true]
  · simp only [h0, if_false]
    have : (slotAt d f s 0).2 = 0 := by omega
    rw [this]
theorem slot_of {d : DS} {f s g : Nat} {b : List UInt8} (h : slotAt d f s (g % 2) = (b, g)) (hg : g ≠ 0) (ho : (slotAt d f s ((g + 1) % 2)).2 < g) : d.slot f s = (b, g) := by
  rw [slot_two]
  rcases (show g % 2 = 0 ∨ g % 2 = 1 by omega) with e | e
  · rw [e] at h
    rw [show (g + 1) % 2 = 1 by omega] at ho
    rw [h, if_neg (by show ¬ g < _; omega), if_pos (by show 0 < g; omega)]
  · rw [e] at h
    rw [show (g + 1) % 2 = 0 by omega] at ho
    rw [h, if_pos (by show _ < g; exact ho)]
theorem SlotW.top {d : DS} {f s M g : Nat} {b : List UInt8} (h : SlotW d f s M g b) : g ≤ d.top f (f + 2 * s) ∧ d.top f (f + 2 * s) ≤ M := by
  refine ⟨?_, top_le fun j h1 h2 => h.low j h1 h2⟩
  by_cases hg : g = 0
  · omega
  obtain ⟨h1, h2, h3⟩ := h.stands hg
  have hp := place_le f s g
  have h0 := h1 0 (by omega)
  have hn : numS (d.get (f + s * (g % 2) + 0)) = g := by rw [h0, numS_secOf _ _ (by have := h.small; have := h.le; omega)]
  have := le_top (d := d) (i := f) (e := f + 2 * s) (k := f + s * (g % 2)) (by omega) (by have := h.s1; omega)
  simp only [Nat.add_zero] at hn
  omega
theorem SlotW.next {d : DS} {f s M g : Nat} {b : List UInt8} (h : SlotW d f s M g b) : d.top f (f + 2 * s) < d.nextGen f s ∧ d.nextGen f s ≤ M + 2 ∧ (g ≠ 0 → d.nextGen f s % 2 ≠ g % 2) ∧ (M = g → d.nextGen f s = g + 1) := by
  obtain ⟨t1, t2⟩ := h.top
  have hs := h.small
  unfold DS.nextGen
  rw [h.read]
  simp only
  obtain ⟨t, ht⟩ : ∃ t, t = d.top f (f + 2 * s) := ⟨_, rfl⟩
  rw [← ht] at t1 t2 ⊢
  rw [Nat.mod_eq_of_lt (show t + 1 < 18446744073709551616 by omega), Nat.mod_eq_of_lt (show t + 1 + 1 < 18446744073709551616 by omega)]
  split
  · rename_i hc; exact ⟨by omega, by omega, fun _ => by omega, fun e => by omega⟩
  · rename_i hc; exact ⟨by omega, by omega, fun h0 => by omega, fun e => by omega⟩
theorem slotWrite_long {d : DS} {f s : Nat} {b : List UInt8} (h : ¬ (spanN (sealedN b).length ≠ 0 ∧ spanN (sealedN b).length ≤ s)) : slotWrite d f s b = (d, 0, 111) := by
  unfold slotWrite
  rw [if_pos (by rw [length_sealedN] at h; omega)]
/-- A content more, on a disk that lives. -/
theorem SlotW.write {d : DS} {f s M g : Nat} {b : List UInt8} (h : SlotW d f s M g b) (hw : Whole d) (hf : d.fuse = none) (hd : d.dead = false) (x : List UInt8) (h0 : spanN (sealedN x).length ≠ 0) (hx : spanN (sealedN x).length ≤ s) (hM : M + 2 < 9223372036854775808) :
    ∃ d', slotWrite d f s x = (d', d.nextGen f s, 0) ∧ d'.fuse = none ∧ d'.dead = false ∧ d'.size = d.size ∧ d'.queue = [] ∧ Whole d' ∧ SlotW d' f s (d.nextGen f s) (d.nextGen f s) x ∧ ∀ k, (k < f ∨ f + 2 * s ≤ k) → d'.get k = d.get k := by
  obtain ⟨n1, n2, n3, _⟩ := h.next
  obtain ⟨n, hn⟩ : ∃ n, n = d.nextGen f s := ⟨_, rfl⟩
  rw [← hn] at n1 n2 n3 ⊢
  have hp := place_le f s n
  have hsz := h.size
  obtain ⟨d1, e1, f1, g1, s1, b1, q1, st1, o1⟩ := write_live d (f + s * (n % 2)) n (sealedN x) hf hd (by omega) h0 (by omega)
  have hw1 := whole_write hw (f + s * (n % 2) : Nat) n (sealedN x)
  rw [e1] at hw1
  obtain ⟨d2, e2, f2, g2, s2, q2, w2, o2⟩ := flush_live hw1 f1 g1
  have hst2 : Stands d2 (f + s * (n % 2)) n (sealedN x) := fun k hk => by rw [o2]; exact st1 k hk
  have hlow2 : ∀ k, f ≤ k → k < f + 2 * s → numS (d2.get k) ≤ n := fun k h1 h2 => by
    rw [o2]
    by_cases hin : f + s * (n % 2) ≤ k ∧ k < f + s * (n % 2) + spanN (sealedN x).length
    · have := st1 (k - (f + s * (n % 2))) (by omega)
      rw [show f + s * (n % 2) + (k - (f + s * (n % 2))) = k by omega] at this
      rw [this, numS_secOf _ _ (by omega)]
      exact Nat.le_refl _
    · rw [o1 k (by omega)]
      have := le_top (d := d) h1 h2
      omega
  refine ⟨d2, ?_, f2, g2, by rw [s2, s1], q2, w2, ⟨h.s1, h.s2, by rw [s2, s1]; exact hsz, hlow2, Nat.le_refl _, by omega, fun e => by omega, fun _ => ⟨hst2, hx, h0⟩, ?_⟩, fun k hk => by rw [o2, o1 k (by omega)]⟩
  · unfold slotWrite
    rw [← hn]
    simp only [e1, e2]
    rw [length_sealedN] at h0 hx
    rw [if_neg (by omega), if_neg (by simp), if_neg (by simp)]
  · refine slot_of (slotAt_stands (by rw [s2, s1]; exact hsz) hst2 hx h0 (by omega) (by omega)) (by omega) ?_
    have hle := slotAt_le hlow2 (k := (n + 1) % 2) (by omega) h.s1
    rcases slotAt_par d2 f s ((n + 1) % 2) with h1 | h1
    · omega
    · omega
theorem slot_blank (n f s : Nat) (h1 : 1 ≤ s) (h2 : s ≤ 255) (h : f + 2 * s ≤ n) : SlotW (DS.blank n) f s 0 0 [] := by
  refine ⟨h1, h2, h, fun k _ _ => by rw [get_blank, numS_zeros]; exact Nat.le_refl _, Nat.le_refl _, by omega, fun _ => rfl, fun h => absurd rfl h, ?_⟩
  have hz : ∀ k, k < 2 → (slotAt (DS.blank n) f s k).2 = 0 := fun k hk => by
    have := slotAt_le (d := DS.blank n) (f := f) (s := s) (k := k) (M := 0) (fun k _ _ => by rw [get_blank, numS_zeros]; exact Nat.le_refl _) hk h1
    omega
  rw [slot_two, hz 0 (by omega), hz 1 (by omega)]
  rfl

end Go.Proofs.Ytpddbffamejgeaa
