/- Pure laws for StampBack. -/
import Derived.Test.YtpddbffamejgeaaZ
namespace Go.Proofs.Ytpddbffamejgeaa

theorem read_short {d : DS} {n : Nat} {b : List UInt8} (h : Stands d 1 n b) (hs : spanN b.length ≠ 0) (hsz : d.size = spanN b.length + 2) :
    d.read 1 (spanN b.length : Nat) = ⟨[], 0, 0, 91⟩ := by
  have ht := spanN_le b.length
  have h0 := h 0 (by omega)
  simp only [Nat.add_zero] at h0
  have htot : ((d.get 1).getD 1 0).toNat = spanN b.length := by rw [h0]; exact tot_mk _ _ _ _ (by omega)
  unfold DS.read
  rw [if_neg (by omega)]
  by_cases h1 : (1 : Int) ≥ (spanN b.length : Nat)
  · rw [if_pos h1]
  · rw [if_neg h1]
    simp only [show ((1 : Int).toNat) = 1 from rfl, htot]
    rw [if_pos (by omega)]
theorem mk_idx_ne {i j t s : Nat} {p q : List UInt8} (hi : i < 256) (hj : j < 256) (h : i ≠ j) : mk i t s p ≠ mk j t s q := by
  intro e
  have h1 := idx_mk i t s p hi
  rw [e, idx_mk j t s q hj] at h1
  exact h h1.symm
theorem read_shifted {d : DS} {n : Nat} {b : List UInt8} (h : Stands d 1 n b) (hs : spanN b.length ≠ 0) (hsz : d.size = spanN b.length + 2) (hz : d.get (1 + spanN b.length) = zeros) :
    d.read 2 ((spanN b.length : Nat) + 2) = ⟨[], 0, 0, 91⟩ := by
  have ht := spanN_le b.length
  unfold DS.read
  rw [if_neg (by omega), if_neg (by omega)]
  simp only [show ((2 : Int).toNat) = 2 from rfl]
  by_cases h1 : spanN b.length = 1
  · have h2 : numS (d.get 2) = 0 := by rw [h1] at hz; rw [hz]; exact numS_zeros
    rw [if_pos (.inl h2)]
  · have h2 := h 1 (by omega)
    have hg : d.get 2 = secOf (spanN b.length) n b 1 := h2
    by_cases h3 : numS (d.get 2) = 0 ∨ ((d.get 2).getD 1 0).toNat = 0 ∨ ((((d.get 2).getD 1 0).toNat : Nat) : Int) > ((spanN b.length : Nat) : Int) + 2 - 2
    · rw [if_pos h3]
    · rw [if_neg h3, if_neg]
      intro hall
      rw [List.all_eq_true] at hall
      have := hall 0 (List.mem_range.2 (by omega))
      unfold okS at this
      simp only [Nat.add_zero, Bool.and_eq_true, beq_iff_eq] at this
      have h5 := congrArg (fun s : Sec => (s.getD 0 0).toNat) this.2
      simp only [idx_mk _ _ _ _ (show (0 : Nat) < 256 by omega)] at h5
      rw [hg] at h5
      unfold secOf at h5
      rw [idx_mk _ _ _ _ (by omega)] at h5
      omega
/-- One byte turned: it isn't what it was. -/
theorem read_turned {d : DS} {n : Nat} {b : List UInt8} (h : Stands d 1 n b) {k : Nat} (hk1 : 1 ≤ k) (hk2 : k ≤ spanN b.length) {s' : Sec} (hs' : s' ≠ d.get k) (hp : (d.put k s').2 = 0) {e : Int} {many : Nat} :
    (d.put k s').1.read 1 e ≠ ⟨b, n, many, 0⟩ := by
  intro hr
  obtain ⟨_, _, _, _, hst, _⟩ := stands_of_read (a := 1) hr
  have h1 := hst (k - 1) (by omega)
  have h2 := h (k - 1) (by omega)
  rw [show 1 + (k - 1) = k by omega] at h1 h2
  rw [get_put d k s' hp k, if_pos rfl, ← h2] at h1
  exact hs' h1

end Go.Proofs.Ytpddbffamejgeaa
