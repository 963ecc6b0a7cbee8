/- Pure laws for a log that is cut off. -/
import Derived.Test.YtpddbffamejgeaaAw
namespace Go.Proofs.Ytpddbffamejgeaa

theorem recs_chain1 {d : DS} {e : Nat} (he : e ≤ d.size) : ∀ (L : List (List UInt8)) (a last f : Nat), Chain d a (last + 1) L → (∀ x ∈ L, x.length ≤ 4096) → last + 1 + L.length ≤ 18446744073709551616 → endOf a L ≤ e → e < a + f →
    ((d.read (endOf a L) e).err = 0 → (unsealN (d.read (endOf a L) e).b).isSome = true → (d.read (endOf a L) e).n ≤ last + L.length) → recsFrom d e f a last = (L, endOf a L)
  | [], a, last, f, _, _, _, hae, hf, hstop => by
    simp only [endOf] at hae hstop ⊢
    obtain ⟨f, rfl⟩ : ∃ g, f = g + 1 := ⟨f - 1, by omega⟩
    simp only [recsFrom]
    rw [if_neg]
    rintro ⟨h1, h2, h3⟩
    have := hstop h1 h2
    simp only [List.length_nil] at this
    omega
  | x :: xs, a, last, f, hc, hl, h64, hae, hf, hstop => by
    have hx4 := hl x (by simp)
    have hx := needN_sealed hx4
    have hs0 : spanN (sealedN x).length ≠ 0 := by have := spanN_pos (n := (sealedN x).length) (by rw [length_sealedN]; omega); omega
    have hle := le_endOf xs (a + needN x.length)
    simp only [endOf] at hae hstop ⊢
    simp only [List.length_cons] at h64
    have hr := read_stands hc.1 hs0 (by omega) (by omega) (e := (e : Int)) (by omega) (by omega)
    obtain ⟨f, rfl⟩ : ∃ g, f = g + 1 := ⟨f - 1, by omega⟩
    simp only [recsFrom]
    rw [hr]
    simp only [unseal_sealed]
    rw [if_pos (by exact ⟨trivial, rfl, by omega⟩), ← hx]
    have ih := recs_chain1 he xs (a + needN x.length) (last + 1) f hc.2 (fun y hy => hl y (by simp [hy])) (by omega) hae (by omega) (fun h1 h2 => by have := hstop h1 h2; simp only [List.length_cons] at this; omega)
    rw [ih]
    rfl

/-- Records from A on with stamps from floor + 1 on; behind them all is lower. -/
structure KeepP (A S floor : Nat) (d : DS) (a : Nat) (T : List (List UInt8)) : Prop where
  dead : d.dead = false
  whole : Whole d
  size : d.size = S
  queue : d.queue = []
  at_ : a = endOf A T
  fits : a ≤ S
  chain : Chain d A (floor + 1) T
  small : ∀ x ∈ T, x.length ≤ 4096
  low : ∀ k, a ≤ k → k < S → numS (d.get k) ≤ floor
  bound : floor + T.length < 9223372036854775808
theorem KeepP.recs_of {A S floor : Nat} {d d' : DS} {a : Nat} {T : List (List UInt8)} (h : KeepP A S floor d a T) (hs : d'.size = S) (hg : ∀ k, d'.get k = d.get k) : d'.recs A S floor = (T, a) := by
  have hb := h.bound
  have hA : A ≤ a := by rw [h.at_]; exact le_endOf T A
  have hc : Chain d' A (floor + 1) T := h.chain.congr h.small fun k _ _ => hg k
  have := recs_chain1 (d := d') (e := S) (by omega) T A floor (S + 1 - A) hc h.small (by omega) (by rw [← h.at_]; exact h.fits) (by have := h.fits; omega) (fun e0 _ => by
    rw [← h.at_] at e0 ⊢
    have hr : d'.read a S = ⟨(d'.read a S).b, (d'.read a S).n, (d'.read a S).many, 0⟩ := by rw [← e0]
    obtain ⟨_, m0, _, _, _, hfit, _, hn⟩ := stands_of_read hr
    rw [← hn, hg]
    have := h.low a (Nat.le_refl _) (by omega)
    omega)
  rw [← h.at_] at this
  exact this
/-- A record that was cut off: some of its sectors are on their way. -/
structure TornP (A S floor : Nat) (d : DS) (a : Nat) (T : List (List UInt8)) (x : List UInt8) : Prop where
  dead : d.dead = true
  size : d.size = S
  small : x.length ≤ 4096
  fits : needN x.length ≤ S - a
  was : ∃ d0 j, KeepP A S floor d0 a T ∧ j ≤ spanN (sealedN x).length ∧ d.queue = d0.queue ++ newQ a (spanN (sealedN x).length) (floor + 1 + T.length) (sealedN x) 0 j ∧ d.base = d0.base
theorem keeps_step {A S floor : Nat} {d : DS} {a : Nat} {T : List (List UInt8)} (h : KeepP A S floor d a T) (x : List UInt8) (hx : x.length ≤ 4096) (hT : floor + T.length + 1 < 9223372036854775808) :
    (S - a < needN x.length ∧ appendD d ⟨a, S, floor + 1 + T.length⟩ x = (d, ⟨a, S, floor + 1 + T.length⟩, 102)) ∨
    (∃ d', appendD d ⟨a, S, floor + 1 + T.length⟩ x = (d', ⟨a + needN x.length, S, floor + 1 + (T.length + 1)⟩, 0) ∧ KeepP A S floor d' (a + needN x.length) (T ++ [x])) ∨
    (∃ d', appendD d ⟨a, S, floor + 1 + T.length⟩ x = (d', ⟨a, S, floor + 1 + T.length⟩, 82) ∧ TornP A S floor d' a T x) := by
  have hxn := needN_sealed hx
  have hs0 : spanN (sealedN x).length ≠ 0 := by have := spanN_pos (n := (sealedN x).length) (by rw [length_sealedN]; omega); omega
  have hsz := h.size
  have hfa := h.fits
  unfold appendD
  simp only
  rw [if_neg (by omega)]
  by_cases hfit : needN x.length > S - a
  · left; exact ⟨hfit, by rw [if_pos hfit]⟩
  right
  rw [if_neg hfit]
  obtain ⟨y, hy⟩ : ∃ y, y = d.write a (floor + 1 + T.length) (sealedN x) := ⟨_, rfl⟩
  have hw1 := whole_write h.whole a (floor + 1 + T.length) (sealedN x)
  rw [← hy] at hw1 ⊢
  have hw : y = d.puts a (spanN (sealedN x).length) (floor + 1 + T.length) (sealedN x) 0 (spanN (sealedN x).length) := by
    rw [hy]
    unfold DS.write
    rw [if_neg (by omega), if_neg (by omega)]
    rfl
  obtain ⟨j, hj, q1, b1, s1, hres⟩ := puts_fuse a (spanN (sealedN x).length) (floor + 1 + T.length) (sealedN x) (spanN (sealedN x).length) 0 d h.dead
  rw [← hw] at q1 b1 s1 hres
  rcases hres with ⟨r0, hjt, dd⟩ | ⟨r82, dd⟩
  · rw [if_neg (by omega)]
    rcases flush_fuse hw1 dd with ⟨f0, fd, fs, fq, fw, fg⟩ | ⟨f82, fd, fs, fq, fb⟩
    · left
      refine ⟨y.1.flush.1, by rw [if_neg (by omega)]; congr 2; simp only [LogV.mk.injEq, true_and]; omega, ?_⟩
      have hget : ∀ k, y.1.flush.1.get k = if a ≤ k ∧ k < a + needN x.length then secOf (spanN (sealedN x).length) (floor + 1 + T.length) (sealedN x) (k - a) else d.get k := fun k => by
        rw [fg, get_newQ h.queue q1 b1 k, hjt, hxn]
      refine ⟨fd, fw, by rw [fs, s1]; exact h.size, fq, by rw [endOf_snoc, ← h.at_], by omega, ?_, ?_, ?_, by simp; omega⟩
      · refine Chain.snoc (h.chain.congr h.small fun k _ hk => by rw [hget, if_neg (by rw [← h.at_] at hk; omega)]) ?_
        rw [← h.at_]
        intro k hk
        rw [hget, if_pos (by omega), show a + k - a = k by omega]
      · intro z hz
        rcases List.mem_append.1 hz with hz | hz
        · exact h.small z hz
        · simp at hz; subst hz; exact hx
      · intro k hk1 hk2
        rw [hget, if_neg (by omega)]
        exact h.low k (by omega) hk2
    · right
      refine ⟨y.1.flush.1, by rw [if_pos (by omega), f82], ⟨fd, by rw [fs, s1]; exact h.size, hx, by omega, d, j, h, hj, by rw [fq, q1], by rw [fb, b1]⟩⟩
  · right
    rw [if_pos (by omega)]
    exact ⟨y.1, by rw [r82], ⟨dd, by rw [s1]; exact h.size, hx, by omega, d, j, h, hj, q1, b1⟩⟩
theorem torn_recs {A S floor : Nat} {d : DS} {a : Nat} {T : List (List UInt8)} {x : List UInt8} (h : TornP A S floor d a T x) (keep : List Int) (hT : floor + T.length + 1 < 9223372036854775808) :
    (d.power keep).recs A S floor = (T, a) ∨ ((d.power keep).recs A S floor = (T ++ [x], a + needN x.length) ∧ ∀ k, a + needN x.length ≤ k → k < S → numS ((d.power keep).get k) ≤ floor) := by
  obtain ⟨d0, j, h0, hj, hq, hb⟩ := h.was
  have hxn := needN_sealed h.small
  have hfit := h.fits
  have hfa := h0.fits
  have hA : A ≤ a := by rw [h0.at_]; exact le_endOf T A
  have hget := power_newQ h0.queue hq hb keep
  have hsz : (d.power keep).size = S := h.size
  obtain ⟨d2, hd2⟩ : ∃ d2, d2 = d.power keep := ⟨_, rfl⟩
  rw [← hd2] at hget hsz ⊢
  have hc : Chain d2 A (floor + 1) T := h0.chain.congr h0.small fun k _ hk => by rw [hget, if_neg (by rw [← h0.at_] at hk; omega)]
  by_cases hgood : (d2.read a S).err = 0 ∧ (unsealN (d2.read a S).b).isSome = true ∧ floor + T.length < (d2.read a S).n
  · right
    obtain ⟨e0, e1, e2⟩ := hgood
    have hr : d2.read a S = ⟨(d2.read a S).b, (d2.read a S).n, (d2.read a S).many, 0⟩ := by rw [← e0]
    obtain ⟨_, _, _, hst⟩ := torn_read (keptOf keep) (fun k => h0.whole.get k) (fun k h1 h2 => by have := h0.low k h1 h2; omega) (by omega) hj hget hr (by omega)
    have hlow : ∀ k, a + needN x.length ≤ k → k < S → numS (d2.get k) ≤ floor := fun k h1 h2 => by
      rw [hget, if_neg (by omega)]
      exact h0.low k (by omega) h2
    refine ⟨?_, hlow⟩
    have hend : endOf A (T ++ [x]) = a + needN x.length := by rw [endOf_snoc, ← h0.at_]
    have := recs_chain1 (d := d2) (e := S) (by omega) (T ++ [x]) A floor (S + 1 - A) (Chain.snoc hc (by rw [← h0.at_]; exact hst)) (fun z hz => by
        rcases List.mem_append.1 hz with hz | hz
        · exact h0.small z hz
        · simp at hz; subst hz; exact h.small) (by simp; omega) (by rw [hend]; omega) (by omega) (fun e0 _ => by
      rw [hend] at e0 ⊢
      have hr : d2.read ((a + needN x.length : Nat) : Int) S = ⟨(d2.read ((a + needN x.length : Nat) : Int) S).b, (d2.read ((a + needN x.length : Nat) : Int) S).n, (d2.read ((a + needN x.length : Nat) : Int) S).many, 0⟩ := by rw [← e0]
      obtain ⟨_, m0, _, _, _, hfit, _, hn⟩ := stands_of_read hr
      rw [← hn]
      have := hlow (a + needN x.length) (Nat.le_refl _) (by omega)
      omega)
    rw [hend] at this
    exact this
  · left
    have := recs_chain1 (d := d2) (e := S) (by omega) T A floor (S + 1 - A) hc h0.small (by omega) (by rw [← h0.at_]; exact hfa) (by omega) (fun e0 e1 => by
      rw [← h0.at_] at e0 e1 ⊢
      rcases Nat.lt_or_ge (floor + T.length) (d2.read a S).n with h1 | h1
      · exact absurd ⟨e0, e1, h1⟩ hgood
      · exact h1)
    rw [← h0.at_] at this
    exact this

end Go.Proofs.Ytpddbffamejgeaa
