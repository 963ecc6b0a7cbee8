/- The journal's laws over values. -/
import Derived.Test.YtpddbffamejgeaaBk
import Derived.Test.YtpddbffamejgeaaBe
namespace Go.Proofs.Ytpddbffamejgeaa

theorem chain_stamps {d : DS} : ∀ {L : List (List UInt8)} {a n : Nat}, Chain d a n L → (∀ x ∈ L, x.length ≤ 4096) → n + L.length ≤ 18446744073709551616 → ∀ k, a ≤ k → k < endOf a L → numS (d.get k) < n + L.length
  | [], a, n, _, _, _, k, h1, h2 => by simp only [endOf] at h2; omega
  | x :: xs, a, n, h, hl, hb, k, h1, h2 => by
    have hx := needN_sealed (hl x (by simp))
    simp only [endOf] at h2
    simp only [List.length_cons] at hb ⊢
    by_cases hk : k < a + needN x.length
    · have := h.1 (k - a) (by omega)
      rw [show a + (k - a) = k by omega] at this
      rw [this, numS_secOf _ _ (by omega)]
      omega
    · have := chain_stamps h.2 (fun y hy => hl y (by simp [hy])) (by omega) k (by omega) h2
      omega
theorem chain_last {d : DS} : ∀ {L : List (List UInt8)} {a n : Nat}, Chain d a n L → (∀ x ∈ L, x.length ≤ 4096) → n + L.length ≤ 18446744073709551616 → L ≠ [] → ∃ k, a ≤ k ∧ k < endOf a L ∧ numS (d.get k) + 1 = n + L.length
  | [], _, _, _, _, _, h => absurd rfl h
  | [x], a, n, h, hl, hb, _ => by
    have hx4 := hl x (by simp)
    have hx := needN_sealed hx4
    have hs0 := spanN_pos (n := (sealedN x).length) (by rw [length_sealedN]; omega)
    have := h.1 0 (by omega)
    simp only [List.length_cons, List.length_nil] at hb ⊢
    refine ⟨a, Nat.le_refl _, by simp only [endOf]; omega, ?_⟩
    simp only [Nat.add_zero] at this
    rw [this, numS_secOf _ _ (by omega)]
  | x :: y :: ys, a, n, h, hl, hb, _ => by
    simp only [List.length_cons] at hb
    obtain ⟨k, h1, h2, h3⟩ := chain_last (L := y :: ys) h.2 (fun z hz => hl z (by simp at hz ⊢; right; exact hz)) (by simp only [List.length_cons]; omega) (by simp)
    refine ⟨k, by omega, h2, ?_⟩
    simp only [List.length_cons] at h3 ⊢
    omega
theorem KeepP.stamps {A S fl : Nat} {d : DS} {a : Nat} {T : List (List UInt8)} (h : KeepP A S fl d a T) : ∀ k, A ≤ k → k < S → numS (d.get k) ≤ fl + T.length := fun k h1 h2 => by
  have hb := h.bound
  by_cases hk : k < a
  · have := chain_stamps h.chain h.small (by omega) k h1 (by rw [← h.at_]; exact hk)
    omega
  · have := h.low k (by omega) h2
    omega
theorem KeepP.logV_of {A S fl : Nat} {d d' : DS} {a : Nat} {T : List (List UInt8)} (h : KeepP A S fl d a T) (hs : d'.size = S) (hg : ∀ k, d'.get k = d.get k) : d'.logV A S fl = ⟨a, S, fl + 1 + T.length⟩ := by
  have hb := h.bound
  have hr := h.recs_of hs hg
  have htop : d'.top A S ≤ fl + T.length := top_le fun j h1 h2 => by rw [hg]; exact h.stamps j h1 h2
  have hmax : max fl (d'.top A S) = fl + T.length := by
    by_cases hT : T = []
    · subst hT; simp at htop ⊢; omega
    · obtain ⟨k, h1, h2, h3⟩ := chain_last h.chain h.small (by omega) hT
      have := le_top (d := d') (i := A) (e := S) (k := k) h1 (by have := h.fits; have := h.at_; omega)
      rw [hg] at this
      omega
  unfold DS.logV DS.logStamp
  rw [hr, hmax]
  simp only [LogV.mk.injEq, true_and]
  omega
/-- Behind it all is as low as its greatest stamp: nothing counts any more. -/
theorem KeepP.over {A S fl : Nat} {d d' : DS} {a : Nat} {T : List (List UInt8)} (h : KeepP A S fl d a T) (hs : d'.size = S) (hd : d'.dead = false) (hw : Whole d') (hq : d'.queue = []) (hg : ∀ k, A ≤ k → d'.get k = d.get k) : KeepP A S (fl + T.length) d' A [] where
  dead := hd
  whole := hw
  size := hs
  queue := hq
  at_ := rfl
  fits := by have := h.fits; have := h.at_; have := le_endOf T A; omega
  chain := trivial
  small := by simp
  low := fun k h1 h2 => by rw [hg k h1]; exact h.stamps k h1 h2
  bound := by have := h.bound; simpa using this

/-- A journal on a disk: a state with its floor, and the records since. -/
structure JP (sz S fl g : Nat) (st : List UInt8) (d : DS) (a : Nat) (T : List (List UInt8)) : Prop where
  slot : SlotW d 0 sz g g (numN fl ++ st)
  log : KeepP (2 * sz) S fl d a T
  g0 : g ≠ 0
theorem SlotW.congr {d d' : DS} {f s M g : Nat} {b : List UInt8} (h : SlotW d f s M g b) (hs : d'.size = d.size) (hg : ∀ k, f ≤ k → k < f + 2 * s → d'.get k = d.get k) (hr : d'.slot f s = (b, g)) : SlotW d' f s M g b :=
  ⟨h.s1, h.s2, by rw [hs]; exact h.size, fun k h1 h2 => by rw [hg k h1 h2]; exact h.low k h1 h2, h.le, h.small, h.nil, fun h0 => ⟨fun k hk => by
    have hp := place_le f s g
    have h3 := (h.stands h0).2.1
    rw [hg _ (by omega) (by omega)]; exact (h.stands h0).1 k hk, (h.stands h0).2⟩, hr⟩
theorem SlotW.same {d d' : DS} {f s g : Nat} {b : List UInt8} (h : SlotW d f s g g b) (h0 : g ≠ 0) (hs : d'.size = d.size) (hg : ∀ k, f ≤ k → k < f + 2 * s → d'.get k = d.get k) : SlotW d' f s g g b := by
  have hp := place_le f s g
  obtain ⟨s1, s2, s3⟩ := h.stands h0
  refine h.congr hs hg ?_
  have hst : Stands d' (f + s * (g % 2)) g (sealedN b) := fun k hk => by rw [hg _ (by omega) (by omega)]; exact s1 k hk
  refine slot_of (slotAt_stands (by rw [hs]; exact h.size) hst s2 s3 h0 (by have := h.small; omega)) h0 ?_
  have hle := slotAt_le (d := d') (f := f) (s := s) (M := g) (k := (g + 1) % 2) (fun j h1 h2 => by rw [hg j h1 h2]; exact h.low j h1 h2) (by omega) h.s1
  rcases slotAt_par d' f s ((g + 1) % 2) with h1 | h1 <;> omega
/-- A record more, on a journal that lives. -/
theorem JP.append {sz S fl g : Nat} {st : List UInt8} {d : DS} {a : Nat} {T : List (List UInt8)} (h : JP sz S fl g st d a T) (hf : d.fuse = none) (x : List UInt8) (hx : x.length ≤ 4096) (hT : fl + T.length + 1 < 9223372036854775808) :
    (S - a < needN x.length ∧ appendD d ⟨a, S, fl + 1 + T.length⟩ x = (d, ⟨a, S, fl + 1 + T.length⟩, 102)) ∨
    (∃ d', appendD d ⟨a, S, fl + 1 + T.length⟩ x = (d', ⟨a + needN x.length, S, fl + 1 + (T.length + 1)⟩, 0) ∧ d'.fuse = none ∧ JP sz S fl g st d' (a + needN x.length) (T ++ [x])) := by
  have hl := h.log
  have hfa := hl.fits
  have hA : 2 * sz ≤ a := by rw [hl.at_]; exact le_endOf T _
  by_cases hfit : needN x.length ≤ S - a
  · right
    obtain ⟨d', e, f, g', s, q, w, stn, o⟩ := append_live (a := a) (z := S) (st := fl + 1 + T.length) hl.whole hf hl.dead hx hfit (by rw [hl.size]; exact Nat.le_refl _) hfa (by omega)
    refine ⟨d', ?_, f, h.slot.same h.g0 s fun k h1 h2 => o k (by omega), ⟨g', w, by rw [s]; exact hl.size, q, by rw [endOf_snoc, ← hl.at_], by omega, ?_, ?_, ?_, by simp; omega⟩, h.g0⟩
    · rw [e]; simp only [Prod.mk.injEq, LogV.mk.injEq, true_and, and_true]; omega
    · refine Chain.snoc (hl.chain.congr hl.small fun k _ hk => o k (by left; rw [hl.at_]; exact hk)) ?_
      rw [← hl.at_]; exact stn
    · intro y hy
      rcases List.mem_append.1 hy with hy | hy
      · exact hl.small y hy
      · simp at hy; subst hy; exact hx
    · intro k h1 h2
      rw [o k (by omega)]
      exact hl.low k (by omega) h2
  · left
    refine ⟨by omega, ?_⟩
    have hn0 : needN x.length ≠ 0 := by rw [needN_sealed hx]; have := spanN_pos (n := (sealedN x).length) (by rw [length_sealedN]; omega); omega
    unfold appendD
    rw [if_neg hn0, if_pos (by show _ > S - a; omega)]
/-- Another state, on a journal that lives. -/
theorem JP.compact {sz S fl g : Nat} {st : List UInt8} {d : DS} {a : Nat} {T : List (List UInt8)} (h : JP sz S fl g st d a T) (hf : d.fuse = none) (ready : Bool) (x : List UInt8) (hx : x.length ≤ 12288) (hfit : spanN (sealedN (numN (fl + T.length) ++ x)).length ≠ 0 ∧ spanN (sealedN (numN (fl + T.length) ++ x)).length ≤ sz)
    (hb : fl + T.length ≤ 1152921504606846976) (hg : g + 2 < 9223372036854775808) :
    ∃ d', compactD d sz ready ⟨a, S, fl + 1 + T.length⟩ x = (d', true, ⟨2 * sz, S, fl + T.length + 1⟩, 0) ∧ d'.fuse = none ∧ JP sz S (fl + T.length) (g + 1) x d' (2 * sz) [] := by
  have hl := h.log
  obtain ⟨d', e, f, dd, s, q, w, sw, o⟩ := h.slot.write hl.whole hf hl.dead (numN (fl + T.length) ++ x) hfit.1 hfit.2 (by omega)
  have hn := h.slot.next.2.2.2 rfl
  rw [hn] at e sw
  have hk : KeepP (2 * sz) S (fl + T.length) d' (2 * sz) [] := hl.over (by rw [s]; exact hl.size) dd w q fun k hk => o k (by omega)
  refine ⟨d', ?_, f, ⟨sw, hk, by omega⟩⟩
  have hlv := hk.logV_of (d' := d') (by rw [s]; exact hl.size) fun _ => rfl
  unfold compactD
  simp only
  rw [show fl + 1 + T.length - 1 = fl + T.length by omega, if_neg (by omega), e]
  simp only [ne_eq, not_true_eq_false, if_false]
  rw [s, hl.size, hlv]
  simp
theorem JP.open_ {sz S fl g : Nat} {st : List UInt8} {d : DS} {a : Nat} {T : List (List UInt8)} (h : JP sz S fl g st d a T) : d.slot 0 sz = (numN fl ++ st, g) ∧ d.recs (2 * sz) S fl = (T, a) ∧ d.logV (2 * sz) S fl = ⟨a, S, fl + 1 + T.length⟩ :=
  ⟨h.slot.read, h.log.recs_of h.log.size fun _ => rfl, h.log.logV_of h.log.size fun _ => rfl⟩
/-- A new journal. -/
theorem jp_format (sz S : Nat) (h1 : 1 ≤ sz) (h2 : sz ≤ 255) (h3 : 2 * sz < S) (x : List UInt8) (hx : x.length ≤ 12288) (hfit : spanN (sealedN (numN 0 ++ x)).length ≠ 0 ∧ spanN (sealedN (numN 0 ++ x)).length ≤ sz) :
    (DS.blank S).logV (2 * sz) S 0 = ⟨2 * sz, S, 1⟩ ∧ ∃ d', compactD (DS.blank S) sz false ⟨2 * sz, S, 1⟩ x = (d', true, ⟨2 * sz, S, 1⟩, 0) ∧ d'.fuse = none ∧ JP sz S 0 1 x d' (2 * sz) [] := by
  have hb := slot_blank S 0 sz h1 h2 (by omega)
  have hk0 : KeepP (2 * sz) S 0 (DS.blank S) (2 * sz) [] := ⟨rfl, whole_blank S, rfl, rfl, rfl, by omega, trivial, by simp, fun k _ _ => by rw [get_blank, numS_zeros]; exact Nat.le_refl _, by simp⟩
  have hl0 := hk0.logV_of (d' := DS.blank S) rfl fun _ => rfl
  obtain ⟨d', e, f, dd, s, q, w, sw, o⟩ := hb.write (whole_blank S) rfl rfl (numN 0 ++ x) hfit.1 hfit.2 (by omega)
  have hn := hb.next.2.2.2 rfl
  rw [hn] at e sw
  have hk : KeepP (2 * sz) S 0 d' (2 * sz) [] := by
    have := hk0.over (d' := d') s dd w q fun k hk => o k (by omega)
    simpa using this
  refine ⟨by simpa using hl0, d', ?_, f, ⟨sw, hk, by omega⟩⟩
  have hlv := hk.logV_of (d' := d') s fun _ => rfl
  have hs : d'.size = S := s
  unfold compactD
  simp only
  rw [show 1 - 1 = 0 from rfl, if_neg (by omega), e]
  simp only [ne_eq, not_true_eq_false, if_false]
  rw [hs, hlv]
  simp

end Go.Proofs.Ytpddbffamejgeaa
