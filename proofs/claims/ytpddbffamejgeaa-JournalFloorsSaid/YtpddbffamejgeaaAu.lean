/- Pure laws for LogRoom; the records that a law is given. -/
import Derived.Test.YtpddbffamejgeaaAt
namespace Go.Proofs.Ytpddbffamejgeaa
open Go.ChangeShapes Go.WideShapes Go.ChangeAt Go.RowKit

/-- A log over a whole disk, with some records. -/
structure RoomP (S : Nat) (d : DS) (a : Nat) (T : List (List UInt8)) : Prop where
  fuse : d.fuse = none
  dead : d.dead = false
  whole : Whole d
  size : d.size = S
  queue : d.queue = []
  at_ : a = endOf 0 T
  fits : a ≤ S
  chain : Chain d 0 6 T
  small : ∀ x ∈ T, x.length ≤ 4096
  zero : ∀ k, a ≤ k → d.get k = zeros
  few : T.length ≤ 40
theorem room_blank (S : Nat) : RoomP S (DS.blank S) 0 [] :=
  ⟨rfl, rfl, whole_blank S, rfl, rfl, rfl, Nat.zero_le _, trivial, by simp, fun _ _ => rfl, by simp⟩
theorem room_step {S : Nat} {d : DS} {a : Nat} {T : List (List UInt8)} (h : RoomP S d a T) (x : List UInt8) (hx : x.length ≤ 4096) (hfit : needN x.length ≤ S - a) (hT : T.length < 40) :
    ∃ d', appendD d ⟨a, S, 6 + T.length⟩ x = (d', ⟨a + needN x.length, S, 6 + (T.length + 1)⟩, 0) ∧ RoomP S d' (a + needN x.length) (T ++ [x]) := by
  obtain ⟨d', e, f, g, s, q, w, st, o⟩ := append_live h.whole h.fuse h.dead hx hfit (by rw [h.size]; exact Nat.le_refl _) h.fits (st := 6 + T.length) (by omega)
  have hf := h.fits
  refine ⟨d', ?_, ⟨f, g, w, by rw [s]; exact h.size, q, ?_, by omega, ?_, ?_, ?_, by simp; omega⟩⟩
  · rw [e]; simp only [Prod.mk.injEq, LogV.mk.injEq, true_and, and_true]; omega
  · rw [endOf_snoc, ← h.at_]
  · refine Chain.snoc (h.chain.congr h.small fun k _ hk => o k (by left; rw [h.at_]; exact hk)) ?_
    rw [← h.at_]; exact st
  · intro y hy
    rcases List.mem_append.1 hy with hy | hy
    · exact h.small y hy
    · simp at hy; subst hy; exact hx
  · intro k hk
    rw [o k (by omega)]
    exact h.zero k (by omega)
theorem room_open {S : Nat} {d : DS} {a : Nat} {T : List (List UInt8)} (h : RoomP S d a T) : d.recs 0 S 5 = (T, a) ∧ (d.recs 0 S (5 + T.length)).1 = [] := by
  have hfew := h.few
  have h1 : d.recs 0 S 5 = (T, a) := by
    have := recs_chain (d := d) (e := S) (by rw [h.size]; exact Nat.le_refl _) T 0 6 5 (S + 1) h.chain h.small (by omega) (by omega) (by rw [← h.at_]; exact h.fits) (by omega)
      (fun e _ => absurd e (read_zero (by rw [← h.at_]; exact h.zero a (Nat.le_refl _))))
    rw [← h.at_] at this
    exact this
  refine ⟨h1, ?_⟩
  unfold DS.recs
  rw [show S + 1 - 0 = S + 1 by omega]
  simp only [recsFrom]
  rw [if_neg]
  rintro ⟨e1, e2, e3⟩
  cases T with
  | nil =>
    have ha : a = 0 := h.at_
    exact read_zero (h.zero 0 (by omega)) e1
  | cons x xs =>
    have hx4 := h.small x (by simp)
    have hx := needN_sealed hx4
    have hs0 : spanN (sealedN x).length ≠ 0 := by have := spanN_pos (n := (sealedN x).length) (by rw [length_sealedN]; omega); omega
    have hle := le_endOf xs (0 + needN x.length)
    have hae : a = endOf (0 + needN x.length) xs := h.at_
    have hf := h.fits
    have hr := read_stands h.chain.1 hs0 (by omega) (by omega) (e := (S : Int)) (by rw [h.size]; exact Int.le_refl _) (by omega)
    rw [hr] at e3
    simp only [List.length_cons] at e3
    omega

/-- The records that a law is given. -/
theorem lists_of_given {H : Type} {enc : TypeId × Value → H} {W : World} {base : Nat} {held : Bool} {a : Option Addr} {len cap : Nat} {d : DataW H} {p : List MemPlace}
    (h : DataW.Trod enc Try.prog W base (fun _ => true) held 64 (.slice a len cap) d p) : ∃ L : List (List UInt8), len = L.length ∧ ListsIn W a L ∧ len ≤ cap := by
  have ce : Try.prog.cellsOf 23 = 1 := by kernel_rfl
  have c5 : Try.prog.cellsOf 5 = 1 := by kernel_rfl
  obtain ⟨fuel, hf⟩ := h
  rcases Go.Deep.open_slice Try.underlying64 hf with ⟨hcs, _⟩ | ⟨ad, l, c, m, n, D, Pl, hcs, hb, hl, hm, hmm, _, hx⟩
  · simp [Value.cells] at hcs
    obtain ⟨rfl, rfl, rfl⟩ := hcs
    exact ⟨[], rfl, (fun i l hi => by simp at hi), Nat.le_refl _⟩
  · simp [Value.cells] at hcs
    obtain ⟨rfl, rfl, rfl⟩ := hcs
    simp only [if_true] at hmm
    subst hmm
    have each : ∀ i, i < len → ∃ q : List UInt8, ∃ (pi : Option Addr) (ci : Nat), W.cell? (ad.add i) = some (.slice pi q.length ci) ∧ Src W pi (q.map Bv) ∧ q.length ≤ ci ∧ ci ≤ maxLen := by
      intro i hi
      obtain ⟨cs', g1, g2⟩ := hx i (by omega)
      rw [ce] at g1
      obtain ⟨_, hlen, hcell⟩ := World.cells?_some g1
      match cs', hlen with
      | [v0], _ =>
        obtain ⟨pa, ln, cp, zs, e3, r3⟩ := open_slice_val Try.underlying23 Try.underlying5 c5 g2
        subst e3
        obtain ⟨b, rfl, s3, f3, m3⟩ := r3.bytes
        have hm3 : cp ≤ maxLen := by
          rcases r3 with ⟨_, _, rfl, _⟩ | ⟨_, _, _, h, _⟩
          · unfold maxLen; omega
          · exact h
        have hc := hcell 0 (by omega)
        rw [Go.Deep.add_add] at hc
        refine ⟨b, pa, cp, ?_, s3, f3, hm3⟩
        simpa using hc
    obtain ⟨q, hq⟩ := Go.Deep.choose_lt each
    refine ⟨(List.range len).map q, by simp, fun i l hi => ?_, hl⟩
    rw [List.getElem?_map] at hi
    rcases Nat.lt_or_ge i len with h | h
    · simp [h] at hi
      subst hi
      obtain ⟨pi, ci, r⟩ := hq i h
      exact ⟨ad, pi, ci, rfl, r⟩
    · rw [List.getElem?_eq_none (by simpa using h)] at hi; cases hi

end Go.Proofs.Ytpddbffamejgeaa
