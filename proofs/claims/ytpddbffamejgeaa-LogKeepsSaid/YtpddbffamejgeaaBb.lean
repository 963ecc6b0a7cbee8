/- A pair of numbers that a law is given, with their bounds. -/
import Derived.Test.YtpddbffamejgeaaAd
import Derived.Test.YtpddbffamejgeaaAf
namespace Go.Proofs.Ytpddbffamejgeaa
open Go.ChangeShapes Go.WideShapes Go.ChangeAt Go.RowKit

set_option maxRecDepth 100000 in
theorem open_pair_w {H : Type} {enc : TypeId × Value → H} {W : World} {v : Value} {d : DataW H} {p : List MemPlace} {held : Bool} {base : Nat} {t e : TypeId} {r : Reach} {b0 : Nat}
    (ht : Try.prog.underlying t = some (.array 2 e)) (he : Try.prog.underlying e = some (.int .i64)) (hc : Try.prog.cellsOf t = 2) (hce : Try.prog.cellsOf e = 1) (hv : Value.okWide Try.prog W r b0 t v) (h : DataW.Trod enc Try.prog W base (fun _ => true) held t v d p) :
    ∃ x y, v = .agg #[.int .i64 x, .int .i64 y] ∧ (Lit.int .i64 x).wf = true ∧ (Lit.int .i64 y).wf = true := by
  simp only [Value.okWide, ht] at hv
  obtain ⟨cs, rfl, h2, _⟩ := hv
  rw [hc] at h2
  obtain ⟨fuel, hf⟩ := h
  cases fuel with
  | zero => simp [DataW.trod] at hf
  | succ n =>
    obtain ⟨c0, c1, rfl⟩ : ∃ c0 c1, cs = #[c0, c1] := ⟨cs[0], cs[1], by
      apply Array.ext
      · simp [h2]
      · intro i hi hj
        have : i = 0 ∨ i = 1 := by omega
        rcases this with rfl | rfl <;> rfl⟩
    unfold DataW.trod at hf
    rw [ht] at hf
    have r2 : List.range 2 = [0, 1] := rfl
    simp [r2, hce, Value.cells] at hf
    cases h0 : DataW.trod enc Try.prog W base (fun _ => true) held n e [c0] with
    | none => simp [h0] at hf
    | some y0 =>
      cases h1 : DataW.trod enc Try.prog W base (fun _ => true) held n e [c1] with
      | none => simp [h0, h1] at hf
      | some y1 =>
        obtain ⟨x, hx, _, wx⟩ := DataW.trod_int he h0
        obtain ⟨y, hy, _, wy⟩ := DataW.trod_int he h1
        simp at hx hy
        exact ⟨x, y, by rw [hx, hy], wx, wy⟩

end Go.Proofs.Ytpddbffamejgeaa
