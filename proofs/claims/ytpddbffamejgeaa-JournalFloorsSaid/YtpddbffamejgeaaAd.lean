/- What the laws are given, opened: a slice of bytes, an array of two numbers. -/
import Derived.Test.YtpddbffamejgeaaB
import Derived.Test.YtpddbffamejgeaaT
import Derived.Test.YtpddbffamejgeaaRows
import Derived.WalkKit
import Derived.ProofKit
import Derived.OpenShut
import Derived.ShutString
import Derived.ChangeOld
import Derived.Below
namespace Go.Proofs.Ytpddbffamejgeaa
open Go.ChangeShapes Go.WideShapes Go.ChangeAt Go.RowKit

/-- A row of numbers: what is read of a slice that came in. -/
def IsRow (k : IntKind) (w : World) (a : Option Addr) (len cap : Nat) (zs : List Int) : Prop :=
  (a = none ∧ len = 0 ∧ cap = 0 ∧ zs = []) ∨
  ∃ x, a = some x ∧ len ≤ cap ∧ cap ≤ maxLen ∧ zs.length = cap ∧ (∀ i, i < zs.length → w.cell? (x.add i) = some (.int k (zs.getD i 0))) ∧ ∀ n ∈ zs, (Lit.int k n).wf = true

theorem row_of_given {H : Type} {enc : TypeId × Value → H} {W : World} {k : IntKind} {t e : TypeId} {a : Option Addr} {len cap : Nat} {d : DataW H} {p : List MemPlace} {held : Bool} {base : Nat}
    (ht : Try.prog.underlying t = some (.slice e)) (he : Try.prog.underlying e = some (.int k)) (hc : Try.prog.cellsOf e = 1) (h : DataW.Trod enc Try.prog W base (fun _ => true) held t (.slice a len cap) d p) : ∃ zs, IsRow k W a len cap zs := by
  obtain ⟨fuel, hf⟩ := h
  rcases open_ints ht he hc hf with ⟨hcs, _⟩ | ⟨x, l, c, zs, hcs, _, hl, hm, hz, _, hcell, hwz⟩
  · simp [Value.cells] at hcs
    obtain ⟨rfl, rfl, rfl⟩ := hcs
    exact ⟨[], .inl ⟨rfl, rfl, rfl, rfl⟩⟩
  · simp [Value.cells] at hcs
    obtain ⟨rfl, rfl, rfl⟩ := hcs
    exact ⟨zs, .inr ⟨_, rfl, hl, hm, by simpa using hz, hcell, hwz⟩⟩

/-- Some numbers as a list of a slice's elements. -/
theorem IsRow.src {k : IntKind} {w : World} {a : Option Addr} {len cap : Nat} {zs : List Int} (h : IsRow k w a len cap zs) : ∃ l : List Int, len = l.length ∧ Src w a (l.map (Value.int k)) ∧ len ≤ cap ∧ cap ≤ maxLen ∧ ∀ n ∈ l, (Lit.int k n).wf = true := by
  rcases h with ⟨rfl, rfl, rfl, rfl⟩ | ⟨x, rfl, h1, h2, h3, h4, h5⟩
  · exact ⟨[], rfl, Src.nil _ _, Nat.le_refl _, Nat.zero_le _, by simp⟩
  · refine ⟨zs.take len, by simp; omega, fun hp => ⟨x, rfl, fun j v hj => ?_⟩, h1, h2, fun n hn => h5 n (List.mem_of_mem_take hn)⟩
    rw [List.getElem?_map] at hj
    have hjl : j < len := by
      rcases Nat.lt_or_ge j len with h | h
      · exact h
      · rw [List.getElem?_eq_none (by simp; omega)] at hj; simp at hj
    have hz : j < zs.length := by omega
    rw [h4 j hz]
    rw [List.getElem?_take_of_lt hjl, List.getElem?_eq_getElem hz] at hj
    simp at hj
    rw [← hj, List.getD_eq_getElem?_getD, List.getElem?_eq_getElem hz]
    rfl
theorem byte_of {n : Int} (h : (Lit.int .u8 n).wf = true) : 0 ≤ n ∧ n < 256 := by
  have h' : IntKind.u8.min ≤ n ∧ n ≤ IntKind.u8.max := by simpa [Lit.wf] using h
  have e1 : IntKind.u8.min = 0 := by decide
  have e2 : IntKind.u8.max = 255 := by decide
  omega
theorem word_of {n : Int} (h : (Lit.int .u64 n).wf = true) : 0 ≤ n ∧ n < 18446744073709551616 := by
  have h' : IntKind.u64.min ≤ n ∧ n ≤ IntKind.u64.max := by simpa [Lit.wf] using h
  have e1 : IntKind.u64.min = 0 := by decide
  have e2 : IntKind.u64.max = 18446744073709551615 := by decide
  omega
theorem IsRow.bytes {w : World} {a : Option Addr} {len cap : Nat} {zs : List Int} (h : IsRow .u8 w a len cap zs) : ∃ b : List UInt8, len = b.length ∧ Src w a (b.map Bv) ∧ len ≤ cap ∧ cap ≤ 9223372036854775807 := by
  obtain ⟨l, h1, h2, h3, h4, h5⟩ := h.src
  refine ⟨l.map fun z => UInt8.ofNat z.toNat, by simp [h1], ?_, h3, by unfold maxLen at h4; omega⟩
  have e : (l.map fun z => UInt8.ofNat z.toNat).map Bv = l.map (Value.int .u8) := by
    rw [List.map_map]
    apply List.map_congr_left
    intro z hz
    have := byte_of (h5 z hz)
    show Value.int .u8 ((UInt8.ofNat z.toNat).toNat : Int) = _
    congr 1
    simp
    omega
  rw [e]; exact h2
set_option maxRecDepth 100000 in
theorem open_pair {H : Type} {enc : TypeId × Value → H} {W : World} {v : Value} {d : DataW H} {p : List MemPlace} {held : Bool} {base : Nat} {t e : TypeId} {r : Reach} {b0 : Nat}
    (ht : Try.prog.underlying t = some (.array 2 e)) (he : Try.prog.underlying e = some (.int .i64)) (hc : Try.prog.cellsOf t = 2) (hce : Try.prog.cellsOf e = 1) (hv : Value.okWide Try.prog W r b0 t v) (h : DataW.Trod enc Try.prog W base (fun _ => true) held t v d p) :
    ∃ x y, v = .agg #[.int .i64 x, .int .i64 y] := by
  simp only [Value.okWide, ht] at hv
  obtain ⟨cs, rfl, h2, _⟩ := hv
  rw [hc] at h2
  obtain ⟨fuel, hf⟩ := h
  cases fuel with
  | zero => simp [DataW.trod] at hf
  | succ n =>
    obtain ⟨c0, c1, rfl⟩ : ∃ c0 c1, cs = #[c0, c1] := ⟨cs[0], cs[1], by
      apply Array.ext
      · simp [h2]
      · intro i hi hj
        have : i = 0 ∨ i = 1 := by omega
        rcases this with rfl | rfl <;> rfl⟩
    unfold DataW.trod at hf
    rw [ht] at hf
    have r2 : List.range 2 = [0, 1] := rfl
    simp [r2, hce, Value.cells] at hf
    cases h0 : DataW.trod enc Try.prog W base (fun _ => true) held n e [c0] with
    | none => simp [h0] at hf
    | some y0 =>
      cases h1 : DataW.trod enc Try.prog W base (fun _ => true) held n e [c1] with
      | none => simp [h0, h1] at hf
      | some y1 =>
        obtain ⟨x, hx, _⟩ := DataW.trod_int he h0
        obtain ⟨y, hy, _⟩ := DataW.trod_int he h1
        simp at hx hy
        exact ⟨x, y, by rw [hx, hy]⟩

end Go.Proofs.Ytpddbffamejgeaa
