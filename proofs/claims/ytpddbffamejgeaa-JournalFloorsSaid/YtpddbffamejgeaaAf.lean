/- The acts that a law is given: a slice of structs with slices in them. -/
import Derived.Test.YtpddbffamejgeaaAd
import Derived.Deep.Slices
import Derived.Deep.SlicePairs
namespace Go.Proofs.Ytpddbffamejgeaa
open Go.ChangeShapes Go.WideShapes Go.ChangeAt Go.RowKit

structure ActV where
  kind : Int
  pos : Int
  stamp : Nat
  ba : Option Addr
  b : List UInt8
  bc : Nat
  ka : Option Addr
  keep : List Int
  kc : Nat
instance : Inhabited ActV := ⟨⟨0, 0, 0, none, [], 0, none, [], 0⟩⟩
def ActV.cells (a : ActV) : List Value := [.int .i64 a.kind, .int .i64 a.pos, .int .u64 a.stamp, .slice a.ba a.b.length a.bc, .slice a.ka a.keep.length a.kc]
structure ActV.ok (w : World) (a : ActV) : Prop where
  src : Src w a.ba (a.b.map Bv)
  fits : a.b.length ≤ a.bc
  small : a.bc ≤ 9223372036854775807
  ksrc : Src w a.ka (a.keep.map (Value.int .i64))
  kfits : a.keep.length ≤ a.kc
  ksmall : a.kc ≤ maxLen
  at0 : -9223372036854775808 ≤ a.pos
  at1 : a.pos ≤ 9223372036854775807
  st : a.stamp < 18446744073709551616
structure ActsAt (w : World) (pa : Option Addr) (l : List ActV) : Prop where
  cells : ∀ i a, l[i]? = some a → ∃ ad, pa = some ad ∧ ∀ j v, a.cells[j]? = some v → w.cell? (ad.add (i * 5 + j)) = some v
  ok : ∀ a ∈ l, a.ok w
theorem ActV.ok.below {w W : World} {a : ActV} (h : a.ok w) (hb : Below w.heap.size w W) : a.ok W :=
  ⟨h.src.below hb, h.fits, h.small, h.ksrc.below hb, h.kfits, h.ksmall, h.at0, h.at1, h.st⟩
theorem ActsAt.below {w W : World} {pa : Option Addr} {l : List ActV} (h : ActsAt w pa l) (hb : Below w.heap.size w W) : ActsAt W pa l where
  cells i a hi := by
    obtain ⟨ad, e, hc⟩ := h.cells i a hi
    refine ⟨ad, e, fun j v hj => ?_⟩
    have h1 := hc j v hj
    have hlt := block_lt_of_cell h1
    have := hb.block _ hlt
    unfold World.cell? at *
    rw [this]; exact h1
  ok a ha := (h.ok a ha).below hb
theorem i64_of {n : Int} (h : (Lit.int .i64 n).wf = true) : -9223372036854775808 ≤ n ∧ n ≤ 9223372036854775807 := by
  have h' : IntKind.i64.min ≤ n ∧ n ≤ IntKind.i64.max := by simpa [Lit.wf] using h
  have e1 : IntKind.i64.min = -9223372036854775808 := by decide
  have e2 : IntKind.i64.max = 9223372036854775807 := by decide
  omega
theorem open_slice_val {H : Type} {enc : TypeId × Value → H} {W : World} {base fuel : Nat} {held : Bool} {t e : TypeId} {k : IntKind} {v : Value} {x : DataW H × List MemPlace} (ht : Try.prog.underlying t = some (.slice e)) (he : Try.prog.underlying e = some (.int k)) (hc : Try.prog.cellsOf e = 1)
    (h : DataW.trod enc Try.prog W base (fun _ => true) held fuel t [v] = some x) : ∃ a len cap zs, v = .slice a len cap ∧ IsRow k W a len cap zs := by
  rcases open_ints ht he hc h with ⟨hcs, _⟩ | ⟨ad, l, c, zs, hcs, _, hl, hm, hz, _, hcell, hwz⟩
  · simp at hcs
    exact ⟨none, 0, 0, [], hcs, .inl ⟨rfl, rfl, rfl, rfl⟩⟩
  · simp at hcs
    exact ⟨some ad, l, c, zs, hcs, .inr ⟨_, rfl, hl, hm, by simpa using hz, hcell, hwz⟩⟩

set_option maxRecDepth 100000 in
theorem acts_of_given {H : Type} {enc : TypeId × Value → H} {W : World} {base : Nat} {held : Bool} {t e : TypeId} {f0 f1 f2 f3 f4 : Field} {a : Option Addr} {len cap : Nat} {d : DataW H} {p : List MemPlace}
    (ht : Try.prog.underlying t = some (.slice e)) (he : Try.prog.underlying e = some (.struct #[f0, f1, f2, f3, f4])) (ce : Try.prog.cellsOf e = 5)
    (h0 : Try.prog.underlying f0.type = some (.int .i64)) (h1 : Try.prog.underlying f1.type = some (.int .i64)) (h2 : Try.prog.underlying f2.type = some (.int .u64)) {e3 e4 : TypeId}
    (h3 : Try.prog.underlying f3.type = some (.slice e3)) (h3e : Try.prog.underlying e3 = some (.int .u8)) (h4 : Try.prog.underlying f4.type = some (.slice e4)) (h4e : Try.prog.underlying e4 = some (.int .i64))
    (o0 : f0.offset = 0) (o1 : f1.offset = 1) (o2 : f2.offset = 2) (o3 : f3.offset = 3) (o4 : f4.offset = 4)
    (c0 : Try.prog.cellsOf f0.type = 1) (c1 : Try.prog.cellsOf f1.type = 1) (c2 : Try.prog.cellsOf f2.type = 1) (c3 : Try.prog.cellsOf f3.type = 1) (c4 : Try.prog.cellsOf f4.type = 1)
    (ce3 : Try.prog.cellsOf e3 = 1) (ce4 : Try.prog.cellsOf e4 = 1)
    (h : DataW.Trod enc Try.prog W base (fun _ => true) held t (.slice a len cap) d p) : ∃ l : List ActV, len = l.length ∧ ActsAt W a l ∧ len ≤ cap := by
  obtain ⟨fuel, hf⟩ := h
  rcases Go.Deep.open_slice ht hf with ⟨hcs, _⟩ | ⟨ad, l, c, m, n, D, Pl, hcs, hb, hl, hm, hmm, _, hx⟩
  · simp [Value.cells] at hcs
    obtain ⟨rfl, rfl, rfl⟩ := hcs
    exact ⟨[], rfl, ⟨fun i a hi => by simp at hi, by simp⟩, Nat.le_refl _⟩
  · simp [Value.cells] at hcs
    obtain ⟨rfl, rfl, rfl⟩ := hcs
    simp only [if_true] at hmm
    subst hmm
    have each : ∀ i, i < len → ∃ q : ActV, (∀ j v, q.cells[j]? = some v → W.cell? (ad.add (i * 5 + j)) = some v) ∧ q.ok W := by
      intro i hi
      obtain ⟨cs', g1, g2⟩ := hx i (by omega)
      rw [ce] at g1
      obtain ⟨_, hlen, hcell⟩ := World.cells?_some g1
      obtain ⟨xs, k, hk, hxy, _, hxl, hfl⟩ := DataW.trod_struct he g2
      match xs, hxl, cs', hlen with
      | [y0, y1, y2, y3, y4], _, [v0, v1, v2, v3, v4], _ =>
        have k0 := hfl 0 f0 rfl
        have k1 := hfl 1 f1 rfl
        have k2 := hfl 2 f2 rfl
        have k3 := hfl 3 f3 rfl
        have k4 := hfl 4 f4 rfl
        simp [o0, o1, o2, o3, o4, c0, c1, c2, c3, c4] at k0 k1 k2 k3 k4
        obtain ⟨z0, e0, _, w0⟩ := DataW.trod_int h0 k0
        obtain ⟨z1, e1, _, w1⟩ := DataW.trod_int h1 k1
        obtain ⟨z2, e2, _, w2⟩ := DataW.trod_int h2 k2
        obtain ⟨a3, l3, m3, zs3, e3', r3⟩ := open_slice_val h3 h3e ce3 k3
        obtain ⟨a4, l4, m4, zs4, e4', r4⟩ := open_slice_val h4 h4e ce4 k4
        simp at e0 e1 e2
        obtain ⟨b, rfl, s3, f3', m3'⟩ := r3.bytes
        obtain ⟨ks, rfl, s4, f4', m4', _⟩ := r4.src
        have hz1 := i64_of w1
        have hz2 := word_of w2
        refine ⟨⟨z0, z1, z2.toNat, a3, b, m3, a4, ks, m4⟩, fun j v hj => ?_, ⟨s3, f3', m3', s4, f4', m4', hz1.1, hz1.2, by show z2.toNat < _; omega⟩⟩
        have hj5 : j < 5 := by
          rcases Nat.lt_or_ge j 5 with h | h
          · exact h
          · rw [List.getElem?_eq_none (by simpa [ActV.cells] using h)] at hj; cases hj
        have hc := hcell j hj5
        rw [Go.Deep.add_add] at hc
        rw [hc]
        have : ([v0, v1, v2, v3, v4] : List Value) = ActV.cells ⟨z0, z1, z2.toNat, a3, b, m3, a4, ks, m4⟩ := by
          subst e0 e1 e2 e3' e4'
          simp [ActV.cells, Int.toNat_of_nonneg hz2.1]
        rw [this]; exact hj
    obtain ⟨q, hq⟩ := Go.Deep.choose_lt each
    refine ⟨(List.range len).map q, by simp, ⟨fun i a hi => ?_, fun a ha => ?_⟩, hl⟩
    · rw [List.getElem?_map] at hi
      rcases Nat.lt_or_ge i len with h | h
      · simp [h] at hi
        subst hi
        exact ⟨ad, rfl, (hq i h).1⟩
      · rw [List.getElem?_eq_none (by simpa using h)] at hi; cases hi
    · obtain ⟨i, hi, rfl⟩ := List.mem_map.1 ha
      exact (hq i (by simpa using hi)).2

end Go.Proofs.Ytpddbffamejgeaa
