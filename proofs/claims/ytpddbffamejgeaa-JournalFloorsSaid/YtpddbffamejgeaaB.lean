/- Base: small lemmas on worlds, rows of cells and bytes, without the dump. -/
import Derived.WalkKit
import Derived.WalkSpells
import Derived.WalkLawsBesides
import Derived.Deep.MidRow
import Derived.Lib.Hide
import Derived.Laws.CopyOwn
import Derived.Laws.ResultCell
import Derived.Maps.AppendAt
namespace Go.Proofs.Ytpddbffamejgeaa
open Go.RowKit

/-- A byte as a cell. -/
abbrev Bv (x : UInt8) : Value := .int .u8 (x.toNat : Int)
def zeros64 : List UInt8 := List.replicate 64 0
theorem length_zeros64 : (zeros64.map Bv).length = 64 := rfl
def Z64 : Array Value := (List.replicate 64 (Bv 0)).toArray

/-- Block g is a row of cells of type t, not frozen. -/
def Row (w : World) (g : Nat) (cs : List Value) (t : TypeId) : Prop := w.heap[g]? = some (.cells cs.toArray t (0, 0))

theorem Row.eq {w : World} {g : Nat} {cs : List Value} {t : TypeId} (h : Row w g cs t) : w.heap[g]? = some (.cells cs.toArray t (0, 0)) := h
theorem Row.lt {w : World} {g : Nat} {cs : List Value} {t : TypeId} (h : Row w g cs t) : g < w.heap.size := by
  have h : w.heap[g]? = _ := h
  by_cases hlt : g < w.heap.size
  · exact hlt
  · rw [Array.getElem?_eq_none (by omega)] at h; cases h
theorem Row.cell {w : World} {g : Nat} {cs : List Value} {t : TypeId} (h : Row w g cs t) (j : Nat) : w.cell? ⟨g, j, none⟩ = cs[j]? := by
  rw [cell_of_row _ _ _ _ _ _ h, List.getElem?_toArray]
theorem Row.thaw {w : World} {g : Nat} {cs : List Value} {t : TypeId} (h : Row w g cs t) (j : Nat) : w.frozen? ⟨g, j, none⟩ = false := frozen_of_row _ _ _ _ _ h
theorem Row.of_block {w w' : World} {g : Nat} {cs : List Value} {t : TypeId} (h : Row w g cs t) (e : w'.heap[g]? = w.heap[g]?) : Row w' g cs t := by
  unfold Row; rw [e]; exact h
theorem Row.alloc {w : World} {g : Nat} {cs : List Value} {t : TypeId} (h : Row w g cs t) (o : Obj) : Row (w.alloc o) g cs t := h.of_block (Below.heap_alloc w o g h.lt)
theorem Row.drew {w : World} {g : Nat} {cs : List Value} {t : TypeId} (h : Row w g cs t) : Row w.drew g cs t := h
theorem Row.drewN {w : World} {g : Nat} {cs : List Value} {t : TypeId} (h : Row w g cs t) (n : Nat) : Row (w.drewN n) g cs t := h
theorem Row.below {B : Nat} {w w' : World} {g : Nat} {cs : List Value} {t : TypeId} (h : Row w g cs t) (hb : Below B w w') (hB : g < B) : Row w' g cs t := h.of_block (hb.block g hB)
theorem Row.set {w : World} {g : Nat} {cs : List Value} {t : TypeId} (h : Row w g cs t) (j : Nat) (v : Value) : Row (w.setCell ⟨g, j, none⟩ v) g (cs.set j v) t := by
  have := heap_setCell_same w g j cs.toArray t v h
  rwa [List.setIfInBounds_toArray] at this
theorem Row.other {w : World} {g : Nat} {cs : List Value} {t : TypeId} (h : Row w g cs t) (a : Addr) (v : Value) (hne : g ≠ a.block) : Row (w.setCell a v) g cs t :=
  h.of_block (heap_setCell_other w a g v hne)
theorem Row.new (w : World) (cs : List Value) (t : TypeId) : Row (w.alloc (.cells cs.toArray t)) w.heap.size cs t := heap_alloc_new w _
theorem Row.setRow {w : World} {g : Nat} {cs : List Value} {t : TypeId} (h : Row w g cs t) (cs' : List Value) : Row (w.setRow g cs'.toArray) g cs' t := setRow_heap w g _ _ t _ h
theorem Row.setRow_other {w : World} {g : Nat} {cs : List Value} {t : TypeId} (h : Row w g cs t) {k : Nat} (cs' : Array Value) (hne : g ≠ k) : Row (w.setRow k cs') g cs t :=
  h.of_block (Go.setRow_other w k g cs' hne)
theorem Row.range {w : World} {g : Nat} {cs : List Value} {t : TypeId} (h : Row w g cs t) (o : Nat) (l : List Value) (hl : ∀ j v, l[j]? = some v → cs[o + j]? = some v) : w.rangeAt g o l :=
  fun j v hv => by rw [h.cell]; exact hl j v hv

theorem cell_alloc {w : World} {a : Addr} {v : Value} (h : w.cell? a = some v) (o : Obj) : (w.alloc o).cell? a = some v := by
  rw [World.cell?_of_block (w := w) (Below.heap_alloc w o _ (block_lt_of_cell h))]; exact h

theorem wpl_alloc {P : Program} {ops : Array Oper} {rest : List Oper} {o : Oper} {a : Act} {w : World} {Q : Exit → Act → World → Prop} (hgd : o.guard = none) (T : TypeId) (ho : o.op = .alloc T)
    (z : Array Value) (sz by_ : Nat) (hz : (P.info? T).map (fun i => (i.zero, i.size, i.bytes)) = some (some (.agg z), sz, by_))
    (h : wpList P ops Q rest (a.put o.dst (.pointer (some ⟨w.heap.size, 0, none⟩))) (w.alloc (.cells z T))) : wpList P ops Q (o :: rest) a w := by
  refine wpList_plain hgd fun K hK => ?_
  obtain ⟨i, hi, hz0, _, _⟩ := info_parts hz
  unfold Oper.wp execOp
  simp [ho, Instr.alloc, zeroValue, typeInfo, program, Sem.run, hi, hz0, Bind.bind, Sem.bind, newVar, newRow, newObj, Value.cells, pure]
  exact hK _ _ h

theorem fill_one (cs z : Array Value) (h : z.size = cs.size) : Instr.fill (fun i => some (i * cs.size, cs.size)) z [(0, .agg cs)] = some cs := by
  have e : (List.foldl (fun (c : Array Value) (x : Value × Nat) => c.setIfInBounds (0 + x.2) x.1) z (cs.toList.zipIdx)) = cs := by
    have : ∀ (l : List Value) (n : Nat) (c : Array Value), n + l.length ≤ c.size → List.foldl (fun (c : Array Value) (x : Value × Nat) => c.setIfInBounds (0 + x.2) x.1) c (l.zipIdx n) = (c.toList.take n ++ (l ++ c.toList.drop (n + l.length))).toArray := by
      intro l
      induction l with
      | nil => intro n c _; simp
      | cons x l ih =>
        intro n c hn
        simp only [List.length_cons] at hn
        simp only [List.zipIdx_cons, List.foldl_cons]
        rw [ih (n + 1) _ (by simp; omega)]
        apply Array.ext'
        simp only [Nat.zero_add, Array.toList_setIfInBounds, List.length_cons]
        have hlt : n < c.toList.length := by simp; omega
        rw [List.drop_set_of_lt (by omega), List.take_set, List.take_succ_eq_append_getElem hlt, List.set_append_right _ _ (by simp; omega)]
        have e1 : n - (List.take n c.toList).length = 0 := by simp; omega
        rw [e1]
        simp only [List.set_cons_zero, List.append_assoc, List.cons_append, List.nil_append]
        rw [show n + 1 + l.length = n + (l.length + 1) by omega]
    rw [this cs.toList 0 z (by simp [h])]
    rw [List.drop_of_length_le (by simp [h])]
    simp
  have hz : z.size = cs.size := h
  simp only [Instr.fill, Value.cells, Nat.zero_mul, ne_eq, not_true_eq_false, Nat.zero_add, gt_iff_lt]
  rw [if_neg (by simp; omega)]
  congr 1
  simp only [Nat.zero_add] at e
  rw [← Array.foldl_toList, Array.toList_zipIdx]
  exact e
/-- A slice of one aggregate, built. -/
theorem run_buildSlice_one {P : Program} {T E : TypeId} {n : Nat} (cs z : Array Value) (hT : P.underlying T = some (.slice E)) {by_ : Nat} (hz : (P.info? E).map (fun i => (i.zero, i.size, i.bytes)) = some (some (.agg z), n, by_)) (hn : cs.size = n) (h0 : 0 < n) (hb : n ≤ 16777216) (w : World) :
    (Instr.buildSlice T 1 #[(0, .agg cs)]).run P w = .ok (.slice (some ⟨w.heap.size, 0, none⟩) 1 1) (w.alloc (.cells cs E)) := by
  obtain ⟨i, hi, hz0, hz1, _⟩ := info_parts hz
  subst hn
  have hf := fill_one cs ((Array.range (1 * cs.size)).map (z[· % z.size]!)) (by simp)
  have h0' : cs.size ≠ 0 := by omega
  have h1' : ¬ cs.size > 2 ^ 24 := by omega
  simp only [Nat.one_mul] at hf
  simp [Instr.buildSlice, sizeOf, zeroValue, typeInfo, underlying, program, Sem.run, hi, hz0, hz1, hT, Bind.bind, Sem.bind, Value.cells, pure, h0', h1', hf, newRow, newObj, unsupported]
/-- A whole row, loaded. -/
theorem wpl_load {P : Program} {ops : Array Oper} {rest : List Oper} {o : Oper} {a : Act} {w : World} {Q : Exit → Act → World → Prop} (hgd : o.guard = none) (ty : TypeId) (x : Operand) (ho : o.op = .load ty x)
    (g : Nat) (hx : a.eval x = .pointer (some ⟨g, 0, none⟩)) (t : TypeId) (cs : List Value) (d : TypeDesc) (hg : Row w g cs t) (n : Nat) (hn : cs.length = n)
    (hu : P.underlying ty = some d) (hd : (match d with | .struct _ | .array _ _ => true | _ => false) = true) (hi : (P.info? ty).map (·.size) = some n)
    (h : wpList P ops Q rest (a.put o.dst (.agg cs.toArray)) w) : wpList P ops Q (o :: rest) a w :=
  wpList_load_row hgd ty x ho g hx t cs.toArray (0, 0) d hg hu hd (by simp [hi, hn]) h
/-- A part of a row, loaded. -/
theorem wpl_load_at {P : Program} {ops : Array Oper} {rest : List Oper} {o : Oper} {a : Act} {w : World} {Q : Exit → Act → World → Prop} (hgd : o.guard = none) (ty : TypeId) (x : Operand) (ho : o.op = .load ty x)
    (g off : Nat) (hx : a.eval x = .pointer (some ⟨g, off, none⟩)) (cs : List Value) (d : TypeDesc) (hg : w.rangeAt g off cs) (n : Nat) (hn : cs.length = n)
    (hu : P.underlying ty = some d) (hd : d.isRow = true) (hi : (P.info? ty).map (·.size) = some n)
    (h : wpList P ops Q rest (a.put o.dst (.agg cs.toArray)) w) : wpList P ops Q (o :: rest) a w :=
  wpList_load_mid hgd ty x ho g off hx cs d hg hu hd (by simp [hi, hn]) h
theorem runs_load_at {P : Program} {o : Oper} {a : Act} {w : World} (ty : TypeId) (x : Operand) (ho : o.op = .load ty x)
    (g off : Nat) (hx : a.eval x = .pointer (some ⟨g, off, none⟩)) (cs : List Value) (d : TypeDesc) (hg : w.rangeAt g off cs) (n : Nat) (hn : cs.length = n)
    (hu : P.underlying ty = some d) (hd : d.isRow = true) (hi : (P.info? ty).map (·.size) = some n) : (execOp a.eval o).run P w = .ok (.value (.agg cs.toArray)) w := by
  unfold execOp
  simp only [ho, hx, Instr.loadAt, Instr.sureAddr, Sem.run_bind, Sem.run_pure, Result.andThen_ok, run_loadVar_mid w g off ty cs d hg hu hd (by simp [hi, hn])]
theorem runs_buildSlice_one {P : Program} {o : Oper} {a : Act} (w : World) {T E : TypeId} {n : Nat} (x : Operand) (ho : o.op = .buildSlice T 1 #[(0, x)]) (cs z : Array Value) (hx : a.eval x = .agg cs) (hT : P.underlying T = some (.slice E)) {by_ : Nat} (hz : (P.info? E).map (fun i => (i.zero, i.size, i.bytes)) = some (some (.agg z), n, by_)) (hn : cs.size = n) (h0 : 0 < n) (hb : n ≤ 16777216) :
    (execOp a.eval o).run P w = .ok (.value (.slice (some ⟨w.heap.size, 0, none⟩) 1 1)) (w.alloc (.cells cs E)) := by
  unfold execOp
  simp only [ho, List.map_toArray, List.map_cons, List.map_nil, hx, Sem.run_bind, run_buildSlice_one cs z hT hz hn h0 hb w, Result.andThen_ok, Sem.run_pure]
theorem runs_mapUpdate {P : Program} {o : Oper} {a : Act} {w w1 : World} {T : TypeId} (m k x : Operand) (ho : o.op = .mapUpdate T m k x) {M : Value} {kv v : Value} (hm : a.eval m = M) (hk : a.eval k = kv) (hx : a.eval x = v)
    (h : (Instr.mapUpdate T M kv v).run P w = .ok () w1) : (execOp a.eval o).run P w = .ok .skip w1 := by
  unfold execOp
  simp only [ho, hm, hk, hx, Sem.run_bind, h, Result.andThen_ok, Sem.run_pure]
theorem runs_lookup {P : Program} {o : Oper} {a : Act} {w w1 : World} {T : TypeId} (m k : Operand) (ho : o.op = .lookup T m k false) {M : Value} {kv v : Value} (hm : a.eval m = M) (hk : a.eval k = kv)
    (h : (Instr.lookup T M kv false).run P w = .ok v w1) : (execOp a.eval o).run P w = .ok (.value v) w1 := by
  unfold execOp
  simp only [ho, hm, hk, Sem.run_bind, h, Result.andThen_ok, Sem.run_pure]
/-- A whole row, stored. -/
theorem wpl_store {P : Program} {ops : Array Oper} {rest : List Oper} {o : Oper} {a : Act} {w : World} {Q : Exit → Act → World → Prop} (hgd : o.guard = none) (ty : TypeId) (x y : Operand) (ho : o.op = .store ty x y)
    (g : Nat) (cs : List Value) (hx : a.eval x = .pointer (some ⟨g, 0, none⟩)) (hy : a.eval y = .agg cs.toArray)
    (t : TypeId) (old : List Value) (hg : Row w g old t) (n : Nat) (hi : (P.info? ty).map (·.size) = some n) (hn : cs.length = n) (hold : old.length = n) (h1 : ∀ v ∈ cs, v.oneCell' = true)
    (h : wpList P ops Q rest (a.put o.dst undef) (w.setRow g cs.toArray)) : wpList P ops Q (o :: rest) a w :=
  wpList_store_row hgd ty x y ho g cs.toArray hx hy t old.toArray hg (by simp [hi, hn]) (by simp [hn, hold]) (all_oneCell_toArray h1) h
theorem Z64_eq : Z64 = (zeros64.map Bv).toArray := rfl
theorem Row.newZ (w : World) (t : TypeId) : Row (w.alloc (.cells Z64 t)) w.heap.size (zeros64.map Bv) t := heap_alloc_new w _
/-- An array's zero value, built. -/
theorem wpl_build0 {P : Program} {ops : Array Oper} {rest : List Oper} {o : Oper} {a : Act} {w : World} {Q : Exit → Act → World → Prop} (hgd : o.guard = none) (T : TypeId) (ho : o.op = .build T #[])
    (z : Array Value) (sz by_ : Nat) (hz : (P.info? T).map (fun i => (i.zero, i.size, i.bytes)) = some (some (.agg z), sz, by_)) (n E s : Nat) (hT : P.underlying T = some (.array n E)) (hE : (P.info? E).map (·.size) = some s)
    (h : wpList P ops Q rest (a.put o.dst (.agg z)) w) : wpList P ops Q (o :: rest) a w := by
  refine wpList_plain hgd fun K hK => ?_
  obtain ⟨i, hi, hz0, _, _⟩ := info_parts hz
  obtain ⟨j, hj, _⟩ : ∃ j, P.info? E = some j ∧ j.size = s := by
    cases hq : P.info? E with
    | none => simp [hq] at hE
    | some j => exact ⟨j, rfl, by simpa [hq] using hE⟩
  unfold Oper.wp execOp
  simp [ho, Instr.build, zeroValue, sizeOf, typeInfo, underlying, program, Sem.run, hi, hz0, hT, hj, Bind.bind, Sem.bind, Value.cells, pure, Instr.fill]
  exact hK _ _ h

/-- A slice's elements, read from an address (which may be nil where there are none). -/
def Src (w : World) (pa : Option Addr) (l : List Value) : Prop := 0 < l.length → ∃ ad, pa = some ad ∧ ∀ j v, l[j]? = some v → w.cell? (ad.add j) = some v
theorem Addr.add_block (a : Addr) (n : Nat) : (a.add n).block = a.block := by unfold Addr.add; split <;> rfl
theorem Src.of_block {w w' : World} {pa : Option Addr} {l : List Value} (h : Src w pa l) (e : ∀ ad, pa = some ad → ad.block < w.heap.size → w'.heap[ad.block]? = w.heap[ad.block]?) : Src w' pa l := by
  intro hp
  obtain ⟨ad, rfl, hc⟩ := h hp
  refine ⟨ad, rfl, fun j v hj => ?_⟩
  have h1 := hc j v hj
  rw [World.cell?_of_block (w := w)]
  · exact h1
  · rw [Addr.add_block]
    exact e ad rfl (by have := block_lt_of_cell h1; rwa [Addr.add_block] at this)
theorem Src.alloc {w : World} {pa : Option Addr} {l : List Value} (h : Src w pa l) (o : Obj) : Src (w.alloc o) pa l := h.of_block fun _ _ hlt => Below.heap_alloc _ _ _ hlt
theorem Src.drew {w : World} {pa : Option Addr} {l : List Value} (h : Src w pa l) : Src w.drew pa l := h
theorem Src.drewN {w : World} {pa : Option Addr} {l : List Value} (h : Src w pa l) (n : Nat) : Src (w.drewN n) pa l := h
theorem Src.below {w w' : World} {pa : Option Addr} {l : List Value} (h : Src w pa l) (hb : Below w.heap.size w w') : Src w' pa l := h.of_block fun _ _ hlt => hb.block _ hlt
theorem Src.pos {w : World} {pa : Option Addr} {l : List Value} (h : Src w pa l) {q : Prop} (hq : q) : 0 < l.length → q ∧ ∃ ad, pa = some ad ∧ ∀ j v, l[j]? = some v → w.cell? (ad.add j) = some v := fun hp => ⟨hq, h hp⟩
theorem Src.nil (w : World) (pa : Option Addr) : Src w pa [] := fun h => by simp at h
theorem Src.of_row {w : World} {g : Nat} {cs : List Value} {t : TypeId} (h : Row w g cs t) (o : Nat) (l : List Value) (hl : ∀ j v, l[j]? = some v → cs[o + j]? = some v) : Src w (some ⟨g, o, none⟩) l :=
  fun _ => ⟨_, rfl, fun j v hv => by rw [Addr.add_mid, h.cell]; exact hl j v hv⟩

/-- A box of an aggregate. -/
theorem wpl_box {P : Program} {ops : Array Oper} {rest : List Oper} {o : Oper} {a : Act} {w : World} {Q : Exit → Act → World → Prop} (hgd : o.guard = none) (T : TypeId) (x : Operand) (ho : o.op = .box T x)
    (cs : Array Value) (hx : a.eval x = .agg cs)
    (h : wpList P ops Q rest (a.put o.dst (.pointer (some ⟨w.heap.size, 0, none⟩))) (w.alloc (.cells cs T))) : wpList P ops Q (o :: rest) a w := by
  refine wpList_plain hgd fun K hK => ?_
  unfold Oper.wp execOp
  simp [ho, hx, Instr.box, Sem.run, Bind.bind, Sem.bind, newVar, newRow, newObj, Value.cells, pure]
  exact hK _ _ h

/-- Results: an aggregate in memory, then a slot. -/
theorem results_cell_row2 {P : Program} {fn : Func} {p u : Tmp} {ty : TypeId} (h : fn.results = #[.cell p ty, .tmp u]) (tmps : Array Value) (w : World) (g : Nat) (t : TypeId) (cs : Array Value) (fr : Nat × Nat) (d : TypeDesc)
    (hp : tmps.getD p undef = .pointer (some ⟨g, 0, none⟩)) (hg : w.heap[g]? = some (.cells cs t fr))
    (hu : P.underlying ty = some d) (hd : (match d with | .struct _ | .array _ _ => true | _ => false) = true) (hi : (P.info? ty).map (·.size) = some cs.size) :
    (results fn tmps).run P w = .ok (.tuple #[.agg cs, tmps.getD u undef]) w := by
  have hp' : tmps[p]?.getD undef = .pointer (some ⟨g, 0, none⟩) := by simpa using hp
  simp [results, h, hp', asAddr, run_loadVar_row w g t ty cs fr d hg hu hd hi]

theorem oneB (l : List UInt8) : (l.map Bv).toArray.all (·.oneCell') = true := all_oneCell_toArray (by simp; intros; rfl)
theorem oneB' (l : List UInt8) : ∀ v ∈ l.map Bv, v.oneCell' = true := by simp; intros; rfl


theorem setCells_other (b : Nat) : ∀ (vs : List Value) (o : Nat) (w : World) (k : Nat), k ≠ b → (w.setCells b o vs).heap[k]? = w.heap[k]?
  | [], _, _, _, _ => rfl
  | v :: vs, o, w, k, h => by
    show ((w.setCell ⟨b, o, none⟩ v).setCells b (o + 1) vs).heap[k]? = _
    rw [setCells_other b vs (o + 1) _ k h]
    exact heap_setCell_other _ _ _ _ h
theorem setCells_size (b : Nat) : ∀ (vs : List Value) (o : Nat) (w : World), (w.setCells b o vs).heap.size = w.heap.size
  | [], _, _ => rfl
  | v :: vs, o, w => by
    show ((w.setCell ⟨b, o, none⟩ v).setCells b (o + 1) vs).heap.size = _
    rw [setCells_size b vs (o + 1)]
    simp [World.setCell]
theorem setCells_same (b : Nat) : ∀ (vs : List Value) (o : Nat) (w : World), (w.setCells b o vs).os = w.os ∧ (w.setCells b o vs).tape = w.tape ∧ (w.setCells b o vs).output = w.output
  | [], _, _ => ⟨rfl, rfl, rfl⟩
  | v :: vs, o, w => setCells_same b vs (o + 1) (w.setCell ⟨b, o, none⟩ v)
theorem Row.setCells {g : Nat} {t : TypeId} : ∀ (vs : List Value) (o : Nat) {w : World} {cs : List Value}, Row w g cs t → o + vs.length ≤ cs.length → Row (w.setCells g o vs) g (cs.take o ++ (vs ++ cs.drop (o + vs.length))) t
  | [], o, w, cs, h, _ => by simpa [World.setCells] using h
  | v :: vs, o, w, cs, h, hl => by
    simp only [List.length_cons] at hl
    have ih := Row.setCells vs (o + 1) (h.set o v) (by simp; omega)
    have hlt : o < cs.length := by omega
    rw [List.drop_set_of_lt (by omega), List.take_set, List.take_succ_eq_append_getElem hlt, List.set_append_right _ _ (by simp; omega)] at ih
    have e1 : o - (List.take o cs).length = 0 := by simp; omega
    rw [e1] at ih
    simp only [List.set_cons_zero, List.append_assoc, List.cons_append, List.nil_append] at ih
    have e2 : o + 1 + vs.length = o + (v :: vs).length := by simp; omega
    rw [e2] at ih
    exact ih
theorem runs_store_at {P : Program} {o : Oper} {a : Act} {w : World} (ty : TypeId) (x y : Operand) (ho : o.op = .store ty x y)
    (g off : Nat) (hx : a.eval x = .pointer (some ⟨g, off, none⟩)) (cs : List Value) (hy : a.eval y = .agg cs.toArray) {t : TypeId} {old : List Value} (hg : Row w g old t) (n : Nat) (hn : cs.length = n) (hfit : off + n ≤ old.length)
    (hi : (P.info? ty).map (·.size) = some n) (h1 : ∀ v ∈ cs, v.oneCell' = true) : (execOp a.eval o).run P w = .ok .skip (w.setCells g off cs) := by
  have ht : w.there g off cs.toArray.size := fun j hj => by
    have hj' : off + j < old.length := by simp at hj; omega
    exact ⟨by rw [hg.cell]; simp [hj'], hg.thaw _⟩
  unfold execOp
  simp only [ho, hx, hy, Sem.run_bind, run_storeAt_mid (P := P) w g off ty cs.toArray ht (by simp [hi, hn]) (all_oneCell_toArray h1), Result.andThen_ok, Sem.run_pure]
theorem step_append_at {P : Program} {w : World} {ops : Array Oper} {o : Oper} {a : Act} {K : Act → World → Prop} {Q : Exit → Act → World → Prop} {E : Prop} (hgd : o.guard = none) (s x : Operand) (t : TypeId)
    (ho : o.op = .call { callee := .builtin .append, args := #[s, x], argTypes := #[t, t] })
    (base : Nat) (e : TypeId) (i : TypeInfo) (z : Value) (size bytes : Nat) (ht : P.underlying t = some (.slice e)) (hi : P.info? e = some i) (hz : i.zero = some z)
    (hsize : i.size = size) (hby : i.bytes = bytes) (hzs : z.cells.size = size) (hsz : 0 < size)
    (v : Value) (n : Nat) (xs : List Value) (hs : a.eval s = v) (hown : w.ownsRow base e size v n xs)
    (ad : Addr) (m c : Nat) (news : List Value) (hx : a.eval x = .slice (some ad) m c) (hl : news.length = m * size) (hnews : ∀ j u, news[j]? = some u → w.cell? (ad.add j) = some u) (h1 : ∀ u ∈ news, u.oneCell' = true)
    (h63 : n + m ≤ maxLen) (hbytes : (n + m) * bytes ≤ 140737488355328) (hbase : base ≤ w.heap.size)
    (h : ∀ v' w', w'.ownsRow base e size v' (n + m) (xs ++ news) → w.grownBy w' v.ownBlock → (v' = .slice none 0 0 ↔ v = .slice none 0 0 ∧ m = 0) → (v'.ownBlock = v.ownBlock ∨ v'.ownBlock = some w.heap.size) → K (a.put o.dst v') w') :
    if Region.wanted o (yielded ops a.tmps) = true then Oper.wp P o a w K Q else E := by
  have hw : Region.wanted o (yielded ops a.tmps) = true := by simp [Region.wanted, hgd]
  rw [if_pos hw]
  obtain ⟨v', w', hr, h2, h3, h4, h5⟩ := run_append_own_at (P := P) w base t o.type e i z size bytes ht hi hz hsize hby hzs hsz v n xs hown ad m c news hl hnews h1 h63 hbytes hbase
  unfold Oper.wp execOp
  simp only [ho, resolve, invoke, builtin, Sem.run_bind, Sem.run_pure, Result.andThen_ok, List.map_toArray, List.map_cons, List.map_nil, hs, hx, hr]
  exact h v' w' h2 h3 h4 h5


theorem size_info {P : Program} {E s : Nat} (h : (P.info? E).map (·.size) = some s) : ∃ j, P.info? E = some j ∧ j.size = s := by
  cases hq : P.info? E with
  | none => simp [hq] at h
  | some j => exact ⟨j, rfl, by simpa [hq] using h⟩
/-- An empty slice that is not nil. -/
theorem runs_buildSlice_none {P : Program} {o : Oper} {a : Act} (w : World) {T E : TypeId} (ho : o.op = .buildSlice T 0 #[]) (hT : P.underlying T = some (.slice E)) {z : Value} {n by_ : Nat} (hz : (P.info? E).map (fun i => (i.zero, i.size, i.bytes)) = some (some z, n, by_)) :
    (execOp a.eval o).run P w = .ok (.value (.slice (some ⟨w.heap.size, 0, none⟩) 0 0)) (w.alloc (.cells #[] E)) := by
  obtain ⟨i, hi, _, _, _⟩ := info_parts hz
  unfold execOp
  simp [ho, Instr.buildSlice, sizeOf, typeInfo, underlying, program, Sem.run, hi, hT, Bind.bind, Sem.bind, pure, Instr.fill, newRow, newObj]
  rw [show Array.map (fun _ => (default : Value)) (Array.range 0) = #[] by simp]
theorem owns_empty (w : World) (E : TypeId) : (w.drew.alloc (.cells #[] E)).ownsRow 0 E 1 (.slice (some ⟨w.heap.size, 0, none⟩) 0 0) 0 [] :=
  ⟨rfl, .inr ⟨w.heap.size, 0, #[], rfl, Nat.zero_le _, heap_alloc_new w.drew _, Nat.le_refl _, by unfold maxLen; omega, rfl, rfl⟩⟩
/-- An array's first cells. -/
theorem runs_slice_to {P : Program} {o : Oper} {a : Act} {T : TypeId} (x h : Operand) (ho : o.op = .slice T x none (some h) none) (g off n len E : Nat) (hT : P.underlying T = some (.array len E)) (hE : (P.info? E).map (·.size) = some 1)
    (hx : a.eval x = .pointer (some ⟨g, off, none⟩)) (hh : a.eval h = .int .i64 n) (hn : n ≤ len) (w : World) :
    (execOp a.eval o).run P w = .ok (.value (.slice (some ⟨g, off, none⟩) n len)) w := by
  obtain ⟨i, hi, hs⟩ := size_info hE
  unfold execOp
  simp [ho, hx, hh, Instr.sliceAt, Instr.sureAddr, Instr.sliceBounds, Instr.sliceBound, asIntOf, sizeOf, typeInfo, underlying, program, Sem.run, hi, hT, Bind.bind, Sem.bind, pure, hn, Addr.add]
/-- An array's cells from one on. -/
theorem runs_slice_from {P : Program} {o : Oper} {a : Act} {T : TypeId} (x h : Operand) (ho : o.op = .slice T x (some h) none none) (g n len E : Nat) (hT : P.underlying T = some (.array len E)) (hE : (P.info? E).map (·.size) = some 1)
    (hx : a.eval x = .pointer (some ⟨g, 0, none⟩)) (hh : a.eval h = .int .i64 n) (hn : n ≤ len) (offn : Nat) (hoff : offn = if n = len then 0 else n) (w : World) :
    (execOp a.eval o).run P w = .ok (.value (.slice (some ⟨g, offn, none⟩) (len - n) (len - n))) w := by
  obtain ⟨i, hi, hs⟩ := size_info hE
  subst hoff
  unfold execOp
  by_cases h64 : n = len
  · have h64' : len = n := h64.symm
    simp [ho, hx, hh, Instr.sliceAt, Instr.sureAddr, Instr.sliceBounds, Instr.sliceBound, asIntOf, sizeOf, typeInfo, underlying, program, Sem.run, hi, hT, Bind.bind, Sem.bind, pure, h64']
  · have h64' : ¬ len = n := fun e => h64 e.symm
    simp [ho, hx, hh, Instr.sliceAt, Instr.sureAddr, Instr.sliceBounds, Instr.sliceBound, asIntOf, sizeOf, typeInfo, underlying, program, Sem.run, hi, hT, Bind.bind, Sem.bind, pure, hn, h64, h64', hs, Addr.add]
    exact fun e => e.symm
theorem runs_arrayAt {P : Program} {o : Oper} {a : Act} (T : TypeId) (x : Operand) (ho : o.op = .sliceToArrayPointer T x) (n E : Nat) (hT : P.underlying T = some (.array n E)) (ad : Option Addr) (len cap : Nat) (hx : a.eval x = .slice ad len cap) (hn : n ≤ len) (w : World) :
    (execOp a.eval o).run P w = .ok (.value (.pointer ad)) w := by
  unfold execOp
  have : ¬ len < n := by omega
  simp [ho, hx, Instr.arrayAt, underlying, program, Sem.run, hT, Bind.bind, Sem.bind, pure, this]
theorem below8 {w w8 : World} {o : Obj} (h : (w.drew.alloc o).grownBy w8 (some w.heap.size)) : Below w.heap.size w w8 :=
  ((Below.refl w.heap.size w).drew.alloc (Nat.le_refl _) o).grown h (by simp) (by simp)
theorem below13 {w w8 w13 : World} {v : Value} {n : Nat} (hb : Below w.heap.size w w8) (h : w8.grownBy w13 v.ownBlock) (hat : v.ownBlock = some w.heap.size ∨ v.ownBlock = some n) (hn : w.heap.size ≤ n) : Below w.heap.size w w13 :=
  hb.grown h hb.size fun k hk => by
    rcases hat with e | e
    · rw [e] at hk; cases hk; exact Nat.le_refl _
    · rw [e] at hk; cases hk; exact hn

end Go.Proofs.Ytpddbffamejgeaa
