/- The disk as it lies in memory: words and small lemmas, without the dump. -/
import Derived.Test.YtpddbffamejgeaaB
import Derived.Maps.AppendAt
namespace Go.Proofs.Ytpddbffamejgeaa
open Go.RowKit

abbrev Sec := List UInt8
abbrev zeros : Sec := zeros64
theorem length_zeros : zeros.length = 64 := rfl

/-! ### A map with int keys -/
def isKey (k : Int) (e : MapEntry) : Bool := match e.key with | .int .i64 a => a == k | _ => false
def mget (es : List MapEntry) (k : Int) : Option Value := (es.find? (isKey k)).map (·.val)
def KeysOK (es : List MapEntry) : Prop := ∀ e ∈ es, ∃ a, e.key = .int .i64 a

theorem findNow_get (k : Int) : ∀ (es : List MapEntry) (i : Nat), KeysOK es → ∃ r, Instr.findNow (.int .i64) (.int .i64 k) es i = some r ∧ r.map (·.2) = mget es k ∧
    (∀ j v, r = some (j, v) → i ≤ j ∧ j - i < es.length ∧ (∃ e, es[j - i]? = some e ∧ e.key = .int .i64 k) ∧ ∀ n, n < j - i → ∀ e, es[n]? = some e → isKey k e = false)
  | [], i, _ => ⟨none, rfl, rfl, fun _ _ h => by cases h⟩
  | e :: es, i, h => by
    obtain ⟨a, ha⟩ := h e (by simp)
    have hk : isKey k e = (a == k) := by simp [isKey, ha]
    by_cases hak : a = k
    · refine ⟨some (i, e.val), ?_, ?_, ?_⟩
      · simp [Instr.findNow, Instr.sameNow, ha, hak]
      · simp [mget, hk, hak]
      · intro j v hj
        simp at hj
        obtain ⟨rfl, _⟩ := hj
        refine ⟨Nat.le_refl _, by simp, ⟨e, by simp, by rw [ha, hak]⟩, fun n hn => by omega⟩
    · obtain ⟨r, hr, hm, hj⟩ := findNow_get k es (i + 1) (fun x hx => h x (by simp [hx]))
      have hka : (k == a) = false := by simp; exact fun e => hak e.symm
      refine ⟨r, ?_, ?_, ?_⟩
      · simp [Instr.findNow, Instr.sameNow, ha, hka, hr]
      · rw [hm]; simp [mget, hk, hak]
      · intro j v hjv
        obtain ⟨h1, h2, ⟨e', he', hke'⟩, h3⟩ := hj j v hjv
        have hs : j - i = (j - (i + 1)) + 1 := by omega
        refine ⟨by omega, by simp; omega, ⟨e', by rw [hs]; simpa using he', hke'⟩, ?_⟩
        intro n hn x hx
        cases n with
        | zero => simp at hx; subst hx; rw [hk]; simpa using hak
        | succ n => simp at hx; exact h3 n (by omega) x hx

section
variable {P : Program} {T K E : TypeId}
theorem run_checkKey_int' (hK : P.underlying K = some (.int .i64)) (b : Bool) (k : Int) (w : World) (n : Nat) : (Instr.checkKey b (n + 1) K (.int .i64 k)).run P w = .ok () w := by
  unfold Instr.checkKey
  rw [Sem.run_bind, run_underlying hK w]
  rfl
theorem run_checkKey_int (hK : P.underlying K = some (.int .i64)) (b : Bool) (k : Int) (w : World) : (Instr.checkKey b 10000 K (.int .i64 k)).run P w = .ok () w := run_checkKey_int' hK b k w 9999
theorem run_findKey (hK : P.underlying K = some (.int .i64)) (es : List MapEntry) (hes : KeysOK es) (k : Int) (w : World) : ∃ r, (Instr.findKey K (.int .i64 k) es).run P w = .ok r w ∧ Instr.findNow (.int .i64) (.int .i64 k) es 0 = some r := by
  obtain ⟨r, hr, _⟩ := findNow_get k es 0 hes
  exact ⟨r, by simp [Instr.findKey, Sem.run_bind, run_underlying hK w, hr], hr⟩
theorem run_lookup_int (hT : P.underlying T = some (.map K E)) (hK : P.underlying K = some (.int .i64)) {w : World} {M : Nat} {es : Array MapEntry} {clock : Nat} (hM : w.heap[M]? = some (.map es clock)) (hes : KeysOK es.toList)
    {z : Value} (hz : (zeroValue E).run P w = .ok z w) (k : Int) :
    (Instr.lookup T (.map (some M)) (.int .i64 k) false).run P w = .ok ((mget es.toList k).getD z) w := by
  obtain ⟨r, hr, hf⟩ := run_findKey (P := P) hK es.toList hes k w
  obtain ⟨r', hf', hm, _⟩ := findNow_get k es.toList 0 hes
  obtain rfl : r' = r := by rw [hf] at hf'; cases hf'; rfl
  have hg : (getObj M).run P w = .ok (.map es clock) w := by simp [getObj, Sem.run, hM]
  rw [← hm]
  simp only [Instr.lookup, Sem.run_bind, run_underlying hT w, Result.andThen_ok, hg, run_checkKey_int hK, hr, Sem.run_pure]
  cases r' with
  | none => simp [hz]
  | some x => simp
theorem sameBits_int (k : Int) : Instr.sameBits 10000 (.int .i64 k) (.int .i64 k) = true := by
  unfold Instr.sameBits; simp
theorem mget_push (es : List MapEntry) (k : Int) (v : Value) (b : Nat) (h : mget es k = none) (j : Int) : mget (es ++ [{ key := .int .i64 k, val := v, born := b }]) j = if j = k then some v else mget es j := by
  unfold mget at *
  rw [List.find?_append]
  by_cases hjk : j = k
  · subst hjk
    cases hf : es.find? (isKey j) with
    | some x => simp [hf] at h
    | none => simp [isKey]
  · have : (k == j) = false := by simp; exact fun e => hjk e.symm
    cases hf : es.find? (isKey j) with
    | some x => simp [hjk]
    | none => simp [isKey, this, hjk]
theorem mget_modify : ∀ (es : List MapEntry) (k : Int) (v : Value) (i : Nat) (e : MapEntry), es[i]? = some e → e.key = .int .i64 k → (∀ n, n < i → ∀ x, es[n]? = some x → isKey k x = false) →
    ∀ j, mget (es.modify i fun e => { e with key := .int .i64 k, val := v }) j = if j = k then some v else mget es j
  | [], k, v, i, e, h, _, _ => by simp at h
  | x :: es, k, v, 0, e, h, hk, _ => by
    simp at h; subst h
    intro j
    by_cases hjk : j = k
    · subst hjk; simp [mget, isKey]
    · have : (k == j) = false := by simp; exact fun e => hjk e.symm
      simp [mget, isKey, hk, this, hjk]
  | x :: es, k, v, i + 1, e, h, hk, hn => by
    intro j
    have ih := mget_modify es k v i e (by simpa using h) hk (fun n hn' y hy => hn (n + 1) (by omega) y (by simpa using hy)) j
    have hx := hn 0 (by omega) x (by simp)
    by_cases hjk : j = k
    · subst hjk
      simp only [mget, List.modify_succ_cons, List.find?_cons, hx] at *
      exact ih
    · simp only [mget, List.modify_succ_cons, List.find?_cons] at *
      cases hxj : isKey j x
      · exact ih
      · simp [hjk]
theorem keysOK_modify {es : List MapEntry} (h : KeysOK es) (i : Nat) (k : Int) (v : Value) : KeysOK (es.modify i fun e => { e with key := .int .i64 k, val := v }) := by
  intro e he
  rw [List.mem_iff_getElem?] at he
  obtain ⟨n, hn⟩ := he
  rw [List.getElem?_modify] at hn
  by_cases hin : i = n
  · simp [hin] at hn; obtain ⟨x, _, rfl⟩ := hn; exact ⟨k, rfl⟩
  · simp [hin] at hn; exact h e (List.mem_of_getElem? hn)
theorem run_mapUpdate_int (hT : P.underlying T = some (.map K E)) (hK : P.underlying K = some (.int .i64)) {w : World} {M : Nat} {es : Array MapEntry} {clock : Nat} (hM : w.heap[M]? = some (.map es clock)) (hes : KeysOK es.toList)
    (k : Int) (v : Value) : ∃ es' clock', (Instr.mapUpdate T (.map (some M)) (.int .i64 k) v).run P w = .ok () { w with heap := w.heap.setIfInBounds M (.map es' clock') } ∧ KeysOK es'.toList ∧
      ∀ j, mget es'.toList j = if j = k then some v else mget es.toList j := by
  obtain ⟨r, hr, hf⟩ := run_findKey (P := P) hK es.toList hes k w
  obtain ⟨r', hf', hm, hat⟩ := findNow_get k es.toList 0 hes
  obtain rfl : r' = r := by rw [hf] at hf'; cases hf'; rfl
  have hg : (getObj M).run P w = .ok (.map es clock) w := by simp [getObj, Sem.run, hM]
  have hs : ∀ o, (setObj M o).run P w = .ok () { w with heap := w.heap.setIfInBounds M o } := fun o => by simp [setObj, Sem.run, hM]
  cases r' with
  | none =>
    refine ⟨es.push { key := .int .i64 k, val := v, born := clock }, clock + 1, ?_, ?_, ?_⟩
    · simp only [Instr.mapUpdate, Sem.run_bind, run_underlying hT w, Result.andThen_ok, hg, run_checkKey_int hK, hr, hs]
    · intro e he
      simp at he
      rcases he with he | rfl
      · exact hes e (by simpa using he)
      · exact ⟨k, rfl⟩
    · intro j
      simp only [Array.toList_push]
      exact mget_push _ _ _ _ (by rw [← hm]; rfl) j
  | some x =>
    obtain ⟨i, y⟩ := x
    obtain ⟨_, hlt, ⟨e, he, hke⟩, hn⟩ := hat i y rfl
    simp only [Nat.sub_zero] at *
    have he' : es[i]? = some e := by simpa using he
    refine ⟨es.modify i fun e => { e with key := .int .i64 k, val := v }, clock, ?_, ?_, ?_⟩
    · simp only [Instr.mapUpdate, Sem.run_bind, run_underlying hT w, Result.andThen_ok, hg, run_checkKey_int hK, hr, he', Option.map_some, Option.getD_some, hke, Instr.keyThatStays, sameBits_int, if_true, Sem.run_pure, hs]
    · rw [Array.toList_modify]; exact keysOK_modify hes i k v
    · rw [Array.toList_modify]; exact mget_modify es.toList k v i e he hke hn
end

/-! ### The map as a block -/
def MapAt (w : World) (M : Nat) (f : Int → Option Value) : Prop := ∃ es clock, w.heap[M]? = some (.map es clock) ∧ KeysOK es.toList ∧ ∀ k, mget es.toList k = f k
def upd (f : Int → Option Value) (k : Int) (v : Value) : Int → Option Value := fun j => if j = k then some v else f j
theorem MapAt.of_block {w w' : World} {M : Nat} {f : Int → Option Value} (h : MapAt w M f) (e : w'.heap[M]? = w.heap[M]?) : MapAt w' M f := by
  obtain ⟨es, c, h1, h2⟩ := h; exact ⟨es, c, e.trans h1, h2⟩
theorem MapAt.lt {w : World} {M : Nat} {f : Int → Option Value} (h : MapAt w M f) : M < w.heap.size := by
  obtain ⟨es, c, h1, h2⟩ := h
  by_cases hlt : M < w.heap.size
  · exact hlt
  · rw [Array.getElem?_eq_none (by omega)] at h1; cases h1
theorem MapAt.new (w : World) : MapAt (w.alloc (.map #[] 0)) w.heap.size (fun _ => none) := ⟨#[], 0, heap_alloc_new w _, fun e h => by simp at h, fun k => rfl⟩
theorem MapAt.lookup {P : Program} {T K E : TypeId} (hT : P.underlying T = some (.map K E)) (hK : P.underlying K = some (.int .i64)) {w : World} {M : Nat} {f : Int → Option Value} (h : MapAt w M f)
    {z : Value} (hz : (zeroValue E).run P w = .ok z w) (k : Int) : (Instr.lookup T (.map (some M)) (.int .i64 k) false).run P w = .ok ((f k).getD z) w := by
  obtain ⟨es, c, h1, h2, h3⟩ := h
  rw [run_lookup_int hT hK h1 h2 hz, h3]
theorem MapAt.update {P : Program} {T K E : TypeId} (hT : P.underlying T = some (.map K E)) (hK : P.underlying K = some (.int .i64)) {w : World} {M : Nat} {f : Int → Option Value} (h : MapAt w M f) (k : Int) (v : Value) :
    ∃ w', (Instr.mapUpdate T (.map (some M)) (.int .i64 k) v).run P w = .ok () w' ∧ MapAt w' M (upd f k v) ∧ w.grownBy w' (some M) ∧ w'.heap.size = w.heap.size ∧ w'.drawn = w.drawn := by
  have hlt := h.lt
  obtain ⟨es, c, h1, h2, h3⟩ := h
  obtain ⟨es', c', hr, h4, h5⟩ := run_mapUpdate_int hT hK h1 h2 k v
  refine ⟨_, hr, ⟨es', c', ?_, h4, fun j => ?_⟩, ⟨rfl, rfl, rfl, by simp, fun j hj hne => ?_⟩, by simp, rfl⟩
  · simp [hlt]
  · rw [h5]; unfold upd; rw [h3]
  · simp only [Array.getElem?_setIfInBounds]
    rw [if_neg (by rintro rfl; exact hne rfl)]

/-! ### The disk -/
/-- Whose a block is. -/
inductive Own where
  | disk | map | way | fuse | shp (at_ : Int)
/-- The cells of some sectors. -/
def secs (l : List Sec) : List Value := l.flatten.map Bv
def tcells (l : List (Nat × Nat)) : List Value := l.flatMap fun t => [.int .i64 (t.1 : Int), .int .i64 (t.2 : Int)]

def ShapeRep (w : World) (role : Nat → Option Own) (at_ : Int) (base : Sec) (rest : List Sec) : Option Value → Prop
  | none => base = zeros ∧ rest = []
  | some v => w.ownsRow 0 34 64 v (1 + rest.length) (secs (base :: rest)) ∧ ∀ g, v.ownBlock = some g → role g = some (.shp at_)

def FuseRep (w : World) (role : Nat → Option Own) : Value → Option Nat → Prop
  | v, none => v = .pointer none
  | v, some n => n ≤ 9223372036854775807 ∧ ∃ g, v = .pointer (some ⟨g, 0, none⟩) ∧ role g = some .fuse ∧ ∃ t, Row w g [.int .i64 (n : Int)] t

structure RepX (w : World) (p : Nat) (role : Nat → Option Own) (M : Nat) (wayV actsV : Value) (f : Int → Option Value) (size : Nat) (base : Nat → Sec) (rest : Nat → List Sec) (tick : List (Nat × Nat)) (fuse : Option Nat) (dead : Bool) : Prop where
  rp : role p = some .disk
  row : Row w p [.map (some M), .int .i64 (size : Int), wayV, actsV, .bool dead] 121
  rM : role M = some .map
  map : MapAt w M f
  way : w.ownsRow 0 126 2 wayV tick.length (tcells tick)
  rway : ∀ g, wayV.ownBlock = some g → role g = some .way
  fuse : FuseRep w role actsV fuse
  shape : ∀ k : Nat, ShapeRep w role k (base k) (rest k) (f k)
  len : ∀ k, (base k).length = 64 ∧ ∀ s ∈ rest k, s.length = 64
  sz : size ≤ 2048
  inn : ∀ k, role k ≠ none → k < w.heap.size

theorem ownsRow_of_block {w w' : World} {b : Nat} {e : TypeId} {size : Nat} {v : Value} {n : Nat} {xs : List Value} (h : w.ownsRow b e size v n xs) (hb : ∀ g, v.ownBlock = some g → w'.heap[g]? = w.heap[g]?) : w'.ownsRow b e size v n xs := by
  obtain ⟨h1, h2⟩ := h
  refine ⟨h1, ?_⟩
  rcases h2 with h2 | ⟨g, cap, cur, hv, hg, hh, r⟩
  · exact Or.inl h2
  · exact Or.inr ⟨g, cap, cur, hv, hg, by rw [hb g (by rw [hv]; rfl)]; exact hh, r⟩
theorem ShapeRep.of_block {w w' : World} {role : Nat → Option Own} {at_ : Int} {base : Sec} {rest : List Sec} {o : Option Value} (h : ShapeRep w role at_ base rest o) (e : ∀ k, role k = some (.shp at_) → w'.heap[k]? = w.heap[k]?) : ShapeRep w' role at_ base rest o := by
  cases o with
  | none => exact h
  | some v => exact ⟨ownsRow_of_block h.1 fun g hg => e g (h.2 g hg), h.2⟩
theorem FuseRep.of_block {w w' : World} {role : Nat → Option Own} {v : Value} {o : Option Nat} (h : FuseRep w role v o) (e : ∀ k, role k = some .fuse → w'.heap[k]? = w.heap[k]?) : FuseRep w' role v o := by
  cases o with
  | none => exact h
  | some n => obtain ⟨h0, g, h1, h2, t, h3⟩ := h; exact ⟨h0, g, h1, h2, t, h3.of_block (e g h2)⟩
/-- The blocks of the disk as they were: the disk as it was. -/
theorem RepX.keep {w w' : World} {p : Nat} {role : Nat → Option Own} {M : Nat} {wayV actsV : Value} {f : Int → Option Value} {size : Nat} {base : Nat → Sec} {rest : Nat → List Sec} {tick : List (Nat × Nat)} {fuse : Option Nat} {dead : Bool}
    (h : RepX w p role M wayV actsV f size base rest tick fuse dead) (e : ∀ k, role k ≠ none → w'.heap[k]? = w.heap[k]?) (hs : w.heap.size ≤ w'.heap.size) : RepX w' p role M wayV actsV f size base rest tick fuse dead where
  rp := h.rp
  row := h.row.of_block (e p (by rw [h.rp]; simp))
  rM := h.rM
  map := h.map.of_block (e M (by rw [h.rM]; simp))
  way := ownsRow_of_block h.way fun g hg => e g (by rw [h.rway g hg]; simp)
  rway := h.rway
  fuse := h.fuse.of_block fun k hk => e k (by rw [hk]; simp)
  shape := fun k => (h.shape k).of_block fun g hg => e g (by rw [hg]; simp)
  len := h.len
  sz := h.sz
  inn := fun k hk => Nat.lt_of_lt_of_le (h.inn k hk) hs
theorem RepX.below {w w' : World} {p : Nat} {role : Nat → Option Own} {M : Nat} {wayV actsV : Value} {f : Int → Option Value} {size : Nat} {base : Nat → Sec} {rest : Nat → List Sec} {tick : List (Nat × Nat)} {fuse : Option Nat} {dead : Bool}
    (h : RepX w p role M wayV actsV f size base rest tick fuse dead) (hb : Below w.heap.size w w') : RepX w' p role M wayV actsV f size base rest tick fuse dead :=
  h.keep (fun k hk => hb.block k (h.inn k hk)) hb.size

/-- What has happened to memory: nothing outside the disk's blocks; its blocks are those that it had, and new ones. -/
structure Moves (w : World) (role : Nat → Option Own) (w' : World) (role' : Nat → Option Own) : Prop where
  os : w'.os = w.os
  tape : w'.tape = w.tape
  output : w'.output = w.output
  size : w.heap.size ≤ w'.heap.size
  block : ∀ k, k < w.heap.size → role k = none → w'.heap[k]? = w.heap[k]?
  old : ∀ k, k < w.heap.size → role k = none → role' k = none
theorem Moves.refl (w : World) (role : Nat → Option Own) : Moves w role w role := ⟨rfl, rfl, rfl, Nat.le_refl _, fun _ _ _ => rfl, fun _ _ h => h⟩
theorem Moves.trans {a b c : World} {r s t : Nat → Option Own} (h : Moves a r b s) (k : Moves b s c t) : Moves a r c t :=
  ⟨k.os.trans h.os, k.tape.trans h.tape, k.output.trans h.output, Nat.le_trans h.size k.size,
    fun i hi hr => (k.block i (Nat.lt_of_lt_of_le hi h.size) (h.old i hi hr)).trans (h.block i hi hr), fun i hi hr => k.old i (Nat.lt_of_lt_of_le hi h.size) (h.old i hi hr)⟩
theorem Moves.of_below {w w' : World} {role : Nat → Option Own} (h : Below w.heap.size w w') : Moves w role w' role := ⟨h.os, h.tape, h.output, h.size, fun k hk _ => h.block k hk, fun _ _ h => h⟩
theorem Moves.of_grown {w w' : World} {role : Nat → Option Own} {row : Option Nat} (h : w.grownBy w' row) (hr : ∀ k, row = some k → role k ≠ none) : Moves w role w' role :=
  ⟨h.os, h.tape, h.output, h.size, fun k hk hn => h.block k hk (by rintro rfl; exact hr k rfl hn), fun _ _ h => h⟩
theorem Moves.setCell {w : World} {role : Nat → Option Own} (a : Addr) (v : Value) (h : role a.block ≠ none) : Moves w role (w.setCell a v) role :=
  ⟨rfl, rfl, rfl, by simp [World.setCell], fun k _ hn => heap_setCell_other w a k v (by rintro rfl; exact h hn), fun _ _ h => h⟩
theorem Moves.row {w w' : World} {role role' : Nat → Option Own} (h : Moves w role w' role') {g : Nat} {cs : List Value} {t : TypeId} (hr : Row w g cs t) (hn : role g = none) : Row w' g cs t := hr.of_block (h.block g hr.lt hn)
theorem Moves.src {w w' : World} {role role' : Nat → Option Own} (h : Moves w role w' role') {pa : Option Addr} {l : List Value} (hs : Src w pa l) (hn : ∀ ad, pa = some ad → role ad.block = none) : Src w' pa l := hs.of_block fun ad e hlt => h.block _ hlt (hn ad e)
/-- A law that works within new blocks and the disk's. -/
theorem Moves.below {w w' : World} {role role' : Nat → Option Own} (h : Moves w role w' role') {B : Nat} (hB : ∀ k, k < B → k < w.heap.size ∧ role k = none) : Below B w w' :=
  ⟨h.os, h.tape, h.output, h.size, fun k hk => h.block k (hB k hk).1 (hB k hk).2⟩


/-- The cells of the j-th of some sectors. -/
theorem secs_at : ∀ (l : List Sec) (j : Nat) (s : Sec), (∀ x ∈ l, x.length = 64) → l[j]? = some s → ∀ n v, (s.map Bv)[n]? = some v → (secs l)[j * 64 + n]? = some v
  | [], j, s, _, h, _, _, _ => by simp at h
  | x :: l, 0, s, hl, h, n, v, hv => by
    simp at h; subst h
    have hx := hl x (by simp)
    have hn : n < x.length := by
      by_cases hn : n < x.length
      · exact hn
      · rw [List.getElem?_eq_none (by simp; omega)] at hv; cases hv
    simp only [secs, List.flatten_cons, List.map_append, Nat.zero_mul, Nat.zero_add]
    rw [List.getElem?_append_left (by simpa using hn)]
    exact hv
  | x :: l, j + 1, s, hl, h, n, v, hv => by
    have hx := hl x (by simp)
    have ih := secs_at l j s (fun y hy => hl y (by simp [hy])) (by simpa using h) n v hv
    simp only [secs, List.flatten_cons, List.map_append] at *
    rw [List.getElem?_append_right (by simp [hx]; omega)]
    rw [← ih]
    congr 1
    simp [hx]; omega
theorem length_secs : ∀ (l : List Sec), (∀ x ∈ l, x.length = 64) → (secs l).length = l.length * 64
  | [], _ => rfl
  | x :: l, hl => by
    have hx := hl x (by simp)
    have ih := length_secs l (fun y hy => hl y (by simp [hy]))
    simp only [secs, List.flatten_cons, List.map_append, List.length_append, List.length_map, List.length_cons] at *
    omega
theorem secs_append (l r : List Sec) : secs (l ++ r) = secs l ++ secs r := by simp [secs]

/-- What a slice that owns its cells looks like. -/
theorem owns_some {w : World} {e : TypeId} {size : Nat} {v : Value} {n : Nat} {xs : List Value} (h : w.ownsRow 0 e size v n xs) (hn : 0 < n) :
    ∃ g cap cur, v = .slice (some ⟨g, 0, none⟩) n cap ∧ Row w g cur e ∧ n ≤ cap ∧ cap ≤ maxLen ∧ cur.length = cap * size ∧ cur.take (n * size) = xs := by
  obtain ⟨_, h2⟩ := h
  rcases h2 with ⟨_, h0⟩ | ⟨g, cap, cur, hv, _, hh, h1, h2, h3, h4⟩
  · omega
  · exact ⟨g, cap, cur.toList, hv, by simpa [Row] using hh, h1, h2, by simpa using h3, h4⟩
theorem take_get {cur xs : List Value} {m j : Nat} {v : Value} (h : cur.take m = xs) (hv : xs[j]? = some v) : cur[j]? = some v := by
  subst h
  rw [List.getElem?_take] at hv
  split at hv
  · exact hv
  · cases hv


/-- The disk's own block written, or its fuse: the sectors as they were. -/
theorem RepX.field {w w' : World} {p : Nat} {role : Nat → Option Own} {M : Nat} {wayV actsV : Value} {f : Int → Option Value} {size : Nat} {base : Nat → Sec} {rest : Nat → List Sec} {tick : List (Nat × Nat)} {fuse : Option Nat} {dead : Bool}
    (h : RepX w p role M wayV actsV f size base rest tick fuse dead) {actsV' : Value} {fuse' : Option Nat} {dead' : Bool}
    (hrow : Row w' p [.map (some M), .int .i64 (size : Int), wayV, actsV', .bool dead'] 121)
    (e : ∀ k, role k ≠ none → k ≠ p → role k ≠ some .fuse → w'.heap[k]? = w.heap[k]?) (hs : w.heap.size ≤ w'.heap.size) (hf : FuseRep w' role actsV' fuse') :
    RepX w' p role M wayV actsV' f size base rest tick fuse' dead' where
  rp := h.rp
  row := hrow
  rM := h.rM
  map := h.map.of_block (e M (by rw [h.rM]; simp) (by rintro rfl; have := h.rp; rw [h.rM] at this; cases this) (by rw [h.rM]; simp))
  way := ownsRow_of_block h.way fun g hg => e g (by rw [h.rway g hg]; simp) (by rintro rfl; have := h.rp; rw [h.rway g hg] at this; cases this) (by rw [h.rway g hg]; simp)
  rway := h.rway
  fuse := hf
  shape := fun k => (h.shape k).of_block fun g hg => e g (by rw [hg]; simp) (by rintro rfl; have := h.rp; rw [hg] at this; cases this) (by rw [hg]; simp)
  len := h.len
  sz := h.sz
  inn := fun k hk => Nat.lt_of_lt_of_le (h.inn k hk) hs
theorem RepX.setDead {w : World} {p : Nat} {role : Nat → Option Own} {M : Nat} {wayV actsV : Value} {f : Int → Option Value} {size : Nat} {base : Nat → Sec} {rest : Nat → List Sec} {tick : List (Nat × Nat)} {fuse : Option Nat} {dead : Bool}
    (h : RepX w p role M wayV actsV f size base rest tick fuse dead) (b : Bool) : RepX (w.setCell ⟨p, 4, none⟩ (.bool b)) p role M wayV actsV f size base rest tick fuse b :=
  h.field (h.row.set 4 (.bool b)) (fun k _ hne _ => heap_setCell_other _ _ _ _ hne) (by simp [World.setCell]) (h.fuse.of_block fun k hk => heap_setCell_other _ _ _ _ (by rintro rfl; have := h.rp; rw [hk] at this; cases this))
theorem RepX.setFuse {w : World} {p : Nat} {role : Nat → Option Own} {M : Nat} {wayV : Value} {g : Nat} {f : Int → Option Value} {size : Nat} {base : Nat → Sec} {rest : Nat → List Sec} {tick : List (Nat × Nat)} {fuse : Nat} {dead : Bool}
    (h : RepX w p role M wayV (.pointer (some ⟨g, 0, none⟩)) f size base rest tick (some fuse) dead) (n : Nat) (hn : n ≤ 9223372036854775807) : RepX (w.setCell ⟨g, 0, none⟩ (.int .i64 n)) p role M wayV (.pointer (some ⟨g, 0, none⟩)) f size base rest tick (some n) dead := by
  obtain ⟨_, g', hg', hr, t, hrow⟩ := h.fuse
  simp at hg'; subst hg'
  refine h.field (h.row.other _ _ (by rintro rfl; have := h.rp; rw [hr] at this; cases this)) (fun k _ _ hk => heap_setCell_other _ _ _ _ (by rintro rfl; exact hk hr)) (by simp [World.setCell]) ⟨hn, g, rfl, hr, t, hrow.set 0 _⟩


/-- The way is another one. -/
theorem RepX.otherWay {w w' : World} {p : Nat} {role role' : Nat → Option Own} {M : Nat} {wayV wayV' actsV : Value} {f : Int → Option Value} {size : Nat} {base : Nat → Sec} {rest : Nat → List Sec} {tick tick' : List (Nat × Nat)} {fuse : Option Nat} {dead : Bool}
    (h : RepX w p role M wayV actsV f size base rest tick fuse dead)
    (same : ∀ k, role k ≠ none → k ≠ p → role k ≠ some .way → w'.heap[k]? = w.heap[k]? ∧ role' k = role k) (rp : role' p = some .disk)
    (row : Row w' p [.map (some M), .int .i64 (size : Int), wayV', actsV, .bool dead] 121) (way : w'.ownsRow 0 126 2 wayV' tick'.length (tcells tick')) (rway : ∀ g, wayV'.ownBlock = some g → role' g = some .way)
    (inn : ∀ k, role' k ≠ none → k < w'.heap.size) : RepX w' p role' M wayV' actsV f size base rest tick' fuse dead where
  rp := rp
  row := row
  rM := by rw [(same M (by rw [h.rM]; simp) (by rintro rfl; have := h.rp; rw [h.rM] at this; cases this) (by rw [h.rM]; simp)).2]; exact h.rM
  map := h.map.of_block (same M (by rw [h.rM]; simp) (by rintro rfl; have := h.rp; rw [h.rM] at this; cases this) (by rw [h.rM]; simp)).1
  way := way
  rway := rway
  fuse := by
    have hf := h.fuse
    cases fuse with
    | none => exact hf
    | some n =>
      obtain ⟨h0, g, h1, h2, t, h3⟩ := hf
      have hs := same g (by rw [h2]; simp) (by rintro rfl; have := h.rp; rw [h2] at this; cases this) (by rw [h2]; simp)
      exact ⟨h0, g, h1, hs.2.trans h2, t, h3.of_block hs.1⟩
  shape := fun k => by
    have hs := h.shape k
    cases hf : f k with
    | none => rw [hf] at hs; exact hs
    | some v =>
      rw [hf] at hs
      have hg : ∀ g, v.ownBlock = some g → w'.heap[g]? = w.heap[g]? ∧ role' g = role g := fun g hg => same g (by rw [hs.2 g hg]; simp) (by rintro rfl; have := h.rp; rw [hs.2 _ hg] at this; cases this) (by rw [hs.2 g hg]; simp)
      exact ⟨ownsRow_of_block hs.1 fun g e => (hg g e).1, fun g e => (hg g e).2.trans (hs.2 g e)⟩
  len := h.len
  sz := h.sz
  inn := inn

/-- A new role for one block. -/
def roleSet (role : Nat → Option Own) (g : Nat) (o : Own) : Nat → Option Own := fun k => if k = g then some o else role k

theorem RepX.tickPush {w w2 : World} {p : Nat} {role : Nat → Option Own} {M : Nat} {wayV actsV : Value} {f : Int → Option Value} {size : Nat} {base : Nat → Sec} {rest : Nat → List Sec} {tick : List (Nat × Nat)} {fuse : Option Nat} {dead : Bool}
    (h : RepX w p role M wayV actsV f size base rest tick fuse dead) {o : Obj} {gg cap : Nat} {a b : Nat}
    (hown : w2.ownsRow 0 126 2 (.slice (some ⟨gg, 0, none⟩) (tick.length + 1) cap) (tick.length + 1) (tcells tick ++ [.int .i64 (a : Int), .int .i64 (b : Int)]))
    (hgrow : (w.alloc o).drew.grownBy w2 wayV.ownBlock) (hat : wayV.ownBlock = some gg ∨ gg = w.heap.size + 1) :
    RepX (w2.setCell ⟨p, 2, none⟩ (.slice (some ⟨gg, 0, none⟩) (tick.length + 1) cap)) p (roleSet role gg .way) M (.slice (some ⟨gg, 0, none⟩) (tick.length + 1) cap) actsV f size base rest (tick ++ [(a, b)]) fuse dead ∧
      Moves w role (w2.setCell ⟨p, 2, none⟩ (.slice (some ⟨gg, 0, none⟩) (tick.length + 1) cap)) (roleSet role gg .way) := by
  have hsz : w.heap.size + 1 ≤ w2.heap.size := by have := hgrow.size; simpa using this
  have hgs : gg < w2.heap.size := (hown.lt gg rfl).2
  have hpp : p < w.heap.size := h.inn p (by rw [h.rp]; simp)
  have hb : ∀ k, k < w.heap.size → some k ≠ wayV.ownBlock → w2.heap[k]? = w.heap[k]? := fun k hk hne => by
    rw [hgrow.block k (by simp; omega) hne]; exact Below.heap_alloc w o k hk
  have hpw : some p ≠ wayV.ownBlock := fun e => by have := h.rway p e.symm; rw [h.rp] at this; cases this
  have hgp : gg ≠ p := by
    rcases hat with hat | rfl
    · rintro rfl; exact hpw hat.symm
    · omega
  have hrow2 := (h.row.of_block (hb p hpp hpw)).set 2 (.slice (some ⟨gg, 0, none⟩) (tick.length + 1) cap)
  refine ⟨h.otherWay (fun k hk hkp hkw => ?_) (by simp [roleSet, hgp.symm, h.rp]) hrow2 ?_ (fun g hg => by simp [Value.ownBlock] at hg; subst hg; simp [roleSet]) (fun k hk => ?_), ?_⟩
  · have hkl := h.inn k hk
    have hne : some k ≠ wayV.ownBlock := fun e => hkw (h.rway k e.symm)
    have hkg : k ≠ gg := by
      rcases hat with hat | rfl
      · rintro rfl; exact hne hat.symm
      · omega
    exact ⟨(heap_setCell_other _ _ _ _ hkp).trans (hb k hkl hne), by simp [roleSet, hkg]⟩
  · have := ownsRow_of_block (w' := w2.setCell ⟨p, 2, none⟩ (.slice (some ⟨gg, 0, none⟩) (tick.length + 1) cap)) hown (fun g hg => by simp [Value.ownBlock] at hg; subst hg; exact heap_setCell_other _ _ _ _ hgp)
    simpa [tcells] using this
  · simp only [World.setCell, Array.size_modify]
    by_cases hkg : k = gg
    · subst hkg; exact hgs
    · simp only [roleSet, hkg, if_false] at hk; have := h.inn k hk; omega
  · refine ⟨hgrow.os, hgrow.tape, hgrow.output, by simp [World.setCell]; omega, fun k hk hn => ?_, fun k hk hn => ?_⟩
    · rw [heap_setCell_other _ _ _ _ (by rintro rfl; rw [h.rp] at hn; cases hn)]
      exact hb k hk (fun e => by rw [h.rway k e.symm] at hn; cases hn)
    · have : k ≠ gg := by
        rcases hat with hat | rfl
        · rintro rfl; rw [h.rway _ hat] at hn; cases hn
        · omega
      simp [roleSet, this, hn]

/-- The sectors' shapes are others at one place. -/
theorem RepX.otherShape {w w' : World} {p : Nat} {role role' : Nat → Option Own} {M : Nat} {wayV actsV : Value} {f : Int → Option Value} {size : Nat} {base base' : Nat → Sec} {rest rest' : Nat → List Sec} {tick : List (Nat × Nat)} {fuse : Option Nat} {dead : Bool}
    (h : RepX w p role M wayV actsV f size base rest tick fuse dead) (k : Nat) (v : Value)
    (same : ∀ j, role j ≠ none → j ≠ M → role j ≠ some (.shp k) → w'.heap[j]? = w.heap[j]? ∧ role' j = role j) (rM : role' M = some .map)
    (map : MapAt w' M (upd f k v)) (hv : w'.ownsRow 0 34 64 v (1 + (rest' k).length) (secs (base' k :: rest' k))) (hr : ∀ g, v.ownBlock = some g → role' g = some (.shp k))
    (hb : ∀ j, j ≠ k → base' j = base j ∧ rest' j = rest j) (len : (base' k).length = 64 ∧ ∀ s ∈ rest' k, s.length = 64)
    (inn : ∀ j, role' j ≠ none → j < w'.heap.size) : RepX w' p role' M wayV actsV (upd f k v) size base' rest' tick fuse dead where
  rp := by rw [(same p (by rw [h.rp]; simp) (by rintro rfl; have := h.rp; rw [h.rM] at this; cases this) (by rw [h.rp]; simp)).2]; exact h.rp
  row := h.row.of_block (same p (by rw [h.rp]; simp) (by rintro rfl; have := h.rp; rw [h.rM] at this; cases this) (by rw [h.rp]; simp)).1
  rM := rM
  map := map
  way := ownsRow_of_block h.way fun g hg => (same g (by rw [h.rway g hg]; simp) (by rintro rfl; have := h.rM; rw [h.rway _ hg] at this; cases this) (by rw [h.rway g hg]; simp)).1
  rway := fun g hg => (same g (by rw [h.rway g hg]; simp) (by rintro rfl; have := h.rM; rw [h.rway _ hg] at this; cases this) (by rw [h.rway g hg]; simp)).2.trans (h.rway g hg)
  fuse := by
    have hf := h.fuse
    cases fuse with
    | none => exact hf
    | some n =>
      obtain ⟨h0, g, h1, h2, t, h3⟩ := hf
      have hs := same g (by rw [h2]; simp) (by rintro rfl; have := h.rM; rw [h2] at this; cases this) (by rw [h2]; simp)
      exact ⟨h0, g, h1, hs.2.trans h2, t, h3.of_block hs.1⟩
  shape := fun j => by
    by_cases hjk : j = k
    · subst hjk; simp only [upd, if_true]; exact ⟨hv, hr⟩
    · have hs := h.shape j
      have hjk' : ¬ ((j : Int) = (k : Int)) := by omega
      simp only [upd, hjk', if_false, (hb j hjk).1, (hb j hjk).2]
      cases hf : f j with
      | none => rw [hf] at hs; exact hs
      | some u =>
        rw [hf] at hs
        have hg : ∀ g, u.ownBlock = some g → w'.heap[g]? = w.heap[g]? ∧ role' g = role g := fun g hg => same g (by rw [hs.2 g hg]; simp) (by rintro rfl; have := h.rM; rw [hs.2 _ hg] at this; cases this) (by rw [hs.2 g hg]; simp; omega)
        exact ⟨ownsRow_of_block hs.1 fun g e => (hg g e).1, fun g e => (hg g e).2.trans (hs.2 g e)⟩
  len := fun j => by
    by_cases hjk : j = k
    · subst hjk; exact len
    · rw [(hb j hjk).1, (hb j hjk).2]; exact h.len j
  sz := h.sz
  inn := inn


def fset {α : Type} (f : Nat → α) (k : Nat) (v : α) : Nat → α := fun j => if j = k then v else f j
theorem fset_same {α : Type} (f : Nat → α) (k : Nat) (v : α) : fset f k v k = v := by simp [fset]
theorem fset_other {α : Type} (f : Nat → α) {k j : Nat} (v : α) (h : j ≠ k) : fset f k v j = f j := by simp [fset, h]

theorem RepX.shapePush {w w4 w5 : World} {p : Nat} {role : Nat → Option Own} {M : Nat} {wayV actsV : Value} {f : Int → Option Value} {size : Nat} {base : Nat → Sec} {rest : Nat → List Sec} {tick : List (Nat × Nat)} {fuse : Option Nat} {dead : Bool}
    (h : RepX w p role M wayV actsV f size base rest tick fuse dead) (k : Nat) (s : Sec) (hs : s.length = 64) {v0 : Value} (hf : f k = some v0) {o : Obj} {gg cap n : Nat} (hn : n = 1 + (rest k).length + 1)
    (hown : w4.ownsRow 0 34 64 (.slice (some ⟨gg, 0, none⟩) n cap) n (secs (base k :: rest k) ++ s.map Bv))
    (hgrow : (w.alloc o).drew.grownBy w4 v0.ownBlock) (hat : v0.ownBlock = some gg ∨ gg = w.heap.size + 1)
    (hmap : MapAt w5 M (upd f k (.slice (some ⟨gg, 0, none⟩) n cap))) (hg5 : w4.grownBy w5 (some M)) (hs5 : w5.heap.size = w4.heap.size) :
    RepX w5 p (roleSet role gg (.shp k)) M wayV actsV (upd f k (.slice (some ⟨gg, 0, none⟩) n cap)) size base (fset rest k (rest k ++ [s])) tick fuse dead ∧ Moves w role w5 (roleSet role gg (.shp k)) := by
  have hsz : w.heap.size + 1 ≤ w4.heap.size := by have := hgrow.size; simpa using this
  have hgs : gg < w4.heap.size := (hown.lt gg rfl).2
  have hMM : M < w.heap.size := h.inn M (by rw [h.rM]; simp)
  have hsh := h.shape k
  rw [hf] at hsh
  have hv0 : ∀ j, v0.ownBlock = some j → role j = some (.shp k) := hsh.2
  have hb : ∀ j, j < w.heap.size → some j ≠ v0.ownBlock → j ≠ M → w5.heap[j]? = w.heap[j]? := fun j hj hne hjM => by
    rw [hg5.block j (by omega) (by simpa using hjM), hgrow.block j (by simp; omega) hne]; exact Below.heap_alloc w o j hj
  have hgM : gg ≠ M := by
    rcases hat with hat | rfl
    · rintro rfl; have := hv0 _ hat; rw [h.rM] at this; cases this
    · omega
  have hown5 : w5.ownsRow 0 34 64 (.slice (some ⟨gg, 0, none⟩) n cap) n (secs (base k :: rest k) ++ s.map Bv) :=
    ownsRow_of_block hown fun g hg => by simp [Value.ownBlock] at hg; subst hg; exact hg5.block _ hgs (by simpa using hgM)
  have hsecs : secs (base k :: rest k) ++ s.map Bv = secs (base k :: (rest k ++ [s])) := by
    rw [show base k :: (rest k ++ [s]) = (base k :: rest k) ++ [s] by simp, secs_append]; simp [secs]
  rw [hsecs] at hown5
  refine ⟨h.otherShape k _ (fun j hj hjM hjk => ?_) (by simp [roleSet, hgM.symm, h.rM]) hmap ?_ (fun g hg => by simp [Value.ownBlock] at hg; subst hg; simp [roleSet]) (fun j hj => ⟨rfl, fset_other _ _ hj⟩) ?_ (fun j hj => ?_), ?_⟩
  · have hjl := h.inn j hj
    have hne : some j ≠ v0.ownBlock := fun e => hjk (hv0 j e.symm)
    have hjg : j ≠ gg := by
      rcases hat with hat | rfl
      · rintro rfl; exact hne hat.symm
      · omega
    exact ⟨hb j hjl hne hjM, by simp [roleSet, hjg]⟩
  · rw [fset_same]
    have e : 1 + (rest k ++ [s]).length = n := by simp; omega
    rw [e]; exact hown5
  · rw [fset_same]
    refine ⟨(h.len k).1, fun x hx => ?_⟩
    rcases List.mem_append.1 hx with hx | hx
    · exact (h.len k).2 x hx
    · simp at hx; subst hx; exact hs
  · by_cases hjg : j = gg
    · subst hjg; omega
    · simp only [roleSet, hjg, if_false] at hj; have := h.inn j hj; omega
  · refine ⟨hg5.os.trans hgrow.os, hg5.tape.trans hgrow.tape, hg5.output.trans hgrow.output, by omega, fun j hj hn => ?_, fun j hj hn => ?_⟩
    · exact hb j hj (fun e => by rw [hv0 j e.symm] at hn; cases hn) (by rintro rfl; rw [h.rM] at hn; cases hn)
    · have : j ≠ gg := by
        rcases hat with hat | rfl
        · rintro rfl; rw [hv0 _ hat] at hn; cases hn
        · omega
      simp [roleSet, this, hn]


theorem RepX.shapeNew {w w5 : World} {p : Nat} {role : Nat → Option Own} {M : Nat} {wayV actsV : Value} {f : Int → Option Value} {size : Nat} {base : Nat → Sec} {rest : Nat → List Sec} {tick : List (Nat × Nat)} {fuse : Option Nat} {dead : Bool}
    (h : RepX w p role M wayV actsV f size base rest tick fuse dead) (k : Nat) (hf : f k = none)
    (hmap : MapAt w5 M (upd f k (.slice (some ⟨w.heap.size, 0, none⟩) 1 1))) (hg5 : (w.alloc (.cells Z64 34)).drew.grownBy w5 (some M)) (hs5 : w5.heap.size = w.heap.size + 1) :
    RepX w5 p (roleSet role w.heap.size (.shp k)) M wayV actsV (upd f k (.slice (some ⟨w.heap.size, 0, none⟩) 1 1)) size base rest tick fuse dead ∧ Moves w role w5 (roleSet role w.heap.size (.shp k)) := by
  have hMM : M < w.heap.size := h.inn M (by rw [h.rM]; simp)
  have hsh := h.shape k
  rw [hf] at hsh
  obtain ⟨hbz, hrz⟩ := hsh
  have hb : ∀ j, j < w.heap.size → j ≠ M → w5.heap[j]? = w.heap[j]? := fun j hj hjM => by
    rw [hg5.block j (by simp; omega) (by simpa using hjM)]; exact Below.heap_alloc w _ j hj
  have hrow : Row w5 w.heap.size (zeros64.map Bv) 34 := (Row.newZ w 34).drew.of_block (hg5.block _ (by simp) (by simp; omega))
  refine ⟨h.otherShape k _ (fun j hj hjM hjk => ?_) (by simp [roleSet, Nat.ne_of_lt hMM, h.rM]) hmap ?_ (fun g hg => by simp [Value.ownBlock] at hg; subst hg; simp [roleSet]) (fun j hj => ⟨rfl, rfl⟩) (h.len k) (fun j hj => ?_), ?_⟩
  · have hjl := h.inn j hj
    exact ⟨hb j hjl hjM, by simp [roleSet, Nat.ne_of_lt hjl]⟩
  · rw [hbz, hrz]
    exact ⟨rfl, .inr ⟨w.heap.size, 1, (zeros64.map Bv).toArray, rfl, Nat.zero_le _, hrow, Nat.le_refl _, by unfold maxLen; omega, rfl, rfl⟩⟩
  · by_cases hjg : j = w.heap.size
    · subst hjg; omega
    · simp only [roleSet, hjg, if_false] at hj; have := h.inn j hj; omega
  · refine ⟨hg5.os, hg5.tape, hg5.output, by omega, fun j hj hn => ?_, fun j hj hn => ?_⟩
    · exact hb j hj (by rintro rfl; rw [h.rM] at hn; cases hn)
    · simp [roleSet, Nat.ne_of_lt hj, hn]
theorem RepX.fresh {w : World} {p : Nat} {role : Nat → Option Own} {M : Nat} {wayV actsV : Value} {f : Int → Option Value} {size : Nat} {base : Nat → Sec} {rest : Nat → List Sec} {tick : List (Nat × Nat)} {fuse : Option Nat} {dead : Bool}
    (h : RepX w p role M wayV actsV f size base rest tick fuse dead) : role w.heap.size = none := by
  cases hq : role w.heap.size with
  | none => rfl
  | some x => have := h.inn w.heap.size (by rw [hq]; simp); omega


/-- The slice at a place: nil, or the shapes. -/
theorem RepX.sliceAt {w : World} {p : Nat} {role : Nat → Option Own} {M : Nat} {wayV actsV : Value} {f : Int → Option Value} {size : Nat} {base : Nat → Sec} {rest : Nat → List Sec} {tick : List (Nat × Nat)} {fuse : Option Nat} {dead : Bool}
    (h : RepX w p role M wayV actsV f size base rest tick fuse dead) (k : Nat) :
    ∃ a n cap, (f k).getD (.slice none 0 0) = .slice a n cap ∧ ((n = 0 ∧ f k = none) ∨ ∃ g, a = some ⟨g, 0, none⟩ ∧ n = 1 + (rest k).length ∧ f k = some (.slice (some ⟨g, 0, none⟩) (1 + (rest k).length) cap)) := by
  have hs := h.shape k
  cases hf : f k with
  | none => exact ⟨none, 0, 0, rfl, .inl ⟨rfl, rfl⟩⟩
  | some v =>
    rw [hf] at hs
    obtain ⟨g, cap, cur, rfl, _⟩ := owns_some hs.1 (by omega)
    exact ⟨_, _, cap, rfl, .inr ⟨g, rfl, rfl, rfl⟩⟩


/-! ### What is on its way comes into the base -/
def land (old new : Sec) (n : Nat) : Sec := new.take n ++ old.drop n
/-- The bases behind the first k tickets, nb k bytes of each. -/
def landed (rest : Nat → List Sec) (nb : Nat → Nat) (tick : List (Nat × Nat)) (base : Nat → Sec) : Nat → Nat → Sec
  | 0 => base
  | k + 1 => let b := landed rest nb tick base k
    match tick[k]? with
    | some t => fset b t.1 (land (b t.1) ((rest t.1)[t.2 - 1]?.getD zeros) (nb k))
    | none => b
/-- The shapes behind the first k tickets. -/
def cleared (rest : Nat → List Sec) (tick : List (Nat × Nat)) : Nat → Nat → List Sec
  | 0 => rest
  | k + 1 => match tick[k]? with
    | some t => fset (cleared rest tick k) t.1 []
    | none => cleared rest tick k
theorem tcells_at : ∀ (l : List (Nat × Nat)) (k : Nat) (t : Nat × Nat), l[k]? = some t → (tcells l)[k * 2]? = some (.int .i64 (t.1 : Int)) ∧ (tcells l)[k * 2 + 1]? = some (.int .i64 (t.2 : Int))
  | [], k, t, h => by simp at h
  | x :: l, 0, t, h => by simp at h; subst h; simp [tcells]
  | x :: l, k + 1, t, h => by
    have ih := tcells_at l k t (by simpa using h)
    simp only [tcells, List.flatMap_cons] at *
    have e1 : (k + 1) * 2 = k * 2 + 1 + 1 := by omega
    rw [e1]
    simp only [List.cons_append, List.nil_append, List.getElem?_cons_succ]
    exact ih
/-- The tickets are those of shapes that are there. -/
def TickOK (rest : Nat → List Sec) (tick : List (Nat × Nat)) : Prop := ∀ t ∈ tick, 1 ≤ t.2 ∧ t.2 ≤ (rest t.1).length


theorem owns_form {w : World} {e : TypeId} {size : Nat} {v : Value} {n : Nat} {xs : List Value} (h : w.ownsRow 0 e size v n xs) :
    ∃ a cap, v = .slice a n cap ∧ n ≤ cap ∧ cap ≤ maxLen ∧ (0 < n → ∃ g cur, a = some ⟨g, 0, none⟩ ∧ Row w g cur e ∧ cur.take (n * size) = xs) ∧ (0 < cap → ∃ g cur, a = some ⟨g, 0, none⟩ ∧ Row w g cur e ∧ cur.length = cap * size) := by
  obtain ⟨_, h2⟩ := h
  rcases h2 with ⟨rfl, h0⟩ | ⟨g, cap, cur, hv, _, hh, h1, h2, h3, h4⟩
  · subst h0; exact ⟨none, 0, rfl, Nat.le_refl _, by unfold maxLen; omega, fun h => by omega, fun h => by omega⟩
  · exact ⟨_, cap, hv, h1, h2, fun _ => ⟨g, cur.toList, rfl, by simpa [Row] using hh, h4⟩, fun _ => ⟨g, cur.toList, rfl, by simpa [Row] using hh, by simpa using h3⟩⟩


/-- A ticket's two cells. -/
theorem RepX.ticket {w : World} {p : Nat} {role : Nat → Option Own} {M : Nat} {wa : Option Addr} {wcap : Nat} {actsV : Value} {f : Int → Option Value} {size : Nat} {base : Nat → Sec} {rest : Nat → List Sec} {tick : List (Nat × Nat)} {fuse : Option Nat} {dead : Bool}
    (h : RepX w p role M (.slice wa tick.length wcap) actsV f size base rest tick fuse dead) {k : Nat} {t : Nat × Nat} (ht : tick[k]? = some t) :
    ∃ g, wa = some ⟨g, 0, none⟩ ∧ role g = some .way ∧ w.cell? ⟨g, k * 2, none⟩ = some (.int .i64 (t.1 : Int)) ∧ w.cell? ⟨g, k * 2 + 1, none⟩ = some (.int .i64 (t.2 : Int)) := by
  have hlt : k < tick.length := by
    by_cases hk : k < tick.length
    · exact hk
    · rw [List.getElem?_eq_none (by omega)] at ht; cases ht
  obtain ⟨g, cap, cur, hv, hrow, _, _, _, h4⟩ := owns_some h.way (by omega)
  simp at hv
  obtain ⟨rfl, rfl⟩ := hv
  have hc := tcells_at tick k t ht
  exact ⟨g, rfl, h.rway g rfl, by rw [hrow.cell]; exact take_get h4 hc.1, by rw [hrow.cell]; exact take_get h4 hc.2⟩


theorem RepX.drewN {w : World} {p : Nat} {role : Nat → Option Own} {M : Nat} {wayV actsV : Value} {f : Int → Option Value} {size : Nat} {base : Nat → Sec} {rest : Nat → List Sec} {tick : List (Nat × Nat)} {fuse : Option Nat} {dead : Bool}
    (h : RepX w p role M wayV actsV f size base rest tick fuse dead) (n : Nat) : RepX (w.drewN n) p role M wayV actsV f size base rest tick fuse dead := h.keep (fun _ _ => rfl) (Nat.le_refl _)
theorem Moves.drewN {w w' : World} {role role' : Nat → Option Own} (h : Moves w role w' role') (n : Nat) : Moves w role (w'.drewN n) role' := ⟨h.os, h.tape, h.output, h.size, h.block, h.old⟩
theorem Moves.drew {w w' : World} {role role' : Nat → Option Own} (h : Moves w role w' role') : Moves w role w'.drew role' := ⟨h.os, h.tape, h.output, h.size, h.block, h.old⟩


/-- Another base at one place. -/
theorem RepX.setBase {w w' : World} {p : Nat} {role : Nat → Option Own} {M : Nat} {wayV actsV : Value} {f : Int → Option Value} {size : Nat} {base : Nat → Sec} {rest : Nat → List Sec} {tick : List (Nat × Nat)} {fuse : Option Nat} {dead : Bool}
    (h : RepX w p role M wayV actsV f size base rest tick fuse dead) (hb : Below w.heap.size w w') (k : Nat) {g cap : Nat} (hf : f k = some (.slice (some ⟨g, 0, none⟩) (1 + (rest k).length) cap)) (s : Sec) (hs : s.length = 64) :
    RepX (w'.setCells g 0 (s.map Bv)) p role M wayV actsV f size (fset base k s) rest tick fuse dead ∧ Moves w role (w'.setCells g 0 (s.map Bv)) role := by
  have h' := h.below hb
  have hsh := h'.shape k
  rw [hf] at hsh
  have hg : role g = some (.shp k) := hsh.2 g rfl
  obtain ⟨g', cap', cur, hv, hrow, h1, h2, h3, h4⟩ := owns_some hsh.1 (by omega)
  simp at hv
  obtain ⟨rfl, rfl⟩ := hv
  have hcl : 64 ≤ cur.length := by rw [h3]; omega
  have hrow' := hrow.setCells (s.map Bv) 0 (by simp [hs]; omega)
  have hlen := h.len k
  have hsl : (secs (s :: rest k)).length = (1 + (rest k).length) * 64 := by
    rw [length_secs]
    · simp; omega
    · intro x hx
      rcases List.mem_cons.1 hx with rfl | hx
      · exact hs
      · exact hlen.2 x hx
  have same : ∀ j, j ≠ g → (w'.setCells g 0 (s.map Bv)).heap[j]? = w'.heap[j]? := fun j hj => setCells_other g _ 0 w' j hj
  refine ⟨⟨h'.rp, h'.row.of_block (same p (by rintro rfl; have := h.rp; rw [hg] at this; cases this)), h'.rM, h'.map.of_block (same M (by rintro rfl; have := h.rM; rw [hg] at this; cases this)),
    ownsRow_of_block h'.way fun j hj => same j (by rintro rfl; have := h.rway _ hj; rw [hg] at this; cases this), h'.rway, h'.fuse.of_block fun j hj => same j (by rintro rfl; rw [hg] at hj; cases hj), fun j => ?_, fun j => ?_, h'.sz, fun j hj => by rw [setCells_size]; exact h'.inn j hj⟩, ?_⟩
  · by_cases hjk : j = k
    · subst hjk
      rw [hf, fset_same]
      refine ⟨⟨hsl, .inr ⟨g, cap, _, rfl, Nat.zero_le _, hrow', h1, h2, by simp [hs]; rw [h3]; omega, ?_⟩⟩, hsh.2⟩
      have e1 : secs (base j :: rest j) = (base j).map Bv ++ secs (rest j) := by simp [secs]
      have e2 : secs (s :: rest j) = s.map Bv ++ secs (rest j) := by simp [secs]
      have e3 : cur.drop 64 = (cur.take ((1 + (rest j).length) * 64)).drop 64 ++ cur.drop ((1 + (rest j).length) * 64) := by
        rw [← List.drop_append_of_le_length (by simp; omega), List.take_append_drop]
      have e4 : (cur.take ((1 + (rest j).length) * 64)).drop 64 = secs (rest j) := by
        rw [h4, e1, List.drop_append_of_le_length (by simp [hlen.1])]; simp [hlen.1]
      simp only [List.take_zero, List.nil_append, Nat.zero_add, List.length_map, hs]
      rw [e3, e4, ← List.append_assoc, ← e2, List.take_append_of_le_length]
      · rw [List.take_of_length_le (by omega)]
      · omega
    · rw [fset_other _ _ hjk]
      exact (h'.shape j).of_block fun i hi => same i (by rintro rfl; rw [hg] at hi; simp at hi; omega)
  · by_cases hjk : j = k
    · subst hjk; rw [fset_same]; exact ⟨hs, hlen.2⟩
    · rw [fset_other _ _ hjk]; exact h.len j
  · have hs3 := setCells_same g (s.map Bv) 0 w'
    refine ⟨hs3.1.trans hb.os, hs3.2.1.trans hb.tape, hs3.2.2.trans hb.output, by rw [setCells_size]; exact hb.size, fun j hj hn => ?_, fun _ _ h => h⟩
    rw [same j (by rintro rfl; rw [hg] at hn; cases hn)]
    exact hb.block j hj


theorem RepX.cutShape {w w' : World} {p : Nat} {role : Nat → Option Own} {M : Nat} {wayV actsV : Value} {f : Int → Option Value} {size : Nat} {base : Nat → Sec} {rest : Nat → List Sec} {tick : List (Nat × Nat)} {fuse : Option Nat} {dead : Bool}
    (h : RepX w p role M wayV actsV f size base rest tick fuse dead) (k : Nat) {g n cap : Nat} (hf : f k = some (.slice (some ⟨g, 0, none⟩) n cap))
    (hmap : MapAt w' M (upd f k (.slice (some ⟨g, 0, none⟩) 1 cap))) (hg : w.grownBy w' (some M)) :
    RepX w' p role M wayV actsV (upd f k (.slice (some ⟨g, 0, none⟩) 1 cap)) size base (fset rest k []) tick fuse dead ∧ Moves w role w' role := by
  have hsh := h.shape k
  rw [hf] at hsh
  have hgr : role g = some (.shp k) := hsh.2 g rfl
  obtain ⟨g', cap', cur, hv, hrow, h1, h2, h3, h4⟩ := owns_some hsh.1 (by omega)
  simp at hv
  obtain ⟨rfl, rfl, rfl⟩ := hv
  have same : ∀ j, role j ≠ none → j ≠ M → w'.heap[j]? = w.heap[j]? := fun j hj hne => hg.block j (h.inn j hj) (by simpa using hne)
  have hrow' : Row w' g cur 34 := hrow.of_block (same g (by rw [hgr]; simp) (by rintro rfl; have := h.rM; rw [hgr] at this; cases this))
  refine ⟨h.otherShape k _ (fun j hj hjM _ => ⟨same j hj hjM, rfl⟩) h.rM hmap ?_ (fun i hi => by simp [Value.ownBlock] at hi; subst hi; exact hgr) (fun j hj => ⟨rfl, fset_other _ _ hj⟩) ?_ (fun j hj => Nat.lt_of_lt_of_le (h.inn j hj) hg.size), Moves.of_grown hg fun j hj => by cases hj; rw [h.rM]; simp⟩
  · rw [fset_same]
    have hl1 : (secs [base k]).length = 64 := by simp [secs, (h.len k).1]
    refine ⟨by simpa using hl1, .inr ⟨g, cap, cur.toArray, rfl, Nat.zero_le _, hrow', by simp; omega, h2, by simpa using h3, ?_⟩⟩
    have e1 : secs (base k :: rest k) = (base k).map Bv ++ secs (rest k) := by simp [secs]
    have hl := (h.len k).1
    have e2 : cur.take 64 = (base k).map Bv := by
      have : (cur.take ((1 + (rest k).length) * 64)).take 64 = cur.take 64 := by rw [List.take_take]; congr 1; omega
      rw [← this, h4, e1, List.take_append_of_le_length (by simp [hl]), List.take_of_length_le (by simp [hl])]
    simp [e2, secs]
  · rw [fset_same]; exact ⟨(h.len k).1, by simp⟩


theorem RepX.drew {w : World} {p : Nat} {role : Nat → Option Own} {M : Nat} {wayV actsV : Value} {f : Int → Option Value} {size : Nat} {base : Nat → Sec} {rest : Nat → List Sec} {tick : List (Nat × Nat)} {fuse : Option Nat} {dead : Bool}
    (h : RepX w p role M wayV actsV f size base rest tick fuse dead) : RepX w.drew p role M wayV actsV f size base rest tick fuse dead := h.keep (fun _ _ => rfl) (Nat.le_refl _)


theorem RepX.way0 {w : World} {p : Nat} {role : Nat → Option Own} {M : Nat} {wa : Option Addr} {wcap : Nat} {actsV : Value} {f : Int → Option Value} {size : Nat} {base : Nat → Sec} {rest : Nat → List Sec} {tick : List (Nat × Nat)} {fuse : Option Nat} {dead : Bool}
    (h : RepX w p role M (.slice wa tick.length wcap) actsV f size base rest tick fuse dead) :
    RepX (w.setCell ⟨p, 2, none⟩ (.slice wa 0 wcap)) p role M (.slice wa 0 wcap) actsV f size base rest [] fuse dead ∧ Moves w role (w.setCell ⟨p, 2, none⟩ (.slice wa 0 wcap)) role := by
  have hs : (w.setCell ⟨p, 2, none⟩ (.slice wa 0 wcap)).heap.size = w.heap.size := by simp [World.setCell]
  have same : ∀ k, k ≠ p → (w.setCell ⟨p, 2, none⟩ (.slice wa 0 wcap)).heap[k]? = w.heap[k]? := fun k hk => heap_setCell_other _ _ _ _ hk
  refine ⟨h.otherWay (fun k _ hkp _ => ⟨same k hkp, rfl⟩) h.rp (h.row.set 2 _) ?_ (fun g hg => h.rway g (by cases wa <;> simp_all [Value.ownBlock])) (fun k hk => by rw [hs]; exact h.inn k hk), Moves.setCell _ _ (by rw [h.rp]; simp)⟩
  obtain ⟨_, h2⟩ := h.way
  refine ⟨rfl, ?_⟩
  rcases h2 with ⟨hv, h0⟩ | ⟨g, cap, cur, hv, hg, hh, h1, h2, h3, h4⟩
  · simp at hv; obtain ⟨rfl, -, rfl⟩ := hv; exact .inl ⟨rfl, rfl⟩
  · simp at hv
    obtain ⟨rfl, rfl⟩ := hv
    exact .inr ⟨g, wcap, cur, rfl, hg, by rw [same g (by rintro rfl; have := h.rway g rfl; rw [h.rp] at this; cases this)]; exact hh, Nat.zero_le _, h2, h3, by simp [tcells]⟩
/-- The slice at a place that has shapes. -/
theorem RepX.sliceSome {w : World} {p : Nat} {role : Nat → Option Own} {M : Nat} {wayV actsV : Value} {f : Int → Option Value} {size : Nat} {base : Nat → Sec} {rest : Nat → List Sec} {tick : List (Nat × Nat)} {fuse : Option Nat} {dead : Bool}
    (h : RepX w p role M wayV actsV f size base rest tick fuse dead) (k : Nat) (hf : f k ≠ none) :
    ∃ g n cap, f k = some (.slice (some ⟨g, 0, none⟩) n cap) ∧ n = 1 + (rest k).length ∧ n ≤ cap := by
  have hs := h.shape k
  cases hq : f k with
  | none => exact absurd hq hf
  | some v =>
    rw [hq] at hs
    obtain ⟨g, cap, cur, rfl, _, h1, _⟩ := owns_some hs.1 (by omega)
    exact ⟨g, _, cap, rfl, rfl, h1⟩

end Go.Proofs.Ytpddbffamejgeaa
