/- The disk as a value: what its calls do, without memory. -/
import Derived.Test.YtpddbffamejgeaaD
namespace Go.Proofs.Ytpddbffamejgeaa

structure DS where
  size : Nat
  base : Nat → Sec
  queue : List (Nat × Sec)
  fuse : Option Nat
  dead : Bool

def restOf (q : List (Nat × Sec)) (k : Nat) : List Sec := (q.filter (·.1 == k)).map (·.2)
def tickFrom (pre : List (Nat × Sec)) : List (Nat × Sec) → List (Nat × Nat)
  | [] => []
  | x :: q => (x.1, 1 + (restOf pre x.1).length) :: tickFrom (pre ++ [x]) q
def tickOf (q : List (Nat × Sec)) : List (Nat × Nat) := tickFrom [] q
/-- The bases behind k of what is on its way, nb j bytes of the j-th. -/
def landK (nb : Nat → Nat) (q : List (Nat × Sec)) (base : Nat → Sec) : Nat → Nat → Sec
  | 0 => base
  | k + 1 => match q[k]? with
    | some x => fset (landK nb q base k) x.1 (land (landK nb q base k x.1) x.2 (nb k))
    | none => landK nb q base k
def landQ (nb : Nat → Nat) (q : List (Nat × Sec)) (base : Nat → Sec) : Nat → Sec := landK nb q base q.length

theorem restOf_snoc (q : List (Nat × Sec)) (k : Nat) (s : Sec) : restOf (q ++ [(k, s)]) = fset (restOf q) k (restOf q k ++ [s]) := by
  funext j
  unfold fset
  by_cases h : j = k
  · subst h; simp [restOf, List.filter_append]
  · have h' : k ≠ j := fun e => h e.symm
    simp [restOf, List.filter_append, h, h']
theorem tickFrom_snoc : ∀ (q pre : List (Nat × Sec)) (x : Nat × Sec), tickFrom pre (q ++ [x]) = tickFrom pre q ++ [(x.1, 1 + (restOf (pre ++ q) x.1).length)]
  | [], pre, x => by simp [tickFrom]
  | y :: q, pre, x => by simp [tickFrom, tickFrom_snoc q (pre ++ [y]) x]
theorem tickOf_snoc (q : List (Nat × Sec)) (k : Nat) (s : Sec) : tickOf (q ++ [(k, s)]) = tickOf q ++ [(k, 1 + (restOf q k).length)] := by
  simp [tickOf, tickFrom_snoc]
theorem length_tickFrom : ∀ (q pre : List (Nat × Sec)), (tickFrom pre q).length = q.length
  | [], _ => rfl
  | x :: q, pre => by simp [tickFrom, length_tickFrom q]
theorem length_tickOf (q : List (Nat × Sec)) : (tickOf q).length = q.length := length_tickFrom q []
theorem restOf_append (a b : List (Nat × Sec)) (k : Nat) : restOf (a ++ b) k = restOf a k ++ restOf b k := by simp [restOf]
theorem restOf_cons_same (x : Nat × Sec) (q : List (Nat × Sec)) : restOf (x :: q) x.1 = x.2 :: restOf q x.1 := by simp [restOf]
theorem length_restOf_le (q : List (Nat × Sec)) (k : Nat) : (restOf q k).length ≤ q.length := by
  simp only [restOf, List.length_map]; exact List.length_filter_le _ _
theorem tickFrom_at : ∀ (q pre : List (Nat × Sec)) (k : Nat) (x : Nat × Sec), q[k]? = some x →
    ∃ n, (tickFrom pre q)[k]? = some (x.1, 1 + n) ∧ (restOf (pre ++ q) x.1)[n]? = some x.2
  | [], _, k, x, h => by simp at h
  | y :: q, pre, 0, x, h => by
    simp at h; subst h
    refine ⟨(restOf pre y.1).length, by simp [tickFrom], ?_⟩
    rw [restOf_append, restOf_cons_same]; simp
  | y :: q, pre, k + 1, x, h => by
    obtain ⟨n, h1, h2⟩ := tickFrom_at q (pre ++ [y]) k x (by simpa using h)
    exact ⟨n, by simpa [tickFrom] using h1, by simpa using h2⟩
theorem tickOK_of (q : List (Nat × Sec)) : TickOK (restOf q) (tickOf q) := by
  intro t ht
  obtain ⟨k, hk⟩ := List.mem_iff_getElem?.1 ht
  have hlt : k < q.length := by
    by_cases h : k < q.length
    · exact h
    · rw [List.getElem?_eq_none (by rw [length_tickOf]; omega)] at hk; cases hk
  obtain ⟨n, h1, h2⟩ := tickFrom_at q [] k q[k] (by simp)
  have h1' : (tickOf q)[k]? = some (q[k].1, 1 + n) := h1
  rw [h1'] at hk
  simp at hk; subst hk
  have : n < (restOf q q[k].1).length := by
    by_cases h : n < (restOf q q[k].1).length
    · exact h
    · simp at h2; rw [List.getElem?_eq_none (by omega)] at h2; cases h2
  exact ⟨by simp, by simp; omega⟩
theorem landed_eq (nb : Nat → Nat) (q : List (Nat × Sec)) (base : Nat → Sec) : ∀ k, landed (restOf q) nb (tickOf q) base k = landK nb q base k
  | 0 => rfl
  | k + 1 => by
    simp only [landed, landK, landed_eq nb q base k]
    by_cases hlt : k < q.length
    · obtain ⟨n, h1, h2⟩ := tickFrom_at q [] k q[k] (by simp)
      have h1' : (tickOf q)[k]? = some (q[k].1, 1 + n) := h1
      simp only [List.nil_append] at h2
      rw [h1', show q[k]? = some q[k] by simp]
      simp [h2]
    · rw [List.getElem?_eq_none (show q.length ≤ k by omega), List.getElem?_eq_none (by rw [length_tickOf]; omega)]
theorem cleared_in (rest : Nat → List Sec) (tick : List (Nat × Nat)) : ∀ (k j : Nat), (∃ i, i < k ∧ ∃ t, tick[i]? = some t ∧ t.1 = j) → cleared rest tick k j = []
  | 0, j, ⟨i, hi, _⟩ => by omega
  | k + 1, j, ⟨i, hi, t, ht, htj⟩ => by
    simp only [cleared]
    cases hk : tick[k]? with
    | none =>
      have : i ≠ k := by rintro rfl; rw [hk] at ht; cases ht
      exact cleared_in rest tick k j ⟨i, by omega, t, ht, htj⟩
    | some u =>
      by_cases huj : u.1 = j
      · simp [fset, huj]
      · have : i ≠ k := by rintro rfl; rw [hk] at ht; simp at ht; subst ht; exact huj htj
        simp only [fset]
        have hne : ¬ j = u.1 := fun e => huj e.symm
        simp only [hne, if_false]
        exact cleared_in rest tick k j ⟨i, by omega, t, ht, htj⟩
theorem cleared_empty (rest : Nat → List Sec) (tick : List (Nat × Nat)) : ∀ (k j : Nat), rest j = [] → cleared rest tick k j = []
  | 0, j, h => h
  | k + 1, j, h => by
    simp only [cleared]
    cases tick[k]? with
    | none => exact cleared_empty rest tick k j h
    | some t =>
      show fset (cleared rest tick k) t.1 [] j = []
      unfold fset
      split
      · rfl
      · exact cleared_empty rest tick k j h
theorem cleared_all (q : List (Nat × Sec)) : cleared (restOf q) (tickOf q) (tickOf q).length = restOf [] := by
  funext j
  show _ = []
  by_cases h : restOf q j = []
  · exact cleared_empty _ _ _ _ h
  · apply cleared_in
    obtain ⟨s, hs⟩ := List.exists_mem_of_ne_nil _ h
    simp only [restOf, List.mem_map, List.mem_filter] at hs
    obtain ⟨x, ⟨hx, hxj⟩, _⟩ := hs
    obtain ⟨i, hi⟩ := List.mem_iff_getElem?.1 hx
    obtain ⟨n, h1, _⟩ := tickFrom_at q [] i x hi
    refine ⟨i, ?_, _, h1, by simpa using hxj⟩
    rw [length_tickOf]
    by_cases hq : i < q.length
    · exact hq
    · rw [List.getElem?_eq_none (by omega)] at hi; cases hi

/-- What a sector has. -/
def DS.get (d : DS) (k : Nat) : Sec := (restOf d.queue k).getLast?.getD (d.base k)
def actD (fuse : Option Nat) (dead : Bool) : Bool := dead || fuse == some 0
def actF (fuse : Option Nat) (dead : Bool) : Option Nat := if actD fuse dead then fuse else fuse.map (· - 1)
/-- An act: what of the fuse is left, and whether it is dead. -/
def DS.act (d : DS) : DS := { d with fuse := actF d.fuse d.dead, dead := actD d.fuse d.dead }
def DS.put (d : DS) (k : Nat) (s : Sec) : DS × Nat :=
  if d.act.dead then (d.act, 82) else ({ d.act with queue := d.queue ++ [(k, s)] }, 0)
def DS.flush (d : DS) : DS × Nat :=
  if d.act.dead then (d.act, 82) else ({ d.act with base := landQ (fun _ => 64) d.queue d.base, queue := [] }, 0)
def keptOf (keep : List Int) (k : Nat) : Nat := (min (max (keep[k]?.getD 0) 0) 64).toNat
def DS.power (d : DS) (keep : List Int) : DS := { d with base := landQ (keptOf keep) d.queue d.base, queue := [], fuse := none, dead := false }
def DS.setFuse (d : DS) (n : Int) : DS := { d with fuse := if n ≥ 0 then some n.toNat else none }
def DS.blank (n : Nat) : DS := ⟨n, fun _ => zeros, [], none, false⟩

open Go.RowKit
/-- The disk lies at p. -/
def DiskAt (w : World) (p : Nat) (role : Nat → Option Own) (d : DS) : Prop :=
  ∃ M wayV actsV f, RepX w p role M wayV actsV f d.size d.base (restOf d.queue) (tickOf d.queue) d.fuse d.dead
theorem DiskAt.below {w w' : World} {p : Nat} {role : Nat → Option Own} {d : DS} (h : DiskAt w p role d) (hb : Below w.heap.size w w') : DiskAt w' p role d := by
  obtain ⟨M, a, b, f, h⟩ := h; exact ⟨M, a, b, f, h.below hb⟩
theorem DiskAt.keep {w w' : World} {p : Nat} {role : Nat → Option Own} {d : DS} (h : DiskAt w p role d) (e : ∀ k, role k ≠ none → w'.heap[k]? = w.heap[k]?) (hs : w.heap.size ≤ w'.heap.size) : DiskAt w' p role d := by
  obtain ⟨M, a, b, f, h⟩ := h; exact ⟨M, a, b, f, h.keep e hs⟩
theorem DiskAt.inn {w : World} {p : Nat} {role : Nat → Option Own} {d : DS} (h : DiskAt w p role d) : ∀ k, role k ≠ none → k < w.heap.size := by
  obtain ⟨M, a, b, f, h⟩ := h; exact h.inn
theorem DiskAt.fresh {w : World} {p : Nat} {role : Nat → Option Own} {d : DS} (h : DiskAt w p role d) : role w.heap.size = none := by
  obtain ⟨M, a, b, f, h⟩ := h; exact h.fresh
theorem DiskAt.len {w : World} {p : Nat} {role : Nat → Option Own} {d : DS} (h : DiskAt w p role d) (k : Nat) : (d.get k).length = 64 := by
  obtain ⟨M, a, b, f, h⟩ := h
  have hl := h.len k
  unfold DS.get
  cases hq : (restOf d.queue k).getLast? with
  | none => exact hl.1
  | some s => exact hl.2 s (List.mem_of_getLast? hq)

end Go.Proofs.Ytpddbffamejgeaa
