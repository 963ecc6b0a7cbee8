/- great: are the acts too many, or too great? -/
import Derived.Test.YtpddbffamejgeaaAc
import Derived.Test.YtpddbffamejgeaaAf
namespace Go.Proofs.Ytpddbffamejgeaa
open Go.RowKit Go.Proofs.YtpddbffamejgeaaW.PrintLast

/-- A struct or an array, loaded from wherever it lies. -/
theorem runs_load_any {P : Program} {o : Oper} {a : Act} {w : World} (ty : TypeId) (x : Operand) (ho : o.op = .load ty x)
    (ad : Addr) (hx : a.eval x = .pointer (some ad)) (cs : List Value) (d : TypeDesc) (hc : ∀ j v, cs[j]? = some v → w.cell? (ad.add j) = some v) (n : Nat) (hn : cs.length = n)
    (hu : P.underlying ty = some d) (hd : d.isRow = true) (hi : (P.info? ty).map (·.size) = some n) : (execOp a.eval o).run P w = .ok (.value (.agg cs.toArray)) w := by
  have hl : (loadCells ad cs.length).run P w = .ok cs.toArray w := run_loadCells_list (P := P) w ad cs hc
  have hv : (loadVar ty ad).run P w = .ok (.agg cs.toArray) w := by
    obtain ⟨i, hq, hs⟩ := size_info hi
    have hagg : (isAgg ty).run P w = .ok true w := by
      unfold isAgg
      rw [Sem.run_bind, run_underlying hu w]
      cases d <;> simp_all
    simp [loadVar, Sem.run_bind, hagg, sizeOf, typeInfo, hq, hs, hl, ← hn]
  unfold execOp
  simp only [ho, hx, Instr.loadAt, Instr.sureAddr, Sem.run_bind, Sem.run_pure, Result.andThen_ok, hv]
theorem length_cells (a : ActV) : a.cells.length = 5 := rfl
theorem oneCells (a : ActV) : ∀ v ∈ a.cells, v.oneCell' = true := by
  intro v hv
  simp [ActV.cells] at hv
  rcases hv with rfl | rfl | rfl | rfl | rfl <;> rfl
def Z5 : Array Value := #[.int .i64 0, .int .i64 0, .int .u64 0, .slice none 0 0, .slice none 0 0]
theorem info48 : (Try.prog.info? 48).map (fun i => (i.zero, i.size, i.bytes)) = some (some (.agg Z5), 5, 72) := by kernel_rfl
theorem size48 : (Try.prog.info? 48).map (·.size) = some 5 := by kernel_rfl
/-- What is read of an element of the acts. -/
theorem ActsAt.at {w : World} {pa : Option Addr} {l : List ActV} (h : ActsAt w pa l) (i : Nat) (a : ActV) (hi : l[i]? = some a) : ∃ ad, pa = some ad ∧ ∀ j v, a.cells[j]? = some v → w.cell? ((ad.add (i * 5)).add j) = some v := by
  obtain ⟨ad, e, hc⟩ := h.cells i a hi
  exact ⟨ad, e, fun j v hj => by rw [Go.Deep.add_add]; exact hc j v hj⟩
def actGreat (a : ActV) : Bool := decide (1000 < a.b.length) || decide (400 < a.keep.length)
def greatV (l : List ActV) : Bool := decide (40 < l.length) || l.any actGreat
def GreatPost (w : World) (b : Bool) (e : Ending) (w' : World) : Prop := e = .returned (.bool b) ∧ Below w.heap.size w w'

set_option maxRecDepth 100000 in
set_option maxHeartbeats 800000 in
theorem great_any (w : World) (pa : Option Addr) (l : List ActV) (cap : Nat) (h : ActsAt w pa l) : Calls Try.prog 21 #[.slice pa l.length cap] w (GreatPost w (greatV l)) := by
  obtain ⟨x, hx⟩ : ∃ x, x = greatV l := ⟨_, rfl⟩
  rw [← hx]
  have HX := Lib.hid hx
  have HA := Lib.hid h
  clear hx h
  by_cases h40 : (l.length : Int) > 40
  · have hxt : x = true := by rw [HX.out]; unfold greatV; simp; omega
    subst hxt
    go_enter Try.func21, Try.ntmps21
    go_wp2
    go_ret
    exact ⟨rfl, Below.refl _ _⟩
  · have hxt : x = l.any actGreat := by rw [HX.out]; unfold greatV; simp [show ¬ 40 < l.length by omega]
    have HXT := Lib.hid hxt
    clear hxt HX
    go_enter Try.func21, Try.ntmps21
    go_wp2_with fail
    go_loopw [10] (fun k wr => ∃ j : Nat, j ≤ l.length ∧ k = .int .i64 j ∧ Hid (∀ i a, i < j → l[i]? = some a → actGreat a = false) ∧ Hid (Below w.heap.size w wr))
      (fun k _ => l.length - (intOf k).toNat)
    case atStart => exact ⟨0, by omega, rfl, fun i a hi => by omega, Below.refl _ _⟩
    case round =>
      obtain ⟨j, hj, rfl, hall, hb⟩ := hrel
      by_cases hlt : j < l.length
      · obtain ⟨a, ha⟩ : ∃ a, l[j]? = some a := ⟨l[j], List.getElem?_eq_getElem hlt⟩
        obtain ⟨ad, rfl, hc⟩ := (HA.out.below hb.out).at j a ha
        have HC := Lib.hid hc
        have HAJ := Lib.hid ha
        clear hc ha
        go_upto_region 6 with (first | (refine wpl_of_run rfl (runs_load_any 48 (.tmp 12) rfl (ad.add (j * 5)) (by rfl) a.cells _ HC.out 5 rfl Try.underlying48 rfl size48) ?_) | (refine wpl_alloc rfl 48 rfl Z5 5 72 info48 ?_) | (with_reducible refine wpl_store rfl 48 (.tmp 4) (.tmp 13) rfl _ a.cells rfl rfl 48 _ (Row.new _ Z5.toList 48) 5 size48 rfl rfl (oneCells _) ?_))
        have hb2 : Below w.heap.size w ((wr.alloc (.cells Z5 48)).setRow wr.heap.size a.cells.toArray) := below_setRow (hb.out.alloc hb.out.size _) hb.out.size _
        have hr2 : Row ((wr.alloc (.cells Z5 48)).setRow wr.heap.size a.cells.toArray) wr.heap.size a.cells 48 := (Row.new wr Z5.toList 48).setRow _
        generalize (wr.alloc (.cells Z5 48)).setRow wr.heap.size a.cells.toArray = W2 at *
        generalize wr.heap.size = g at *
        have C3 : W2.cell? ⟨g, 3, none⟩ = some (.slice a.ba a.b.length a.bc) := by rw [hr2.cell]; rfl
        have C4 : W2.cell? ⟨g, 4, none⟩ = some (.slice a.ka a.keep.length a.kc) := by rw [hr2.cell]; rfl
        have HB2 := Lib.hid hb2
        clear hb2 hr2 HC hb
        by_cases c3 : (a.b.length : Int) > 1000
        · have hg : actGreat a = true := by simp [actGreat]; omega
          have hx : x = true := by rw [HXT.out, List.any_eq_true]; exact ⟨a, List.mem_of_getElem? HAJ.out, hg⟩
          subst hx
          go_wp2
          go_ret
          exact ⟨rfl, HB2.out⟩
        · by_cases c4 : (a.keep.length : Int) > 400
          · have hg : actGreat a = true := by simp [actGreat]; omega
            have hx : x = true := by rw [HXT.out, List.any_eq_true]; exact ⟨a, List.mem_of_getElem? HAJ.out, hg⟩
            subst hx
            go_wp2
            go_ret
            exact ⟨rfl, HB2.out⟩
          · have hg : actGreat a = false := by simp [actGreat]; omega
            have HG := Lib.hid hg
            clear hg
            go_wp2
            go_roundw
            case rel =>
              refine ⟨j + 1, by omega, by go_num, fun i a' hi ha' => ?_, HB2.out⟩
              by_cases hij : i = j
              · subst hij; rw [HAJ.out] at ha'; cases ha'; exact HG.out
              · exact hall.out i a' (by omega) ha'
            case measure => simp [intOf]; omega
      · obtain rfl : j = l.length := by omega
        have hx : x = false := by
          rw [HXT.out, List.any_eq_false]
          intro a ha
          obtain ⟨i, hi⟩ := List.mem_iff_getElem?.1 ha
          have hil : i < l.length := by
            rcases Nat.lt_or_ge i l.length with h | h
            · exact h
            · rw [List.getElem?_eq_none h] at hi; cases hi
          rw [hall.out i a hil hi]; simp
        subst hx
        clear hall
        go_wp2
        go_ret
        exact ⟨rfl, hb.out⟩

end Go.Proofs.Ytpddbffamejgeaa
