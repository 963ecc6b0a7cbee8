/- great of chapters 10 and 11. -/
import Derived.Test.YtpddbffamejgeaaAg
namespace Go.Proofs.Ytpddbffamejgeaa
open Go.RowKit Go.Proofs.YtpddbffamejgeaaW.PrintLast

theorem info80 : (Try.prog.info? 80).map (fun i => (i.zero, i.size, i.bytes)) = some (some (.agg Z5), 5, 72) := by kernel_rfl
theorem size80 : (Try.prog.info? 80).map (·.size) = some 5 := by kernel_rfl
def act10Great (a : ActV) : Bool := decide (5000 < a.b.length) || decide (400 < a.keep.length)
def great10V (l : List ActV) : Bool := decide (40 < l.length) || l.any act10Great

set_option maxRecDepth 500000 in
set_option maxHeartbeats 800000 in
theorem great10_any (w : World) (pa : Option Addr) (l : List ActV) (cap : Nat) (h : ActsAt w pa l) : Calls Try.prog 44 #[.slice pa l.length cap] w (GreatPost w (great10V l)) := by
  obtain ⟨x, hx⟩ : ∃ x, x = great10V l := ⟨_, rfl⟩
  rw [← hx]
  have HX := Lib.hid hx
  have HA := Lib.hid h
  clear hx h
  by_cases h40 : (l.length : Int) > 40
  · have hxt : x = true := by rw [HX.out]; unfold great10V; simp; omega
    subst hxt
    go_enter Try.func44, Try.ntmps44
    go_wp2
    go_ret
    exact ⟨rfl, Below.refl _ _⟩
  · have hxt : x = l.any act10Great := by rw [HX.out]; unfold great10V; simp [show ¬ 40 < l.length by omega]
    have HXT := Lib.hid hxt
    clear hxt HX
    go_enter Try.func44, Try.ntmps44
    go_wp2_with fail
    go_loopw [10] (fun k wr => ∃ j : Nat, j ≤ l.length ∧ k = .int .i64 j ∧ Hid (∀ i a, i < j → l[i]? = some a → act10Great a = false) ∧ Hid (Below w.heap.size w wr))
      (fun k _ => l.length - (intOf k).toNat)
    case atStart => exact ⟨0, by omega, rfl, fun i a hi => by omega, Below.refl _ _⟩
    case round =>
      obtain ⟨j, hj, rfl, hall, hb⟩ := hrel
      by_cases hlt : j < l.length
      · obtain ⟨a, ha⟩ : ∃ a, l[j]? = some a := ⟨l[j], List.getElem?_eq_getElem hlt⟩
        obtain ⟨ad, rfl, hc⟩ := (HA.out.below hb.out).at j a ha
        have HC := Lib.hid hc
        have HAJ := Lib.hid ha
        clear hc ha
        go_upto_region 6 with (first | (refine wpl_of_run rfl (runs_load_any 80 (.tmp 12) rfl (ad.add (j * 5)) (by rfl) a.cells _ HC.out 5 rfl Try.underlying80 rfl size80) ?_) | (refine wpl_alloc rfl 80 rfl Z5 5 72 info80 ?_) | (with_reducible refine wpl_store rfl 80 (.tmp 4) (.tmp 13) rfl _ a.cells rfl rfl 80 _ (Row.new _ Z5.toList 80) 5 size80 rfl rfl (oneCells _) ?_))
        have hb2 : Below w.heap.size w ((wr.alloc (.cells Z5 80)).setRow wr.heap.size a.cells.toArray) := below_setRow (hb.out.alloc hb.out.size _) hb.out.size _
        have hr2 : Row ((wr.alloc (.cells Z5 80)).setRow wr.heap.size a.cells.toArray) wr.heap.size a.cells 80 := (Row.new wr Z5.toList 80).setRow _
        generalize (wr.alloc (.cells Z5 80)).setRow wr.heap.size a.cells.toArray = W2 at *
        generalize wr.heap.size = g at *
        have C3 : W2.cell? ⟨g, 3, none⟩ = some (.slice a.ba a.b.length a.bc) := by rw [hr2.cell]; rfl
        have C4 : W2.cell? ⟨g, 4, none⟩ = some (.slice a.ka a.keep.length a.kc) := by rw [hr2.cell]; rfl
        have HB2 := Lib.hid hb2
        clear hb2 hr2 HC hb
        by_cases c3 : (a.b.length : Int) > 5000
        · have hg : act10Great a = true := by simp [act10Great]; omega
          have hx : x = true := by rw [HXT.out, List.any_eq_true]; exact ⟨a, List.mem_of_getElem? HAJ.out, hg⟩
          subst hx
          go_wp2
          go_ret
          exact ⟨rfl, HB2.out⟩
        · by_cases c4 : (a.keep.length : Int) > 400
          · have hg : act10Great a = true := by simp [act10Great]; omega
            have hx : x = true := by rw [HXT.out, List.any_eq_true]; exact ⟨a, List.mem_of_getElem? HAJ.out, hg⟩
            subst hx
            go_wp2
            go_ret
            exact ⟨rfl, HB2.out⟩
          · have hg : act10Great a = false := by simp [act10Great]; omega
            have HG := Lib.hid hg
            clear hg
            go_wp2
            go_roundw
            case rel =>
              refine ⟨j + 1, by omega, by go_num, fun i a' hi ha' => ?_, HB2.out⟩
              by_cases hij : i = j
              · subst hij; rw [HAJ.out] at ha'; cases ha'; exact HG.out
              · exact hall.out i a' (by omega) ha'
            case measure => simp [intOf]; omega
      · obtain rfl : j = l.length := by omega
        have hx : x = false := by
          rw [HXT.out, List.any_eq_false]
          intro a ha
          obtain ⟨i, hi⟩ := List.mem_iff_getElem?.1 ha
          have hil : i < l.length := by
            rcases Nat.lt_or_ge i l.length with h | h
            · exact h
            · rw [List.getElem?_eq_none h] at hi; cases hi
          rw [hall.out i a hil hi]; simp
        subst hx
        clear hall
        go_wp2
        go_ret
        exact ⟨rfl, hb.out⟩


theorem info85 : (Try.prog.info? 85).map (fun i => (i.zero, i.size, i.bytes)) = some (some (.agg Z5), 5, 72) := by kernel_rfl
theorem size85 : (Try.prog.info? 85).map (·.size) = some 5 := by kernel_rfl
def act11Great (a : ActV) : Bool := decide (1000 < a.b.length) || decide (400 < a.keep.length) || decide (1152921504606846976 < a.stamp)
def great11V (l : List ActV) : Bool := decide (40 < l.length) || l.any act11Great

set_option maxRecDepth 100000 in
set_option maxHeartbeats 800000 in
theorem great11_any (w : World) (pa : Option Addr) (l : List ActV) (cap : Nat) (h : ActsAt w pa l) : Calls Try.prog 46 #[.slice pa l.length cap] w (GreatPost w (great11V l)) := by
  obtain ⟨x, hx⟩ : ∃ x, x = great11V l := ⟨_, rfl⟩
  rw [← hx]
  have HX := Lib.hid hx
  have HA := Lib.hid h
  clear hx h
  by_cases h40 : (l.length : Int) > 40
  · have hxt : x = true := by rw [HX.out]; unfold great11V; simp; omega
    subst hxt
    go_enter Try.func46, Try.ntmps46
    go_wp2
    go_ret
    exact ⟨rfl, Below.refl _ _⟩
  · have hxt : x = l.any act11Great := by rw [HX.out]; unfold great11V; simp [show ¬ 40 < l.length by omega]
    have HXT := Lib.hid hxt
    clear hxt HX
    go_enter Try.func46, Try.ntmps46
    go_wp2_with fail
    go_loopw [10] (fun k wr => ∃ j : Nat, j ≤ l.length ∧ k = .int .i64 j ∧ Hid (∀ i a, i < j → l[i]? = some a → act11Great a = false) ∧ Hid (Below w.heap.size w wr))
      (fun k _ => l.length - (intOf k).toNat)
    case atStart => exact ⟨0, by omega, rfl, fun i a hi => by omega, Below.refl _ _⟩
    case round =>
      obtain ⟨j, hj, rfl, hall, hb⟩ := hrel
      by_cases hlt : j < l.length
      · obtain ⟨a, ha⟩ : ∃ a, l[j]? = some a := ⟨l[j], List.getElem?_eq_getElem hlt⟩
        obtain ⟨ad, rfl, hc⟩ := (HA.out.below hb.out).at j a ha
        have HC := Lib.hid hc
        have HAJ := Lib.hid ha
        clear hc ha
        go_upto_region 6 with (first | (refine wpl_of_run rfl (runs_load_any 85 (.tmp 12) rfl (ad.add (j * 5)) (by rfl) a.cells _ HC.out 5 rfl Try.underlying85 rfl size85) ?_) | (refine wpl_alloc rfl 85 rfl Z5 5 72 info85 ?_) | (with_reducible refine wpl_store rfl 85 (.tmp 4) (.tmp 13) rfl _ a.cells rfl rfl 85 _ (Row.new _ Z5.toList 85) 5 size85 rfl rfl (oneCells _) ?_))
        have hb2 : Below w.heap.size w ((wr.alloc (.cells Z5 85)).setRow wr.heap.size a.cells.toArray) := below_setRow (hb.out.alloc hb.out.size _) hb.out.size _
        have hr2 : Row ((wr.alloc (.cells Z5 85)).setRow wr.heap.size a.cells.toArray) wr.heap.size a.cells 85 := (Row.new wr Z5.toList 85).setRow _
        generalize (wr.alloc (.cells Z5 85)).setRow wr.heap.size a.cells.toArray = W2 at *
        generalize wr.heap.size = g at *
        have C3 : W2.cell? ⟨g, 3, none⟩ = some (.slice a.ba a.b.length a.bc) := by rw [hr2.cell]; rfl
        have C2 : W2.cell? ⟨g, 2, none⟩ = some (.int .u64 a.stamp) := by rw [hr2.cell]; rfl
        have C4 : W2.cell? ⟨g, 4, none⟩ = some (.slice a.ka a.keep.length a.kc) := by rw [hr2.cell]; rfl
        have HB2 := Lib.hid hb2
        clear hb2 hr2 HC hb
        by_cases c3 : (a.b.length : Int) > 1000
        · have hg : act11Great a = true := by simp [act11Great]; omega
          have hx : x = true := by rw [HXT.out, List.any_eq_true]; exact ⟨a, List.mem_of_getElem? HAJ.out, hg⟩
          subst hx
          go_wp2
          go_ret
          exact ⟨rfl, HB2.out⟩
        · by_cases c4 : (a.keep.length : Int) > 400
          · have hg : act11Great a = true := by simp [act11Great]; omega
            have hx : x = true := by rw [HXT.out, List.any_eq_true]; exact ⟨a, List.mem_of_getElem? HAJ.out, hg⟩
            subst hx
            go_wp2
            go_ret
            exact ⟨rfl, HB2.out⟩
          · by_cases c5 : (a.stamp : Int) > 1152921504606846976
            · have hg : act11Great a = true := by simp [act11Great]; omega
              have hx : x = true := by rw [HXT.out, List.any_eq_true]; exact ⟨a, List.mem_of_getElem? HAJ.out, hg⟩
              subst hx
              go_wp2
              go_ret
              exact ⟨rfl, HB2.out⟩
            · have hg : act11Great a = false := by simp [act11Great]; omega
              have HG := Lib.hid hg
              clear hg
              go_wp2
              go_roundw
              case rel =>
                refine ⟨j + 1, by omega, by go_num, fun i a' hi ha' => ?_, HB2.out⟩
                by_cases hij : i = j
                · subst hij; rw [HAJ.out] at ha'; cases ha'; exact HG.out
                · exact hall.out i a' (by omega) ha'
              case measure => simp [intOf]; omega
      · obtain rfl : j = l.length := by omega
        have hx : x = false := by
          rw [HXT.out, List.any_eq_false]
          intro a ha
          obtain ⟨i, hi⟩ := List.mem_iff_getElem?.1 ha
          have hil : i < l.length := by
            rcases Nat.lt_or_ge i l.length with h | h
            · exact h
            · rw [List.getElem?_eq_none h] at hi; cases hi
          rw [hall.out i a hil hi]; simp
        subst hx
        clear hall
        go_wp2
        go_ret
        exact ⟨rfl, hb.out⟩

end Go.Proofs.Ytpddbffamejgeaa
