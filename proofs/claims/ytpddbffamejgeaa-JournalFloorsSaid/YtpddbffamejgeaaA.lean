import Derived.Test.YtpddbffamejgeaaRows
import Derived.Test.YtpddbffamejgeaaB
namespace Go.Proofs.Ytpddbffamejgeaa
open Go.RowKit

theorem info34 : (Try.prog.info? 34).map (fun i => (i.zero, i.size, i.bytes)) = some (some (.agg Z64), 64, 64) := by kernel_rfl
theorem size34 : (Try.prog.info? 34).map (·.size) = some 64 := by kernel_rfl
theorem size5 : (Try.prog.info? 5).map (·.size) = some 1 := by kernel_rfl

/-- The k-th byte of a number. -/
def nth (n k : Nat) : UInt8 := UInt8.ofNat (n / 256 ^ k)
/-- A sector. -/
def mk (i total stamp : Nat) (piece : List UInt8) : List UInt8 :=
  UInt8.ofNat i :: UInt8.ofNat total :: UInt8.ofNat piece.length :: (piece ++ (List.replicate (53 - piece.length) 0 ++ (List.range 8).map (nth stamp)))
/-- A sector on its way: j of the stamp's bytes stand. -/
def mkTo (i total stamp : Nat) (piece : List UInt8) (j : Nat) : List UInt8 :=
  UInt8.ofNat i :: UInt8.ofNat total :: UInt8.ofNat piece.length :: (piece ++ (List.replicate (53 - piece.length) 0 ++ ((List.range j).map (nth stamp) ++ List.replicate (8 - j) 0)))
theorem mkTo_end (i total stamp : Nat) (piece : List UInt8) : mkTo i total stamp piece 8 = mk i total stamp piece := by simp [mkTo, mk]
theorem length_mkTo (i total stamp : Nat) (piece : List UInt8) (j : Nat) (hp : piece.length ≤ 53) (hj : j ≤ 8) : (mkTo i total stamp piece j).length = 64 := by simp [mkTo]; omega
theorem length_mk (i total stamp : Nat) (piece : List UInt8) (hp : piece.length ≤ 53) : (mk i total stamp piece).length = 64 := by simp [mk]; omega
theorem mkTo_step (i total stamp : Nat) (piece : List UInt8) (j : Nat) (hp : piece.length ≤ 53) (hj : j < 8) :
    ((mkTo i total stamp piece j).map Bv).set (56 + j) (Bv (nth stamp j)) = (mkTo i total stamp piece (j + 1)).map Bv := by
  rw [← List.map_set]
  congr 1
  have e : mkTo i total stamp piece j = (UInt8.ofNat i :: UInt8.ofNat total :: UInt8.ofNat piece.length :: (piece ++ (List.replicate (53 - piece.length) 0 ++ ((List.range j).map (nth stamp))))) ++ (0 :: List.replicate (8 - (j + 1)) 0) := by
    rw [← List.replicate_succ, show 8 - (j + 1) + 1 = 8 - j by omega]; simp [mkTo]
  have hl : 56 + j = (UInt8.ofNat i :: UInt8.ofNat total :: UInt8.ofNat piece.length :: (piece ++ (List.replicate (53 - piece.length) 0 ++ ((List.range j).map (nth stamp))))).length + 0 := by simp; omega
  rw [e, hl, List.set_append_right _ _ (by omega)]
  simp [mkTo, List.range_succ]
theorem mkTo_zero (i total stamp : Nat) (piece : List UInt8) (j : Nat) (hp : piece.length ≤ 53) (hj : j < 8) : ((mkTo i total stamp piece j).map Bv)[56 + j]? = some (Bv 0) := by
  have e : mkTo i total stamp piece j = (UInt8.ofNat i :: UInt8.ofNat total :: UInt8.ofNat piece.length :: (piece ++ (List.replicate (53 - piece.length) 0 ++ ((List.range j).map (nth stamp))))) ++ (0 :: List.replicate (8 - (j + 1)) 0) := by
    rw [← List.replicate_succ, show 8 - (j + 1) + 1 = 8 - j by omega]; simp [mkTo]
  have hl : 56 + j = (UInt8.ofNat i :: UInt8.ofNat total :: UInt8.ofNat piece.length :: (piece ++ (List.replicate (53 - piece.length) 0 ++ ((List.range j).map (nth stamp))))).length + 0 := by simp; omega
  rw [List.getElem?_map, e, hl, List.getElem?_append_right (by omega)]
  simp
theorem nth_cast (stamp j : Nat) : Value.int .u8 ((stamp : Int) / 256 ^ j % 256) = Bv (nth stamp j) := by
  simp [nth]
def hdrL (i total n : Nat) : List Value := Bv (UInt8.ofNat i) :: Bv (UInt8.ofNat total) :: Bv (UInt8.ofNat n) :: List.replicate 61 (Bv 0)
theorem length_hdrL (i total n : Nat) : (hdrL i total n).length = 64 := by simp [hdrL]
theorem splice_mk (i total stamp : Nat) (piece : List UInt8) (hp : piece.length ≤ 53) :
    splice (hdrL i total piece.length) 3 (piece.map Bv) = (mkTo i total stamp piece 0).map Bv := by
  simp only [splice, hdrL, mkTo, List.length_map, List.take_succ_cons, List.take_zero, List.map_cons, List.map_append, List.map_replicate, List.cons_append, List.nil_append, Nat.add_comm 3, List.drop_succ_cons, List.drop_replicate, List.range_zero, List.map_nil]
  rw [show 61 - piece.length = (53 - piece.length) + 8 by omega, ← List.replicate_append_replicate]
theorem hdr_eq (i total n : Nat) (hi : i < 256) (ht : total < 256) (hp : n < 256) :
    ((Z64.setIfInBounds 0 (Value.int .u8 (i : Int))).setIfInBounds 1 (Value.int .u8 (total : Int))).setIfInBounds 2 (Value.int .u8 (n : Int))
      = (hdrL i total n).toArray := by
  have e : ∀ m : Nat, m < 256 → (m : Int) = ((UInt8.ofNat m).toNat : Int) := fun m hm => by simp; omega
  rw [e i hi, e total ht, e n hp]
  rfl

set_option maxRecDepth 100000 in
set_option maxHeartbeats 400000 in
theorem made_any (i total pcap stamp : Nat) (pa : Option Addr) (piece : List UInt8) (w : World) (hi : i < 256) (ht : total < 256) (hp : piece.length ≤ 53)
    (hsrc : Src w pa (piece.map Bv)) :
    Calls Try.prog 66 #[.int .i64 i, .int .i64 total, .int .u64 stamp, .slice pa piece.length pcap] w fun e w' => e = .returned (.agg ((mk i total stamp piece).map Bv).toArray) ∧ Below w.heap.size w w' := by
  have z0 : Z64[0]? = some (.int .u8 0) := rfl
  have z1 : Z64[1]? = some (.int .u8 0) := rfl
  have z2 : Z64[2]? = some (.int .u8 0) := rfl
  go_enter Try.func66, Try.ntmps66
  go_wp2_with (first | (refine wpl_alloc rfl 34 rfl Z64 64 64 info34 ?_) | (with_reducible refine wpList_copy_splice (o := ⟨some 23, _, _, _, _, _⟩) rfl (.tmp 21) (.tmp 22) _ _ rfl 5 Try.underlying23 size5 _ _ _ _ _ _ rfl rfl (w.heap.size + 1) 3 (hdrL i total piece.length) 34 ?h1 (piece.map Bv) ?h2 (((hsrc.alloc _).alloc _).pos rfl) ?h4 ?h5 (w.heap.size + 1) (w.alloc (.cells Z64 34)) ?h6 ?h7 ?_))
  case h1 =>
    rw [hdr_eq i total piece.length hi ht (by omega)]
    exact heap_alloc2_new _ _ _
  case h2 =>
    have : piece.length.min 53 = piece.length := Nat.min_eq_left hp
    simp [this]
  case h4 => simp [length_hdrL]; omega
  case h5 => exact oneB' _
  case h6 => exact (Below.refl _ _).alloc (by simp) _
  case h7 => omega
  intro w1 hg hb
  rw [splice_mk i total stamp piece hp] at hg
  clear z0 z1 z2
  go_wp2
  go_loopw [2, 10] (fun s k wr => ∃ j : Nat, j ≤ 8 ∧ k = .int .i64 ((56 + j : Nat) : Int) ∧ s = .int .u64 ((stamp / 256 ^ j : Nat) : Int) ∧ Row wr (w.heap.size + 1) ((mkTo i total stamp piece j).map Bv) 34 ∧ Below (w.heap.size + 1) (w.alloc (.cells Z64 34)) wr)
    (fun _ k _ => 64 - (intOf k).toNat)
  case atStart => exact ⟨0, by omega, rfl, by simp, hg, hb⟩
  case round =>
    obtain ⟨j, hj, rfl, rfl, hgr, hbr⟩ := hrel
    clear hg hb
    by_cases hlt : j < 8
    · have hc : wr.cell? ⟨w.heap.size + 1, 56 + j, none⟩ = some (Bv 0) := by
        rw [hgr.cell]; exact mkTo_zero _ _ _ _ _ hp hlt
      have hf : wr.frozen? ⟨w.heap.size + 1, 56 + j, none⟩ = false := hgr.thaw _
      go_wp2
      rw [nth_cast]
      have hg2 := hgr.set (56 + j) (Bv (nth stamp j))
      rw [mkTo_step _ _ _ _ _ hp hlt] at hg2
      refine ⟨⟨j + 1, by omega, by go_num, ?_, hg2, hbr.setCell (by simp) _⟩, by simp [intOf]; omega⟩
      rw [Nat.pow_succ, ← Nat.div_div_eq_div_mul]; simp
    · obtain rfl : j = 8 := by omega
      rw [mkTo_end] at hgr
      have hl := length_mk i total stamp piece hp
      have h8 : Row wr w.heap.size Z64.toList 34 := (Row.new w Z64.toList 34).below hbr (by omega)
      go_wp2_with (first | (with_reducible refine wpList_load_row rfl 34 (.tmp 9) rfl (w.heap.size + 1) rfl 34 _ (0, 0) _ hgr.eq Try.underlying34 rfl ?h1 ?_) | (with_reducible refine wpList_store_row rfl 34 (.tmp 8) (.tmp 34) rfl w.heap.size _ rfl rfl 34 _ h8.eq ?h2 ?h3 ?h4 ?_))
      case h1 => simp [hl, size34]
      case h2 => simp [hl, size34]
      case h3 => simp [hl]; rfl
      case h4 => exact oneB _
      refine bodyPost_ret (results_cell_row rfl _ _ w.heap.size 34 _ (0, 0) _ rfl (h8.setRow _).eq Try.underlying34 rfl (by simp [hl, size34])) rfl ⟨rfl, ?_⟩
      exact below_setRow (((Below.refl _ _).alloc (Nat.le_refl _) _).trans (hbr.mono (by omega))) (Nat.le_refl _) _

end Go.Proofs.Ytpddbffamejgeaa
