import Derived.Test.YtpddbffamejgeaaZ
import Derived.Laws.BytesString
namespace Go.Proofs.Ytpddbffamejgeaa
open Go.RowKit

/-- A string of bytes. -/
def strL (l : List UInt8) : ByteArray := ⟨l.toArray⟩
theorem strL_inj {a b : List UInt8} : strL a = strL b ↔ a = b := by
  constructor
  · intro h
    have : a.toArray = b.toArray := by simpa [strL] using h
    simpa using this
  · rintro rfl; rfl
theorem foldl_push : ∀ (l : List UInt8) (s : ByteArray), (l.map fun x => (x.toNat : Int)).foldl (fun r n => r.push (UInt8.ofNat n.toNat)) s = ⟨s.data ++ l.toArray⟩
  | [], s => by simp
  | x :: l, s => by
    simp only [List.map_cons, List.foldl_cons]
    rw [foldl_push l]
    have : UInt8.ofNat ((x.toNat : Int)).toNat = x := by simp
    rw [this]
    show ByteArray.mk (s.data.push x ++ l.toArray) = _
    congr 1
    simp
/-- Bytes as a string. -/
theorem run_toString {w : World} {pa : Option Addr} {l : List UInt8} {cap : Nat} (h : Src w pa (l.map Bv)) : (convert 23 9 (.slice pa l.length cap)).run Try.prog w = .ok (.string (strL l)) w := by
  have hb : (convert 23 9 (.slice pa l.length cap)).run Try.prog w = (Conv.bytesToString (.slice pa l.length cap)).run Try.prog w := run_convert_bytes_string w 23 9 5 pa l.length cap Try.underlying23 Try.underlying5 Try.underlying9
  rw [hb]
  by_cases hl : 0 < l.length
  · obtain ⟨ad, rfl, hc⟩ := h (by simpa using hl)
    have hld : (loadCells ad l.length).run Try.prog w = .ok ((l.map fun x => (x.toNat : Int)).map (Value.int .u8)).toArray w := by
      have e : (l.map fun x => (x.toNat : Int)).map (Value.int .u8) = l.map Bv := by simp
      rw [e]
      have := run_loadCells_list (P := Try.prog) w ad (l.map Bv) hc
      simpa using this
    have e : (ByteArray.mk (ByteArray.empty.data ++ l.toArray)) = strL l := by
      show ByteArray.mk (#[] ++ l.toArray) = _
      rw [Array.empty_append]; rfl
    rw [run_bytesToString w ad l.length cap _ hld, foldl_push, e]
  · have : l = [] := List.eq_nil_of_length_eq_zero (by omega)
    subst this
    cases pa with
    | none => rfl
    | some ad => rfl
theorem owns_src {w : World} {base : Nat} {v : Value} {l : List UInt8} (h : w.ownsRow base 5 1 v l.length (l.map Bv)) : ∃ oa oc, v = .slice oa l.length oc ∧ Src w oa (l.map Bv) ∧ l.length ≤ oc ∧ oc ≤ maxLen := by
  obtain ⟨_, h2⟩ := h
  rcases h2 with ⟨rfl, h0⟩ | ⟨g, cap, cur, hv, hg, hh, h1, h2, h3, h4⟩
  · have : l = [] := List.eq_nil_of_length_eq_zero h0
    subst this
    exact ⟨none, 0, rfl, Src.nil _ _, Nat.le_refl _, by unfold maxLen; omega⟩
  · refine ⟨_, cap, hv, ?_, h1, h2⟩
    have hr : Row w g cur.toList 5 := by simpa [Row] using hh
    exact Src.of_row hr 0 _ fun j v hj => by rw [Nat.zero_add]; exact take_get h4 hj

/-- A slice that was just made. -/
theorem barg_new {w : World} {p : Nat} {role : Nat → Option Own} {d : DS} (h : DiskAt w p role d) (l : List UInt8) (hl : l.length ≤ 9223372036854775807) {t : TypeId} :
    BArg (w.alloc (.cells (l.map Bv).toArray t)) role (some ⟨w.heap.size, 0, none⟩) l l.length where
  src := Src.of_row (Row.new w (l.map Bv) t) 0 _ fun j v hj => by rwa [Nat.zero_add]
  off := fun _ ad e => by cases e; exact h.fresh
  fits := Nat.le_refl _
  small := hl

set_option maxRecDepth 100000 in
set_option maxHeartbeats 400000 in
theorem alive_any (w : World) : Calls Try.prog 14 #[] w fun e w' => e = .returned (.bool true) ∧ Below w.heap.size w w' := by
  have hmk : ∀ W : World, (Instr.makeSlice 23 (.int .i64 54) (.int .i64 54)).run Try.prog W = .ok (.slice (some ⟨W.heap.size, 0, none⟩) 54 54) (W.alloc (.cells ((List.replicate 54 (0 : UInt8)).map Bv).toArray 5)) := fun W => by kernel_rfl
  obtain ⟨z54, hz54⟩ : ∃ z, z = List.replicate 54 (0 : UInt8) := ⟨_, rfl⟩
  rw [← hz54] at hmk
  have hzl : z54.length = 54 := by rw [hz54]; rfl
  have hsp : spanN z54.length = 2 := by rw [hzl]; rfl
  obtain ⟨d1, hw1, hf1, hd1, hs1, _, hq1, hst1, _⟩ := write_live (DS.blank 4) 1 7 z54 rfl rfl (by omega) (by omega) (by rw [hsp]; decide)
  have hrd := read_stands hst1 (by omega) (by omega) (by omega) (e := 4) (by rw [hs1]; decide) (by rw [hsp]; decide)
  rw [hsp] at hrd
  have hs54 : ∀ W, Calls Try.prog 15 #[.int .i64 54] W fun e w' => e = .returned (.int .i64 2) ∧ W = w' := fun W => span_any 54 W (by omega)
  have hW : ∀ W p role ba bc, DiskAt W p role (DS.blank 4) → BArg W role ba z54 bc → Calls Try.prog 17 #[.pointer (some ⟨p, 0, none⟩), .int .i64 1, .int .u64 7, .slice ba 54 bc] W (PutPost p role (d1, 0) W) := fun W p role ba bc hd hb => by
    have := write_any hd 1 (by omega) (by omega) 7 (by omega) ba z54 bc hb (by simp [DS.blank])
    rw [hzl, show ((1 : Int)) = ((1 : Nat) : Int) from rfl, hw1] at this
    exact this
  have hR : ∀ W p role, DiskAt W p role d1 → Calls Try.prog 18 #[.pointer (some ⟨p, 0, none⟩), .int .i64 1, .int .i64 4] W (ReadPost W ⟨z54, 7, 2, 0⟩) := fun W p role hd => by
    have := read_any hd 1 4 (by omega)
    rw [show ((1 : Int)) = ((1 : Nat) : Int) from rfl, hrd] at this
    exact this
  have HW := Lib.hid hW
  have HR := Lib.hid hR
  have HS54 := Lib.hid hs54
  have HZL := Lib.hid hzl
  clear hz54 hsp hw1 hf1 hd1 hs1 hq1 hst1 hrd hs54 hzl hW hR
  go_enter Try.func14, Try.ntmps14
  go_wp2_with (first | (go_at_call 16; refine (disk_blank _ 4 4 (by omega)).mono ?_; rintro e wA ⟨p, role, rfl, hdA, hbA, hrA⟩; have HDA := Lib.hid hdA; have HBA := Lib.hid hbA; have HRA := Lib.hid hrA; clear hdA hbA hrA) | (go_at_call 15; refine (HS54.out _).mono ?_; rintro e w' ⟨rfl, rfl⟩) | (go_at_call 17; refine (HW.out _ p role _ _ (HDA.out.below ((Below.refl _ _).alloc (Nat.le_refl _) _)) (by have hbb := barg_new HDA.out z54 (by rw [HZL.out]; omega) (t := 5); rw [HZL.out] at hbb; exact hbb)).mono ?_; rintro e wB ⟨rfl, roleB, hdB, hmB⟩; have HDB := Lib.hid hdB; have HMB := Lib.hid hmB; clear hdB hmB) | (go_at_call 18; refine (HR.out _ p roleB HDB.out).mono ?_; rintro e wC ⟨v, rfl, hownC, hbC⟩; obtain ⟨oa, oc, rfl, hsrc, _, _⟩ := owns_src hownC; have HBC := Lib.hid hbC; have hzl := HZL.out; clear hbC hownC))
  go_ret
  refine ⟨rfl, ?_⟩
  have hbn : Below w.heap.size w (wA.alloc (.cells (z54.map Bv).toArray 5)) := HBA.out.alloc HBA.out.size _
  have hbm : Below w.heap.size _ wB := HMB.out.below fun k hk => ⟨Nat.lt_of_lt_of_le hk hbn.size, HRA.out k hk⟩
  exact (hbn.trans hbm).trans (HBC.out.mono (hbn.trans hbm).size)

end Go.Proofs.Ytpddbffamejgeaa
