/- slotAlive; SlotTurns' walk. -/
import Derived.Test.YtpddbffamejgeaaBe
import Derived.Test.YtpddbffamejgeaaAt
import Derived.Test.YtpddbffamejgeaaAu
namespace Go.Proofs.Ytpddbffamejgeaa
open Go.RowKit Go.Proofs.YtpddbffamejgeaaW.PrintLast

set_option maxRecDepth 100000 in
set_option maxHeartbeats 800000 in
theorem slotalive_any (w : World) : Calls Try.prog 41 #[] w (BoolPost w true) := by
  have hb := slot_blank 6 1 2 (by omega) (by omega) (by omega)
  obtain ⟨d1, e1, _, _, s1, q1, _, sw1, _⟩ := hb.write (whole_blank 6) rfl rfl [97, 98] (by decide) (by decide) (by omega)
  have hn := (hb.next).2.2.2 rfl
  rw [hn] at e1 sw1
  have hW : ∀ W p role ba, DiskAt W p role (DS.blank 6) → BArg W role ba [97, 98] 2 → Calls Try.prog 42 #[.pointer (some ⟨p, 0, none⟩), .int .i64 1, .int .i64 2, .slice ba 2 2] W (SlotWritePost p role (d1, 1, 0) W) := fun W p role ba h1 h2 => by
    have := slotwrite_any h1 1 2 (by omega) (by omega) (by decide) [97, 98] ba 2 h2 (by decide) (by simp [DS.blank])
    rw [e1] at this
    exact this
  have hR : ∀ W p role, DiskAt W p role d1 → Calls Try.prog 43 #[.pointer (some ⟨p, 0, none⟩), .int .i64 1, .int .i64 2] W (SlotReadPost W ([97, 98], 1)) := fun W p role h1 => by
    have := slotread_any h1 1 2 (by omega) (by omega) (by rw [s1]; decide)
    rw [sw1.read] at this
    exact this
  have kc := fun (w : World) (C : Array Value) (n c : Nat) => Lib.run_convert_bytes_const (P := Try.prog) w 23 5 C n c Try.underlying23 Try.underlying5
  have HW := Lib.hid hW
  have HR := Lib.hid hR
  have he : slotErr ([97, 98], 1) = 0 := rfl
  have HE := Lib.hid he
  have hstr : ((ByteArray.mk #[97, 98]) : ByteArray).toList = (strL [97, 98]).toList := rfl
  clear hW hR e1 s1 q1 sw1 hb hn he hstr
  go_enter Try.func41, Try.ntmps41
  go_wp2_with (first
    | (go_at_call 16; refine (disk_blank _ 6 6 (by omega)).mono ?_; rintro e wA ⟨p, role, rfl, hdA, hbA, hrA⟩; have hmid : Mid w p role (DS.blank 6) wA := ⟨hdA, hbA, hrA⟩; have HM := Lib.hid hmid; clear hdA hbA hrA hmid)
    | (go_at_call 42; refine (HW.out _ p role _ (HM.out.at_.below ((Below.refl _ _).alloc (Nat.le_refl _) _)) (barg_lit HM.out.at_ [97, 98] (by decide) (t := 5))).mono ?_; clear HW; rintro e wC ⟨rfl, r3, hdC, hmC⟩; have HMC := Lib.hid ((HM.out.grow ((Below.refl _ _).alloc (Nat.le_refl _) _)).moves hdC hmC); clear hdC hmC)
    | (go_at_call 43; refine (HR.out _ p r3 HMC.out.at_).mono ?_; clear HR; rintro e wD ⟨vD, rfl, hownD, hbD⟩; rw [HE.out]; obtain ⟨oa, oc, rfl, hsD, _, _⟩ := owns_src hownD; have HMD := Lib.hid (HMC.out.grow hbD); have hcv : (convert 23 9 (.slice oa 2 oc)).run Try.prog wD = .ok (.string (strL [97, 98])) wD := run_toString hsD; clear hbD hownD hsD))
  all_goals first
    | (exact absurd (strL_toList _) (by assumption))
    | (go_ret; exact ⟨rfl, HMD.out.below⟩)

/-- In the middle of SlotTurns. -/
structure TurnSt (w W : World) (p : Nat) (role : Nat → Option Own) (d : DS) (j : Nat) (cur : List UInt8) : Prop where
  mid : Mid w p role d W
  fuse : d.fuse = none
  dead : d.dead = false
  whole : Whole d
  size : d.size = 40
  queue : d.queue = []
  slot : SlotW d 0 20 j j cur

set_option maxRecDepth 100000 in
set_option maxHeartbeats 3200000 in
theorem turns_any (w : World) (pa : Option Addr) (L : List (List UInt8)) (cap : Nat) (hL : ListsIn w pa L) :
    Calls Try.prog 7 #[.slice pa L.length cap] w (BoolPost w true) := by
  have HAL := Lib.hid (slotalive_any w)
  have HL := Lib.hid hL
  clear hL
  by_cases c3 : (20 : Int) < L.length
  · go_enter Try.func7, Try.ntmps7
    go_wp2_with (go_at_call 41; refine HAL.out.mono ?_; rintro e w1 ⟨rfl, hb1⟩; have HB1 := Lib.hid hb1; clear hb1)
    go_ret
    exact ⟨rfl, HB1.out⟩
  go_enter Try.func7, Try.ntmps7
  go_wp2_with (first
    | (go_at_call 41; refine HAL.out.mono ?_; clear HAL; rintro e w1 ⟨rfl, hb1⟩; have HB1 := Lib.hid hb1; clear hb1)
    | (go_at_call 16; refine (disk_blank _ 40 40 (by omega)).mono ?_; rintro e wA ⟨p, role, rfl, hdA, hbA, hrA⟩; have hst : TurnSt w wA p role (DS.blank 40) 0 [] := ⟨⟨hdA, HB1.out.trans (hbA.mono HB1.out.size), fun k hk => hrA k (Nat.lt_of_lt_of_le hk HB1.out.size)⟩, rfl, rfl, whole_blank 40, rfl, rfl, slot_blank 40 0 20 (by omega) (by omega) (by omega)⟩; have HST := Lib.hid hst; clear hdA hbA hrA hst))
  go_loopw [19] (fun k wr => ∃ (j : Nat) (r : Nat → Option Own) (d : DS) (cur : List UInt8), j ≤ L.length ∧ k = .int .i64 j ∧ Hid (TurnSt w wr p r d j cur))
    (fun k _ => L.length - (intOf k).toNat)
  case atStart => exact ⟨0, role, DS.blank 40, [], by omega, rfl, HST⟩
  case round =>
    obtain ⟨j, r, d, cur, hj, rfl, hst⟩ := hrel
    clear HST HB1
    by_cases hlt : j < L.length
    · obtain ⟨x, hx⟩ : ∃ x, L[j]? = some x := ⟨L[j], List.getElem?_eq_getElem hlt⟩
      obtain ⟨ad, xa, xc, rfl, hc0, hs, hf, hm⟩ := HL.out j x hx
      have hc : wr.cell? (ad.add j) = some (.slice xa x.length xc) := by
        have := hst.out.mid.below.cell (block_lt_of_cell hc0)
        rw [this]; exact hc0
      have HS := Lib.hid hs
      clear hs hc0 hx
      by_cases c4 : (900 : Int) < x.length
      · go_wp2
        go_ret
        exact ⟨rfl, hst.out.mid.below⟩
      have hsp : spanN (sealedN x).length ≤ 18 := by rw [length_sealedN]; have := @spanN_lo (x.length + 4); omega
      have hsp0 : spanN (sealedN x).length ≠ 0 := by have := spanN_pos (n := (sealedN x).length) (by rw [length_sealedN]; omega); omega
      obtain ⟨d', e1, f1, g1, s1, q1, w1', sw1, _⟩ := hst.out.slot.write hst.out.whole hst.out.fuse hst.out.dead x hsp0 (by omega) (by omega)
      have hn := (hst.out.slot.next).2.2.2 rfl
      rw [hn] at e1 sw1
      have hW : Calls Try.prog 42 #[.pointer (some ⟨p, 0, none⟩), .int .i64 0, .int .i64 20, .slice xa x.length xc] wr fun e w' => e = .returned (.tuple #[.int .u64 ((j : Int) + 1), .int .i64 0]) ∧ ∃ role', DiskAt w' p role' d' ∧ Moves wr r w' role' := by
        have := slotwrite_any hst.out.mid.at_ 0 20 (by omega) (by omega) (by rw [hst.out.size]; omega) x xa xc (hst.out.mid.barg HS.out hf (by unfold maxLen at hm; omega)) (by omega) (by rw [hst.out.queue]; simp)
        rw [e1] at this
        exact this
      have hR : ∀ W role, DiskAt W p role d' → Calls Try.prog 43 #[.pointer (some ⟨p, 0, none⟩), .int .i64 0, .int .i64 20] W fun e w' => ∃ v, e = .returned (.tuple #[v, .int .u64 ((j : Int) + 1), .int .i64 0]) ∧ w'.ownsRow W.heap.size 5 1 v x.length (x.map Bv) ∧ Below W.heap.size W w' := fun W role h1 => by
        have := slotread_any h1 0 20 (by omega) (by omega) (by rw [s1, hst.out.size]; omega)
        rw [sw1.read] at this
        exact this
      have hnew : ∀ W role, Mid w p role d' W → TurnSt w W p role d' (j + 1) x := fun W role h => ⟨h, f1, g1, w1', by rw [s1]; exact hst.out.size, q1, sw1⟩
      have HW := Lib.hid hW
      have HR := Lib.hid hR
      have HNEW := Lib.hid hnew
      clear hW hR hnew e1 f1 g1 s1 q1 w1' sw1 hn hsp hsp0
      go_wp2_with (first
        | (go_at_call 42; refine HW.out.mono ?_; clear HW; rintro e w2 ⟨rfl, r2, hd2, hm2⟩; have HM2 := Lib.hid (hst.out.mid.moves hd2 hm2); clear hd2 hm2)
        | (go_at_call 43; refine (HR.out _ _ HM2.out.at_).mono ?_; clear HR; rintro e w3 ⟨v3, rfl, hown3, hb3⟩; obtain ⟨oa, oc, rfl, hs3, _, _⟩ := owns_src hown3; have HM3 := Lib.hid (HM2.out.grow hb3); have hcv1 : (convert 23 9 (.slice oa x.length oc)).run Try.prog w3 = .ok (.string (strL x)) w3 := run_toString hs3; have hcv2 : (convert 23 9 (.slice xa x.length xc)).run Try.prog w3 = .ok (.string (strL x)) w3 := run_toString (HS.out.below HM3.out.below); clear hb3 hown3 hs3))
      exact ⟨⟨j + 1, r2, d', x, by omega, by go_num, HNEW.out _ _ HM3.out⟩, by simp [intOf]; omega⟩
    · obtain rfl : j = L.length := by omega
      go_wp2
      go_ret
      exact ⟨rfl, hst.out.mid.below⟩

end Go.Proofs.Ytpddbffamejgeaa
