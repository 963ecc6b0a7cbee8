import Derived.Test.YtpddbffamejgeaaT
import Derived.Deep.CutRange
namespace Go.Proofs.Ytpddbffamejgeaa
open Go.RowKit

theorem length_pieceOf (b : List UInt8) (i : Nat) : (pieceOf b i).length = min 53 (b.length - 53 * i) := by simp [pieceOf]
theorem puts_end (d : DS) (a t s : Nat) (b : List UInt8) (i : Nat) : d.puts a t s b i 0 = (d, 0) := rfl
theorem put_len (d : DS) (k : Nat) (s : Sec) : (d.put k s).1.size = d.size ∧ (d.put k s).1.queue.length ≤ d.queue.length + 1 := by
  unfold DS.put; split <;> simp [DS.act]

theorem piece_full (b : List UInt8) (k : Nat) (h : (k + 1) * 53 ≤ b.length) : ((b.map Bv).drop (k * 53)).take ((k + 1) * 53 - k * 53) = (pieceOf b k).map Bv ∧ (k + 1) * 53 - k * 53 = (pieceOf b k).length := by
  have e : (k + 1) * 53 - k * 53 = 53 := by omega
  refine ⟨?_, by rw [length_pieceOf]; omega⟩
  rw [e, pieceOf, List.map_take, List.map_drop, Nat.mul_comm]
theorem piece_last (b : List UInt8) (k : Nat) (h0 : k * 53 ≤ b.length) (h : ¬ (k + 1) * 53 ≤ b.length) : ((b.map Bv).drop (k * 53)).take (b.length - k * 53) = (pieceOf b k).map Bv ∧ b.length - k * 53 = (pieceOf b k).length := by
  refine ⟨?_, by rw [length_pieceOf]; omega⟩
  rw [pieceOf, List.map_take, List.map_drop, Nat.mul_comm, List.take_of_length_le (by simp), List.take_of_length_le (by simp; omega)]

/-- A slice is handed in: its bytes, off the disk. -/
structure BArg (w : World) (role : Nat → Option Own) (pa : Option Addr) (l : List UInt8) (cap : Nat) : Prop where
  src : Src w pa (l.map Bv)
  off : 0 < l.length → ∀ ad, pa = some ad → role ad.block = none
  fits : l.length ≤ cap
  small : cap ≤ 9223372036854775807
theorem BArg.moves {w w' : World} {role role' : Nat → Option Own} {pa : Option Addr} {l : List UInt8} {cap : Nat} (h : BArg w role pa l cap) (hm : Moves w role w' role') : BArg w' role' pa l cap where
  src := by
    by_cases hl : 0 < l.length
    · exact hm.src h.src (h.off hl)
    · have : l = [] := List.eq_nil_of_length_eq_zero (by omega)
      subst this; exact Src.nil _ _
  off := fun hl ad e => by
    obtain ⟨ad', e', hc⟩ := h.src (by simpa using hl)
    rw [e] at e'; cases e'
    have h0 := hc 0 _ (by simp [hl]; rfl)
    have hb := block_lt_of_cell h0
    rw [Addr.add_block] at hb
    exact hm.old _ hb (h.off hl ad e)
  fits := h.fits
  small := h.small

set_option maxRecDepth 100000 in
set_option maxHeartbeats 1600000 in
theorem write_any {w : World} {p : Nat} {role : Nat → Option Own} {d : DS} (h : DiskAt w p role d) (at_ : Int) (ha0 : -9223372036854775808 ≤ at_) (ha1 : at_ ≤ 9223372036854775807) (stamp : Nat) (hst : stamp < 18446744073709551616) (ba : Option Addr) (b : List UInt8) (bc : Nat)
    (hb : BArg w role ba b bc) (hq : d.queue.length ≤ 900000) :
    Calls Try.prog 17 #[.pointer (some ⟨p, 0, none⟩), .int .i64 at_, .int .u64 stamp, .slice ba b.length bc] w (PutPost p role (d.write at_ stamp b) w) := by
  have hbl := hb.fits
  have hbs := hb.small
  have hs0 := disk_size h
  obtain ⟨x, hx⟩ : ∃ x, x = d.write at_ stamp b := ⟨_, rfl⟩
  rw [← hx]
  obtain ⟨tot, htot⟩ : ∃ t, t = spanN b.length := ⟨_, rfl⟩
  have hsp := span_any b.length
  rw [← htot] at hsp
  have hsz : d.size ≤ 2048 := by obtain ⟨M, a1, a2, f, hh⟩ := h; exact hh.sz
  have HX := Lib.hid hx
  have HT := Lib.hid htot
  have HS := Lib.hid hsp
  have HZ := Lib.hid hs0
  have HD := Lib.hid h
  have HB := Lib.hid hb
  clear h hb hs0 hx htot hsp
  by_cases hst0 : stamp = 0
  · subst hst0
    go_enter Try.func17, Try.ntmps17
    go_wp2_with (go_at_call 15; refine (HS.out _ (by omega)).mono ?_; rintro e w' ⟨rfl, rfl⟩)
    go_ret
    have := HX.out
    unfold DS.write at this
    rw [if_pos (by simp)] at this
    rw [this]
    exact ⟨rfl, role, HD.out, Moves.refl _ _⟩
  · have hst1 : ((stamp : Int) == 0) = false := by simp; omega
    by_cases ht0 : tot = 0
    · have ht1 : ((tot : Int) == 0) = true := by simp [ht0]
      go_enter Try.func17, Try.ntmps17
      go_wp2_with (go_at_call 15; refine (HS.out _ (by omega)).mono ?_; rintro e w' ⟨rfl, rfl⟩)
      go_ret
      have := HX.out
      unfold DS.write at this
      rw [if_pos (Or.inr (by rw [← HT.out]; exact ht0))] at this
      rw [this]
      exact ⟨rfl, role, HD.out, Moves.refl _ _⟩
    · have ht1 : ((tot : Int) == 0) = false := by simp; omega
      have ht2 : tot ≤ 255 := by have := HT.out; unfold spanN at this; split at this <;> omega
      by_cases hin : at_ < 0 ∨ at_ > (d.size : Int) - (tot : Nat)
      · have HE : Hid (PutPost p role x w (.returned (.int .i64 81)) w) := by
          have := HX.out
          unfold DS.write at this
          rw [if_neg (by rw [← HT.out]; omega), if_pos (by rw [← HT.out]; exact hin)] at this
          rw [this]
          exact ⟨rfl, role, HD.out, Moves.refl _ _⟩
        by_cases hin0 : at_ < 0
        · go_enter Try.func17, Try.ntmps17
          go_wp2_with (go_at_call 15; refine (HS.out _ (by omega)).mono ?_; rintro e w' ⟨rfl, rfl⟩)
          go_ret
          exact HE.out
        · have hin1 : (d.size : Int) - (tot : Int) < at_ := by omega
          go_enter Try.func17, Try.ntmps17
          go_wp2_with (first | (go_at_call 15; refine (HS.out _ (by omega)).mono ?_; rintro e w' ⟨rfl, rfl⟩) | (go_at_call 65; refine HZ.out.mono ?_; rintro e w' ⟨rfl, rfl⟩))
          go_ret
          exact HE.out
      · obtain ⟨a, rfl⟩ : ∃ a : Nat, at_ = a := ⟨at_.toNat, by omega⟩
        have hin1 : ¬ ((d.size : Int) - (tot : Int) < (a : Int)) := by omega
        have hfit : a + tot ≤ d.size := by omega
        go_enter Try.func17, Try.ntmps17
        go_wp2_with (first | (go_at_call 15; refine (HS.out _ (by omega)).mono ?_; rintro e w' ⟨rfl, rfl⟩) | (go_at_call 65; refine HZ.out.mono ?_; rintro e w' ⟨rfl, rfl⟩))
        go_loopw [35] (fun i wr => ∃ k : Nat, k ≤ tot ∧ i = .int .i64 k ∧ Hid (∃ dk rk, DiskAt wr p rk dk ∧ dk.size = d.size ∧ dk.queue.length ≤ d.queue.length + k ∧ Moves w role wr rk ∧ x = dk.puts a tot stamp b k (tot - k)))
          (fun i _ => tot - (intOf i).toNat)
        case atStart =>
          refine ⟨0, by omega, rfl, d, role, HD.out, rfl, by omega, Moves.refl _ _, ?_⟩
          have := HX.out
          unfold DS.write at this
          rw [if_neg (by rw [← HT.out]; omega), if_neg (by rw [← HT.out]; omega), ← HT.out] at this
          simpa using this
        case round =>
          obtain ⟨k, hk, rfl, hr⟩ := hrel
          obtain ⟨dk, rk, hdk, hdsz, hdq, hmk, hxk⟩ := hr.out
          have HDK := Lib.hid hdk
          have HMK := Lib.hid hmk
          have HXK := Lib.hid hxk
          have HBK := Lib.hid (HB.out.moves hmk)
          have HSZ := Lib.hid hdsz
          clear hr hdk hmk hxk HD HB HZ HX hdsz
          by_cases hlt : k < tot
          · have hlen : tot * 53 ≤ b.length + 52 ∨ tot = 1 := by have := HT.out; unfold spanN at this; split at this <;> omega
            have hlen2 : b.length ≤ tot * 53 := by have := HT.out; unfold spanN at this; split at this <;> omega
            go_upto_region 9 with fail
            go_cut [11] from 38 to 61 (fun v w' => (∃ pa pc, v = .slice pa (pieceOf b k).length pc ∧ Hid (Src wr pa ((pieceOf b k).map Bv))) ∧ w' = wr)
            case first =>
              have hpl := length_pieceOf b k
              have hlo : k * 53 ≤ b.length := by omega
              by_cases hm : (k + 1) * 53 ≤ b.length
              · have hm' : ((k : Int) + 1) * 53 ≤ b.length := by omega
                go_wp2_with (with_reducible refine wpl_sub (o := ⟨some 47, _, _, _, _, _⟩) rfl 23 (.tmp 38) (.tmp 40) (.tmp 46) rfl 5 Try.underlying23 size5 ba b.length bc (b.map Bv) (by simp) HBK.out.src rfl (k * 53) ((k + 1) * 53) ?h1 ?h2 (by omega) (by omega) (by omega) ?_)
                case h1 => show Value.int .i64 ((k : Int) * 53) = _; congr 1
                case h2 => show Value.int .i64 (((k : Int) + 1) * 53) = _; congr 1
                intro pa hsrc _
                have hpc := piece_full b k hm
                rw [hpc.1] at hsrc
                rw [hpc.2]
                have hSR := Lib.hid hsrc
                clear hsrc hpc
                go_wp2
                go_meet
                case rel => exact ⟨⟨pa, _, rfl, hSR⟩, rfl⟩
              · have hm' : ¬ ((k : Int) + 1) * 53 ≤ b.length := by omega
                go_wp2_with (with_reducible refine wpl_sub (o := ⟨some 47, _, _, _, _, _⟩) rfl 23 (.tmp 38) (.tmp 40) (.tmp 46) rfl 5 Try.underlying23 size5 ba b.length bc (b.map Bv) (by simp) HBK.out.src rfl (k * 53) b.length ?h1 ?h2 (by omega) (by omega) (by omega) ?_)
                intro pa hsrc _
                have hpc := piece_last b k hlo hm
                rw [hpc.1] at hsrc
                rw [hpc.2]
                have hSR := Lib.hid hsrc
                clear hsrc hpc
                go_wp2
                go_meet
                case rel => exact ⟨⟨pa, _, rfl, hSR⟩, rfl⟩
            case rest =>
              obtain ⟨⟨pa, pc, rfl, hsrc⟩, rfl⟩ := hcut
              have hmade := made_any k tot pc stamp pa (pieceOf b k) wc (by omega) (by omega) (by rw [length_pieceOf]; omega) hsrc.out
              have HMA := Lib.hid hmade
              have hpl : (pieceOf b k).length ≤ 53 := by rw [length_pieceOf]; omega
              have hsl : (secOf tot stamp b k).length = 64 := length_mk _ _ _ _ hpl
              have HSL := Lib.hid hsl
              clear hsrc hmade hsl
              have hq2 : dk.queue.length ≤ 1000000 := by omega
              have hak : a + k < dk.size := by rw [HSZ.out]; omega
              have hws := HDK.out.inn
              go_wp2_with (first | (go_at_call 66; refine HMA.out.mono ?_; clear HMA; rintro e w2 ⟨rfl, hb2⟩; have HD2 := Lib.hid (HDK.out.below hb2); have HM2 := Lib.hid (HMK.out.trans (Moves.of_below hb2)); clear hb2) | (go_at_call 20; refine (disk_put HD2.out (a + k) hak (secOf tot stamp b k) HSL.out hq2).mono ?_; rintro e w3 ⟨rfl, r3, hd3, hm3⟩; have HD3 := Lib.hid hd3; have HM3 := Lib.hid (HM2.out.trans hm3); clear hd3 hm3))
              · have h0 : (dk.put (a + k) (secOf tot stamp b k)).2 ≠ 0 := by
                  have hne : (((dk.put (a + k) (secOf tot stamp b k)).2 : Int) != 0) = true := by assumption
                  simpa using hne
                have hxk : x = dk.put (a + k) (secOf tot stamp b k) := by
                  rw [HXK.out, show tot - k = (tot - (k + 1)) + 1 by omega]
                  simp only [DS.puts, h0, if_false]
                go_ret
                rw [hxk]
                exact ⟨rfl, r3, HD3.out, HM3.out⟩
              · have h0 : (dk.put (a + k) (secOf tot stamp b k)).2 = 0 := by
                  have hne : (((dk.put (a + k) (secOf tot stamp b k)).2 : Int) != 0) = false := by assumption
                  simpa using hne
                have hxk : x = (dk.put (a + k) (secOf tot stamp b k)).1.puts a tot stamp b (k + 1) (tot - (k + 1)) := by
                  rw [HXK.out, show tot - k = (tot - (k + 1)) + 1 by omega]
                  simp only [DS.puts, h0, if_true]
                have hpl2 := put_len dk (a + k) (secOf tot stamp b k)
                refine ⟨⟨k + 1, by omega, by go_num, _, r3, HD3.out, ?_, ?_, HM3.out, hxk⟩, by simp [intOf]; omega⟩
                · rw [hpl2.1, HSZ.out]
                · omega
          · obtain rfl : k = tot := by omega
            have hxk : x = (dk, 0) := by
              have := HXK.out
              rw [Nat.sub_self] at this
              exact this
            have HXX := Lib.hid hxk
            clear hxk
            go_wp2
            go_ret
            rw [HXX.out]
            exact ⟨rfl, rk, HDK.out, HMK.out⟩

end Go.Proofs.Ytpddbffamejgeaa
