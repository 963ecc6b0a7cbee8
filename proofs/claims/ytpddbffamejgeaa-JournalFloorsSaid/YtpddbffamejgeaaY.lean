import Derived.Test.YtpddbffamejgeaaV
namespace Go.Proofs.Ytpddbffamejgeaa
open Go.RowKit

/-- The greatest stamp of n sectors from the i-th on. -/
def topFrom (d : DS) (i : Nat) (t : Nat) : Nat → Nat
  | 0 => t
  | n + 1 => topFrom d (i + 1) (max t (numS (d.get i))) n
def DS.top (d : DS) (i e : Nat) : Nat := topFrom d i 0 (e - i)
def TopPost (w : World) (t : Nat) (e : Ending) (w' : World) : Prop := e = .returned (.tuple #[.int .u64 (t : Nat), .int .i64 0]) ∧ Below w.heap.size w w'

set_option maxRecDepth 100000 in
set_option maxHeartbeats 1600000 in
theorem top_any {w : World} {p : Nat} {role : Nat → Option Own} {d : DS} (h : DiskAt w p role d) (i e : Nat) (hie : i ≤ e) (he : e ≤ d.size) :
    Calls Try.prog 31 #[.pointer (some ⟨p, 0, none⟩), .int .i64 i, .int .i64 e] w (TopPost w (d.top i e)) := by
  obtain ⟨x, hx⟩ : ∃ x, x = d.top i e := ⟨_, rfl⟩
  rw [← hx]
  have hsz : d.size ≤ 2048 := by obtain ⟨M, a1, a2, f, hh⟩ := h; exact hh.sz
  have HX := Lib.hid hx
  have HD := Lib.hid h
  clear hx h
  go_enter Try.func31, Try.ntmps31
  go_wp2_with fail
  go_loopw [8, 9] (fun t k wr => ∃ j m : Nat, i ≤ j ∧ j ≤ e ∧ k = .int .i64 j ∧ t = .int .u64 m ∧ Hid (x = topFrom d j m (e - j)) ∧ Hid (Below w.heap.size w wr))
    (fun _ k _ => e - (intOf k).toNat)
  case atStart => exact ⟨i, 0, by omega, hie, rfl, rfl, HX, Below.refl _ _⟩
  case round =>
    obtain ⟨j, m, hj1, hj2, rfl, rfl, hxm, hb⟩ := hrel
    by_cases hlt : j < e
    · obtain ⟨s, hs⟩ : ∃ s, s = d.get j := ⟨_, rfl⟩
      have hdr := HD.out.below hb.out
      have hsl : s.length = 64 := by rw [hs]; exact hdr.len _
      have hget := disk_get hdr j (by omega)
      rw [← hs] at hget
      have HG := Lib.hid hget
      have HSL := Lib.hid hsl
      have HS := Lib.hid hs
      clear hdr hsl hget hs
      go_upto_region 8 with (first | (go_at_call 19; refine HG.out.mono ?_; clear HG; rintro e w4 ⟨rfl, hb4⟩; have HB4 := Lib.hid hb4; clear hb4) | (refine wpl_alloc rfl 34 rfl Z64 64 64 info34 ?_) | (with_reducible refine wpl_store rfl 34 (.tmp 10) (.tmp 22) rfl _ (s.map Bv) rfl rfl 34 _ (Row.newZ _ 34) 64 size34 (by simp [HSL.out]) length_zeros64 (oneB' _) ?_))
      have hbe4 : Below w.heap.size w ((w4.alloc (.cells Z64 34)).setRow w4.heap.size (s.map Bv).toArray) := below_setRow ((hb.out.trans (HB4.out.mono hb.out.size)).alloc (Nat.le_trans hb.out.size HB4.out.size) _) (Nat.le_trans hb.out.size HB4.out.size) _
      have hr4 : Row ((w4.alloc (.cells Z64 34)).setRow w4.heap.size (s.map Bv).toArray) w4.heap.size (s.map Bv) 34 := (Row.newZ w4 34).setRow _
      generalize (w4.alloc (.cells Z64 34)).setRow w4.heap.size (s.map Bv).toArray = W4 at *
      generalize w4.heap.size = b at *
      have HE4 := Lib.hid hbe4
      have HR4 := Lib.hid hr4
      clear hbe4 hr4 HB4
      have hnum := Lib.hid (number_any s HSL.out W4)
      obtain ⟨z, hz⟩ : ∃ z, z = numS s := ⟨_, rfl⟩
      rw [← hz] at hnum
      have HZ := Lib.hid hz
      clear hz
      go_wp2_with (first | (with_reducible refine wpl_load rfl 34 (.tmp 10) rfl b rfl 34 (s.map Bv) _ HR4.out 64 (by simp [HSL.out]) Try.underlying34 rfl size34 ?_) | (go_at_call 67; refine hnum.out.mono ?_; rintro e w5 ⟨rfl, hb5⟩; have HB5 := Lib.hid hb5; clear hb5))
      all_goals
        go_roundw
        case rel =>
          refine ⟨j + 1, max m z, by omega, by omega, by go_num, by congr 1; omega, ?_, HE4.out.trans (HB5.out.mono HE4.out.size)⟩
          have := hxm.out
          rw [show e - j = (e - (j + 1)) + 1 by omega] at this
          simp only [topFrom, ← HS.out, ← HZ.out] at this
          exact this
        case measure => simp [intOf]; omega
    · obtain rfl : j = e := by omega
      have hxe : x = m := by have := hxm.out; rwa [Nat.sub_self] at this
      have HXE := Lib.hid hxe
      clear hxe
      go_wp2
      go_ret2
      rw [HXE.out]
      exact ⟨rfl, hb.out⟩

end Go.Proofs.Ytpddbffamejgeaa
