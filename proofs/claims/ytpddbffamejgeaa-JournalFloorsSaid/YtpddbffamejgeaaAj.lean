/- crc: Add, Sum, Start, as values. -/
import Derived.Test.YtpddbffamejgeaaAi
import Derived.ScopeJumps
import Derived.WalkMore
namespace Go.Proofs.Ytpddbffamejgeaa
open Go.RowKit Go.Proofs.YtpddbffamejgeaaW.PrintLast

theorem bitsN_lt : ∀ (k : Nat) {r : Nat}, r < 4294967296 → bitsN r k < 4294967296
  | 0, _, h => h
  | k + 1, _, h => bitsN_lt k (shiftN_lt h)
theorem start_any (w : World) : Calls Try.prog 101 #[] w fun e w' => e = .returned (.int .u32 4294967295) ∧ w = w' := by
  go_enter Try.func101, Try.ntmps101
  go_wp2
  go_ret
  exact ⟨rfl, rfl⟩
/-- What comes of a register with some bits on their way, and more bytes. -/
def addFrom (r left : Nat) (l : List UInt8) : Nat := addN (bitsN r left) l
theorem addFrom_step (r left : Nat) (l : List UInt8) : addFrom r (left + 1) l = addFrom (shiftN r) left l := rfl
theorem addFrom_byte (r : Nat) (x : UInt8) (l : List UInt8) : addFrom r 0 (x :: l) = addFrom (r ^^^ x.toNat) 8 l := rfl
def AddJ (w : World) (ba : Option Addr) (b : List UInt8) (bc : Nat) (z : Nat) (a' : Act) (w' : World) : Prop :=
  w = w' ∧ ∃ (r i left : Nat) (u7 u8 u9 u10 u11 u12 u13 u14 u15 u16 u17 u18 u19 u20 u21 u22 u23 u24 u25 u26 : Value), a' = { tmps := #[.int .u32 r, .slice ba b.length bc, undef, undef, .int .u32 0, .int .i64 i, .int .i64 left, u7, u8, u9, u10, u11, u12, u13, u14, u15, u16, u17, u18, u19, u20, u21, u22, u23, u24, u25, u26], defers := [] } ∧ r < 4294967296 ∧ i ≤ b.length ∧ left ≤ 8 ∧ Hid (z = addFrom r left (b.drop i))
def addM (b : List UInt8) (a' : Act) : Nat := (b.length - (intOf (a'.tmps.getD 5 undef)).toNat) * 9 + (intOf (a'.tmps.getD 6 undef)).toNat

set_option maxRecDepth 100000 in
set_option maxHeartbeats 800000 in
theorem add_any (w : World) (r0 : Nat) (hr0 : r0 < 4294967296) (b : List UInt8) (ba : Option Addr) (bc : Nat) (hb : Src w ba (b.map Bv)) (hl : b.length ≤ 9223372036854775807) :
    Calls Try.prog 102 #[.int .u32 r0, .slice ba b.length bc] w fun e w' => e = .returned (.int .u32 (addN r0 b : Nat)) ∧ w = w' := by
  obtain ⟨z, hz⟩ : ∃ z, z = addN r0 b := ⟨_, rfl⟩
  rw [← hz]
  have HZ := Lib.hid hz
  have HB := Lib.hid hb
  clear hz hb
  go_enter Try.func102, Try.ntmps102
  go_wp2
  refine wp_scope_jumps 0 (AddJ w ba b bc z) (fun a' _ => addM b a') rfl ?_ ?_
  · go_wp2
    go_step3
    by_cases hlt : 0 < b.length
    · obtain ⟨x, hx⟩ : ∃ x, b[0]? = some x := ⟨b[0], List.getElem?_eq_getElem hlt⟩
      obtain ⟨ad, rfl, hc⟩ := HB.out (by simp; omega)
      have C : w.cell? ad = some (Bv x) := by
        have := hc 0 (Bv x) (by simp [hx])
        simpa [Addr.add] using this
      have hne : ((0 : Int) == (b.length : Int)) = false := by simp; omega
      have hxl := UInt8.toNat_lt x
      have hX : bits .xor .u32 (r0 : Int) (x.toNat : Int) = ((r0 ^^^ x.toNat : Nat) : Int) := u32_xor_nat r0 x.toNat hr0 (by omega)
      have hlt2 : r0 ^^^ x.toNat < 4294967296 := Nat.xor_lt_two_pow (n := 32) hr0 (by omega)
      have hzn : z = addFrom (shiftN (r0 ^^^ x.toNat)) 7 (b.drop 1) := by
        cases b with
        | nil => simp at hlt
        | cons y t =>
          simp at hx
          subst hx
          rw [HZ.out]; rfl
      have HZN := Lib.hid hzn
      have HC := Lib.hid hc
      clear hc hx hzn HZ
      go_wp2_with (go_at_call 110; refine (shift_any _ hlt2 _).mono ?_; rintro e w' ⟨rfl, rfl⟩)
      go_step3
      exact ⟨rfl, rfl, shiftN (r0 ^^^ x.toNat), 1, 7, _, _, _, _, _, _, _, _, _, _, _, _, _, _, _, _, _, _, _, _, rfl, shiftN_lt hlt2, by omega, by omega, HZN⟩
    · have hb0 : b = [] := List.eq_nil_of_length_eq_zero (by omega)
      have hz : z = r0 := by rw [HZ.out, hb0]; rfl
      have hne : ((0 : Int) == (b.length : Int)) = true := by simp [hb0]
      subst hz
      clear HZ hb0
      go_wp2
      simp only [Exit.jump]
      go_ret
      exact ⟨rfl, rfl⟩
  · rintro a' w' ⟨rfl, r, i, left, u7, u8, u9, u10, u11, u12, u13, u14, u15, u16, u17, u18, u19, u20, u21, u22, u23, u24, u25, u26, rfl, hr, hi, hleft, hzr⟩
    by_cases h0 : left = 0
    · subst h0
      by_cases hlt : i < b.length
      · obtain ⟨x, hx⟩ : ∃ x, b[i]? = some x := ⟨b[i], List.getElem?_eq_getElem hlt⟩
        obtain ⟨ad, rfl, hc⟩ := HB.out (by simp; omega)
        have C := hc i (Bv x) (by simp [hx])
        have hne : ((i : Int) == (b.length : Int)) = false := by simp; omega
        have hxl := UInt8.toNat_lt x
        have hX : bits .xor .u32 (r : Int) (x.toNat : Int) = ((r ^^^ x.toNat : Nat) : Int) := u32_xor_nat r x.toNat hr (by omega)
        have hlt2 : r ^^^ x.toNat < 4294967296 := Nat.xor_lt_two_pow (n := 32) hr (by omega)
        have hzn : z = addFrom (shiftN (r ^^^ x.toNat)) 7 (b.drop (i + 1)) := by
          rw [hzr.out, List.drop_eq_getElem_cons hlt, addFrom_byte]
          have : b[i] = x := by rw [List.getElem?_eq_getElem hlt] at hx; exact Option.some.inj hx
          rw [this]; rfl
        have HZN := Lib.hid hzn
        have HC := Lib.hid hc
        clear hc hx hzn hzr
        go_wp2_with (go_at_call 110; refine (shift_any _ hlt2 _).mono ?_; rintro e w' ⟨rfl, rfl⟩)
        go_step3
        exact ⟨rfl, ⟨rfl, shiftN (r ^^^ x.toNat), i + 1, 7, _, _, _, _, _, _, _, _, _, _, _, _, _, _, _, _, _, _, _, _, rfl, shiftN_lt hlt2, by omega, by omega, HZN⟩, by simp [addM, intOf]; omega⟩
      · have hz : z = r := by
          rw [hzr.out, List.drop_of_length_le (by omega)]; rfl
        have hne : ((i : Int) == (b.length : Int)) = true := by simp; omega
        subst hz
        clear hzr
        go_wp2
        simp only [Exit.jump]
        go_ret
        exact ⟨rfl, rfl⟩
    · obtain ⟨q, rfl⟩ : ∃ q, left = q + 1 := ⟨left - 1, by omega⟩
      have hne : (((q + 1 : Nat) : Int) == 0) = false := by simp; omega
      have hzn : z = addFrom (shiftN r) q (b.drop i) := by rw [hzr.out, addFrom_step]
      have HZN := Lib.hid hzn
      clear hzn hzr
      go_wp2_with (go_at_call 110; refine (shift_any _ hr _).mono ?_; rintro e w' ⟨rfl, rfl⟩)
      go_step3
      exact ⟨rfl, ⟨rfl, shiftN r, i, q, _, _, _, _, _, _, _, _, _, _, _, _, _, _, _, _, _, _, _, _, rfl, shiftN_lt hr, hi, by omega, HZN⟩, by simp [addM, intOf]⟩

end Go.Proofs.Ytpddbffamejgeaa
