/- crc: what a register says of bytes, as values. -/
import Derived.Test.YtpddbffamejgeaaAh
import Derived.Laws.BitsAllLaws
namespace Go.Proofs.Ytpddbffamejgeaa
open Go.RowKit Go.Proofs.YtpddbffamejgeaaW.PrintLast

def shiftN (r : Nat) : Nat := if r % 2 = 1 then (r / 2) ^^^ 3988292384 else r / 2
theorem shiftN_lt {r : Nat} (h : r < 4294967296) : shiftN r < 4294967296 := by
  unfold shiftN
  split
  · exact Nat.xor_lt_two_pow (n := 32) (by omega) (by omega)
  · omega
def bitsN (r : Nat) : Nat → Nat
  | 0 => r
  | k + 1 => bitsN (shiftN r) k
def addN (r : Nat) (b : List UInt8) : Nat := b.foldl (fun r x => bitsN (r ^^^ x.toNat) 8) r
def sumN (b : List UInt8) : Nat := 4294967295 ^^^ addN 4294967295 b
def tailN (s : Nat) : List UInt8 := [UInt8.ofNat s, UInt8.ofNat (s / 256), UInt8.ofNat (s / 65536), UInt8.ofNat (s / 16777216)]
/-- Bytes, and what a register says of them. -/
def sealedN (b : List UInt8) : List UInt8 := b ++ tailN (sumN b)
def unsealN (b : List UInt8) : Option (List UInt8) := if b.length < 4 then none else if tailN (sumN (b.take (b.length - 4))) = b.drop (b.length - 4) then some (b.take (b.length - 4)) else none
theorem length_sealedN (b : List UInt8) : (sealedN b).length = b.length + 4 := by simp [sealedN, tailN]
theorem unseal_sealed (b : List UInt8) : unsealN (sealedN b) = some b := by
  unfold unsealN
  rw [length_sealedN, if_neg (by omega)]
  have h1 : (sealedN b).take (b.length + 4 - 4) = b := by simp [sealedN]
  have h2 : (sealedN b).drop (b.length + 4 - 4) = tailN (sumN b) := by simp [sealedN]
  rw [h1, h2, if_pos rfl]

theorem shift_any (r : Nat) (hr : r < 4294967296) (w : World) : Calls Try.prog 110 #[.int .u32 r] w fun e w' => e = .returned (.int .u32 (shiftN r : Nat)) ∧ w = w' := by
  have hx : bits .xor .u32 ((r : Int) / 2) 3988292384 = ((r / 2 ^^^ 3988292384 : Nat) : Int) := by
    have := u32_xor_nat (r / 2) 3988292384 (by omega) (by omega)
    simpa using this
  obtain ⟨z, hz⟩ : ∃ z, z = shiftN r := ⟨_, rfl⟩
  rw [← hz]
  by_cases h1 : r % 2 = 1
  · have hz' : z = r / 2 ^^^ 3988292384 := by rw [hz]; unfold shiftN; rw [if_pos h1]
    have h1' : ((r : Int) % 2 == 1) = true := by simp; omega
    rw [← hz'] at hx
    clear hz hz'
    go_enter Try.func110, Try.ntmps110
    go_wp2
    go_ret
    exact ⟨rfl, rfl⟩
  · have hz' : z = r / 2 := by rw [hz]; unfold shiftN; rw [if_neg h1]
    have h1' : ((r : Int) % 2 == 1) = false := by simp; omega
    have hz2 : (r : Int) / 2 = (z : Int) := by rw [hz']; simp
    clear hz hz' hx
    go_enter Try.func110, Try.ntmps110
    go_wp2
    go_ret
    exact ⟨rfl, rfl⟩

end Go.Proofs.Ytpddbffamejgeaa
