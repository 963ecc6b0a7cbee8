/- crc: Sum and tail. -/
import Derived.Test.YtpddbffamejgeaaAj
namespace Go.Proofs.Ytpddbffamejgeaa
open Go.RowKit Go.Proofs.YtpddbffamejgeaaW.PrintLast

theorem sum_any (r : Nat) (hr : r < 4294967296) (w : World) : Calls Try.prog 103 #[.int .u32 r] w fun e w' => e = .returned (.int .u32 ((4294967295 ^^^ r : Nat) : Int)) ∧ w = w' := by
  have hx : bits .xor .u32 IntKind.u32.max (r : Int) = ((4294967295 ^^^ r : Nat) : Int) := u32_xor_nat 4294967295 r (by omega) hr
  have HX := Lib.hid hx
  clear hx
  go_enter Try.func103, Try.ntmps103
  go_wp2
  go_ret
  exact ⟨congrArg (fun q => Ending.returned (.int .u32 q)) HX.out, rfl⟩
theorem sumN_lt (b : List UInt8) : sumN b < 4294967296 := by
  have h : ∀ (l : List UInt8) (r : Nat), r < 4294967296 → addN r l < 4294967296 := by
    intro l
    induction l with
    | nil => intro r h; exact h
    | cons x l ih =>
      intro r h
      exact ih _ (bitsN_lt 8 (Nat.xor_lt_two_pow (n := 32) h (by have := UInt8.toNat_lt x; omega)))
  exact Nat.xor_lt_two_pow (n := 32) (by omega) (h b _ (by omega))
theorem ofNat_wrap (s k : Nat) : ((UInt8.ofNat (s / k)).toNat : Int) = (s : Int) / (k : Int) % 256 := by simp

set_option maxRecDepth 100000 in
theorem tail_any (s : Nat) (hs : s < 4294967296) (w : World) : Calls Try.prog 100 #[.int .u32 s] w fun e w' => e = .returned (.slice (some ⟨w.heap.size, 0, none⟩) 4 4) ∧ w' = w.alloc (.cells ((tailN s).map Bv).toArray 5) := by
  have e0 : ((UInt8.ofNat s).toNat : Int) = (s : Int) % 256 := by simp
  have e1 := ofNat_wrap s 256
  have e2 := ofNat_wrap s 65536
  have e3 : ((UInt8.ofNat (s / 16777216)).toNat : Int) = (s : Int) / 16777216 := by rw [ofNat_wrap]; omega
  have ht : (tailN s).map Bv = [.int .u8 ((s : Int) % 256), .int .u8 ((s : Int) / 256 % 256), .int .u8 ((s : Int) / 65536 % 256), .int .u8 ((s : Int) / 16777216)] := by
    simp only [tailN, List.map_cons, List.map_nil]
    unfold Bv
    rw [e0, e1, e2, e3]
    rfl
  rw [ht]
  clear ht e0 e1 e2 e3
  go_enter Try.func100, Try.ntmps100
  go_wp2
  go_ret
  exact ⟨rfl, rfl⟩

end Go.Proofs.Ytpddbffamejgeaa
