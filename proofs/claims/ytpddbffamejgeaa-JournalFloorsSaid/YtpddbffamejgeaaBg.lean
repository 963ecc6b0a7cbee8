/- pack: numbers as bytes, and back. -/
import Derived.Test.YtpddbffamejgeaaAm
import Derived.Lib.SliceRun
namespace Go.Proofs.Ytpddbffamejgeaa
open Go.RowKit Go.Proofs.YtpddbffamejgeaaW.PrintLast

/-- A number as bytes: seven bits each. -/
def numN (n : Nat) : List UInt8 := if n < 128 then [UInt8.ofNat n] else UInt8.ofNat (n % 128 + 128) :: numN (n / 128)
termination_by n
theorem numN_small {n : Nat} (h : n < 128) : numN n = [UInt8.ofNat n] := by rw [numN, if_pos h]
theorem numN_big {n : Nat} (h : ¬ n < 128) : numN n = UInt8.ofNat (n % 128 + 128) :: numN (n / 128) := by rw [numN, if_neg h]
theorem numN_pos (n : Nat) : 0 < (numN n).length := by
  by_cases h : n < 128
  · rw [numN_small h]; simp
  · rw [numN_big h]; simp
theorem numN_len : ∀ (k n : Nat), n < 128 ^ k → 0 < k → (numN n).length ≤ k
  | 0, _, _, h => by omega
  | k + 1, n, h, _ => by
    by_cases hn : n < 128
    · rw [numN_small hn]; simp
    · rw [numN_big hn]
      rcases Nat.eq_zero_or_pos k with h0 | h0
      · subst h0; simp at h; omega
      · have := numN_len k (n / 128) (by rw [Nat.pow_succ] at h; exact Nat.div_lt_of_lt_mul (by omega)) h0
        simp; omega
theorem numN_le10 {n : Nat} (h : n < 18446744073709551616) : (numN n).length ≤ 10 := numN_len 10 n (by omega) (by omega)

set_option maxRecDepth 100000 in
theorem clone_any (w : World) (b : List UInt8) (ba : Option Addr) (bc : Nat) (hsrc : Src w ba (b.map Bv)) (hl : b.length ≤ 1000000) :
    Calls Try.prog 106 #[.slice ba b.length bc] w (MadePost w b) := by
  cases ba with
  | none =>
    have hb : b = [] := by
      cases b with
      | nil => rfl
      | cons y t => obtain ⟨ad, e, _⟩ := hsrc (by simp); cases e
    subst hb
    clear hsrc
    have q : ∀ W : World, (binOp .eql 23 (.slice none 0 bc) (.slice none 0 0)).run Try.prog W = .ok (.bool true) W := fun W => Lib.run_eql_slice_nil (P := Try.prog) W 23 5 none 0 bc 0 0 Try.underlying23
    go_enter Try.func106, Try.ntmps106
    go_wp2
    go_ret
    exact ⟨_, rfl, World.ownsRow_nil _ _ _ _, Below.refl _ _⟩
  | some ad =>
    have hown0 : (w.alloc (.cells #[] 5)).ownsRow w.heap.size 5 1 (.slice (some ⟨w.heap.size, 0, none⟩) 0 0) 0 [] := World.ownsRow_made w #[] 0 (Nat.le_refl _) (Nat.zero_le _) rfl
    have HO0 := Lib.hid hown0
    have HB0 := Lib.hid ((Below.refl w.heap.size w).alloc (Nat.le_refl _) (.cells #[] 5))
    have HS := Lib.hid hsrc
    clear hown0 hsrc
    have q : ∀ W : World, (binOp .eql 23 (.slice (some ad) b.length bc) (.slice none 0 0)).run Try.prog W = .ok (.bool false) W := fun W => Lib.run_eql_slice_nil (P := Try.prog) W 23 5 (some ad) b.length bc 0 0 Try.underlying23
    go_enter Try.func106, Try.ntmps106
    go_wp2_with (first
      | (refine wpl_of_run (o := ⟨some 5, _, _, _, _, _⟩) rfl (runs_buildSlice_none _ rfl Try.underlying23 info5) ?_)
      | (at_builtin; refine wpl_append_src (o := ⟨some 7, _, _, _, _, _⟩) rfl (.tmp 5) (.tmp 6) rfl w.heap.size _ 0 [] rfl HO0.out (some ad) b b.length bc rfl rfl (HS.out.below HB0.out) (by omega) HB0.out.size ?_; intro v4 w4 hown4 hg4; have HO4 := Lib.hid hown4; have HB4 := Lib.hid (HB0.out.grown hg4 HB0.out.size (fun g hg => (HO0.out.lt g hg).1)); clear hown4 hg4))
    go_ret
    exact ⟨v4, rfl, by have := HO4.out; simpa using this, HB4.out⟩

theorem src_alloc' (w : World) (l : List Value) : Src (w.alloc (.cells l.toArray 5)) (some ⟨w.heap.size, 0, none⟩) l := Src.of_row (Row.new w l 5) 0 _ fun j v hj => by rwa [Nat.zero_add]
theorem or128 (m : Nat) : bits .or .u8 ((m : Int) % 256) 128 = ((m % 128 + 128 : Nat) : Int) := by
  have h := u8_or_nat (m % 256) 128 (by omega) (by omega)
  have e : ((m % 256 : Nat) : Int) = (m : Int) % 256 := by omega
  rw [e] at h
  rw [show ((128 : Nat) : Int) = 128 from rfl] at h
  rw [h]
  have h2 : m % 256 ||| 128 = m % 128 + 128 := by
    have h3 : ∀ k, k < 256 → k ||| 128 = k % 128 + 128 := by decide +kernel
    rw [h3 _ (by omega)]; omega
  rw [h2]

set_option maxRecDepth 100000 in
set_option maxHeartbeats 1600000 in
theorem num_any (w : World) (n : Nat) (hn : n < 18446744073709551616) (g0 : Nat) (hg : Row w g0 [.int .u64 n] 22) :
    Calls Try.prog 94 #[.slice none 0 0, .slice (some ⟨g0, 0, none⟩) 1 1] w (MadePost w (numN n)) := by
  have HCL := Lib.hid (clone_any w [] none 0 (Src.nil _ _) (by simp))
  have HG := Lib.hid hg
  have hlen := numN_le10 hn
  have HLEN := Lib.hid hlen
  clear hg hlen
  go_enter Try.func94, Try.ntmps94
  go_wp2_with (go_at_call 106; refine HCL.out.mono ?_; clear HCL; rintro e w1 ⟨v1, rfl, hown1, hb1⟩; have HO1 := Lib.hid hown1; have HB1 := Lib.hid hb1; clear hown1 hb1)
  go_loopw [5, 12] (fun v k wr => ∃ (j : Nat) (acc : List UInt8), j ≤ 1 ∧ k = .int .i64 j ∧ Hid (acc = if j = 0 then [] else numN n) ∧ Hid (wr.ownsRow w.heap.size 5 1 v acc.length (acc.map Bv)) ∧ Hid (Below w.heap.size w wr))
    (fun _ k _ => 1 - (intOf k).toNat)
  case atStart => exact ⟨0, [], by omega, rfl, rfl, HO1, HB1⟩
  case round =>
    obtain ⟨j, acc, hj, rfl, hacc, hown, hb⟩ := hrel
    clear HO1 HB1
    by_cases hlt : j < 1
    · obtain rfl : j = 0 := by omega
      obtain rfl : acc = [] := by have := hacc.out; simpa using this
      have hc : wr.cell? ⟨g0, 0, none⟩ = some (.int .u64 n) := by
        rw [(HG.out.below hb.out HG.out.lt).cell]; rfl
      go_wp2_with fail
      go_loopw [5, 7] (fun v k wr => ∃ (m : Nat) (acc : List UInt8), k = .int .u64 m ∧ m < 18446744073709551616 ∧ acc.length ≤ 10 ∧ Hid (acc ++ numN m = numN n) ∧ Hid (wr.ownsRow w.heap.size 5 1 v acc.length (acc.map Bv)) ∧ Hid (Below w.heap.size w wr))
        (fun _ k _ => (intOf k).toNat)
      case atStart => exact ⟨n, [], rfl, hn, by simp, rfl, hown, hb⟩
      case round =>
        obtain ⟨m, acc2, rfl, hm, hal, hmn, hown2, hb2⟩ := hrel
        clear hown hb hacc
        by_cases hbig : 128 ≤ m
        · have hbig' : (128 : Int) ≤ m := by omega
          have hx := or128 m
          have hmn2 : acc2 ++ [UInt8.ofNat (m % 128 + 128)] ++ numN (m / 128) = numN n := by
            have := hmn.out
            rw [numN_big (by omega)] at this
            simpa using this
          have hal2 : acc2.length + 1 ≤ 10 := by
            have h1 := congrArg List.length hmn2
            have h2 := numN_pos (m / 128)
            have h3 := HLEN.out
            simp at h1
            omega
          have hbv : Value.int .u8 ((m % 128 + 128 : Nat) : Int) = Bv (UInt8.ofNat (m % 128 + 128)) := by
            have : (UInt8.ofNat (m % 128 + 128)).toNat = m % 128 + 128 := by simp; omega
            show _ = Value.int .u8 (((UInt8.ofNat (m % 128 + 128)).toNat : Nat) : Int)
            rw [this]
          have HMN2 := Lib.hid hmn2
          have HBV := Lib.hid hbv
          have HX := Lib.hid hx
          have hdiv : ((m : Int) / 128) = ((m / 128 : Nat) : Int) := by omega
          have HDIV := Lib.hid hdiv
          have hrowA : ∀ z : Int, z = ((m % 128 + 128 : Nat) : Int) → Src (wr.alloc (.cells #[.int .u8 z] 5)) (some ⟨wr.heap.size, 0, none⟩) ([UInt8.ofNat (m % 128 + 128)].map Bv) := fun z hz => by
            subst hz
            rw [hbv]
            exact src_alloc' wr _
          have HRA := Lib.hid hrowA
          clear hmn2 hbv hdiv hrowA hx
          go_wp2_with (at_builtin; refine wpl_append_src (o := ⟨some 23, _, _, _, _, _⟩) rfl (.tmp 18) (.tmp 22) rfl w.heap.size _ acc2.length (acc2.map Bv) rfl (owns_below hown2.out ((Below.refl _ _).alloc (Nat.le_refl _) _)) (some ⟨wr.heap.size, 0, none⟩) [UInt8.ofNat (m % 128 + 128)] 1 1 rfl rfl (HRA.out _ HX.out) (by simp; omega) (by have := hb2.out.size; simp; omega) ?_; intro v4 w4 hown4 hg4; have HO4 := Lib.hid hown4; have HB4 := Lib.hid ((hb2.out.alloc hb2.out.size _).grown hg4 (by have := hb2.out.size; simp; omega) (fun g hg => (hown2.out.lt g hg).1)); clear hown4 hg4)
          go_roundw
          case rel => exact ⟨m / 128, acc2 ++ [UInt8.ofNat (m % 128 + 128)], by rw [HDIV.out], by omega, by simp; omega, HMN2, Lib.hid (by have := HO4.out; simpa using this), HB4⟩
          case measure => simp [intOf]; omega
        · have hsm : acc2 ++ [UInt8.ofNat m] = numN n := by
            have := hmn.out
            rwa [numN_small (by omega)] at this
          have hm2 : (m : Int) % 256 = m := by omega
          have hbv : Value.int .u8 (m : Int) = Bv (UInt8.ofNat m) := by
            have : (UInt8.ofNat m).toNat = m := by simp; omega
            show _ = Value.int .u8 (((UInt8.ofNat m).toNat : Nat) : Int)
            rw [this]
          have hrowA : Src (wr.alloc (.cells #[.int .u8 (m : Int)] 5)) (some ⟨wr.heap.size, 0, none⟩) ([UInt8.ofNat m].map Bv) := by
            rw [hbv]
            exact src_alloc' wr _
          have HRA := Lib.hid hrowA
          have HSM := Lib.hid hsm
          clear hsm hbv hrowA
          go_wp2_with (at_builtin; refine wpl_append_src (o := ⟨some 30, _, _, _, _, _⟩) rfl (.tmp 26) (.tmp 29) rfl w.heap.size _ acc2.length (acc2.map Bv) rfl (owns_below hown2.out ((Below.refl _ _).alloc (Nat.le_refl _) _)) (some ⟨wr.heap.size, 0, none⟩) [UInt8.ofNat m] 1 1 rfl rfl HRA.out (by simp; omega) (by have := hb2.out.size; simp; omega) ?_; intro v4 w4 hown4 hg4; have HO4 := Lib.hid hown4; have HB4 := Lib.hid ((hb2.out.alloc hb2.out.size _).grown hg4 (by have := hb2.out.size; simp; omega) (fun g hg => (hown2.out.lt g hg).1)); clear hown4 hg4)
          exact ⟨⟨1, numN n, by omega, rfl, Lib.hid (by simp), Lib.hid (by have := HO4.out; rw [← HSM.out]; simpa using this), HB4⟩, by simp [intOf]⟩
    · obtain rfl : j = 1 := by omega
      go_wp2
      go_ret
      exact ⟨_, rfl, by have := hown.out; rw [hacc.out] at this; exact this, hb.out⟩

end Go.Proofs.Ytpddbffamejgeaa
