/- slot: Next, Write. -/
import Derived.Test.YtpddbffamejgeaaBc
import Derived.Test.YtpddbffamejgeaaAp
namespace Go.Proofs.Ytpddbffamejgeaa
open Go.RowKit Go.Proofs.YtpddbffamejgeaaW.PrintLast

/-- The next generation. -/
def DS.nextGen (d : DS) (f s : Nat) : Nat :=
  if (d.slot f s).2 ≠ 0 ∧ (d.top f (f + 2 * s) + 1) % 18446744073709551616 % 2 = (d.slot f s).2 % 2 then ((d.top f (f + 2 * s) + 1) % 18446744073709551616 + 1) % 18446744073709551616 else (d.top f (f + 2 * s) + 1) % 18446744073709551616
theorem slotTo_lt (d : DS) (f s : Nat) : ∀ k, (slotTo d f s k).2 < 18446744073709551616
  | 0 => by show (0 : Nat) < _; omega
  | k + 1 => by
    have ih := slotTo_lt d f s k
    simp only [slotTo]
    split
    · unfold slotAt
      split
      · exact read_n_lt _ _ _
      · simp
    · exact ih
def NextPost (w : World) (n : Nat) (e : Ending) (w' : World) : Prop := e = .returned (.tuple #[.int .u64 (n : Nat), .int .i64 0]) ∧ Below w.heap.size w w'

set_option maxRecDepth 100000 in
set_option maxHeartbeats 1600000 in
theorem slotnext_any {w : World} {p : Nat} {role : Nat → Option Own} {d : DS} (h : DiskAt w p role d) (f s : Nat) (hs : 1 ≤ s) (hs2 : s ≤ 255) (hfit : f + 2 * s ≤ d.size) :
    Calls Try.prog 49 #[.pointer (some ⟨p, 0, none⟩), .int .i64 f, .int .i64 s] w (NextPost w (d.nextGen f s)) := by
  have hsz : d.size ≤ 2048 := by obtain ⟨M, a1, a2, f, hh⟩ := h; exact hh.sz
  have HRT := Lib.hid (right_yes h f s hs hs2 hfit)
  obtain ⟨n, hn⟩ : ∃ n, n = d.nextGen f s := ⟨_, rfl⟩
  obtain ⟨t, ht⟩ : ∃ t, t = d.top f (f + 2 * s) := ⟨_, rfl⟩
  obtain ⟨x, hx⟩ : ∃ x, x = d.slot f s := ⟨_, rfl⟩
  have htl : t < 18446744073709551616 := by rw [ht]; exact topFrom_lt d _ _ _ (by omega)
  have hxl : x.2 < 18446744073709551616 := by rw [hx]; exact slotTo_lt d f s 2
  have htop := top_any h f (f + 2 * s) (by omega) hfit
  rw [← ht, show ((f + 2 * s : Nat) : Int) = (f : Int) + 2 * (s : Int) by omega] at htop
  have hrd : ∀ W, Below w.heap.size w W → Calls Try.prog 43 #[.pointer (some ⟨p, 0, none⟩), .int .i64 f, .int .i64 s] W (SlotReadPost W x) := fun W hb => by
    rw [hx]; exact slotread_any (h.below hb) f s hs hs2 hfit
  rw [← hn]
  unfold DS.nextGen at hn
  rw [← ht, ← hx] at hn
  obtain ⟨m, hm⟩ : ∃ m, m = (t + 1) % 18446744073709551616 := ⟨_, rfl⟩
  rw [← hm] at hn
  have hml : m < 18446744073709551616 := by omega
  have hmw : IntKind.u64.wrap ((t : Int) + 1) = (m : Int) := by rw [u64_wrap]; omega
  have HT := Lib.hid htop
  have HR := Lib.hid hrd
  have HN := Lib.hid hn
  clear h htop hrd hn hx ht hm
  by_cases c1 : x.2 = 0
  · have hn2 : n = m := by have := HN.out; rwa [if_neg (fun h => h.1 c1)] at this
    have he : slotErr x = 111 := by unfold slotErr; rw [if_pos c1]
    have HE := Lib.hid he
    subst hn2
    clear he c1 HN
    go_enter Try.func49, Try.ntmps49
    go_wp2_with (first
      | (go_at_call 82; refine HRT.out.mono ?_; rintro e w' ⟨rfl, rfl⟩)
      | (go_at_call 31; refine HT.out.mono ?_; clear HT; rintro e w1 ⟨rfl, hb1⟩; have HB1 := Lib.hid hb1; clear hb1)
      | (go_at_call 43; refine (HR.out _ HB1.out).mono ?_; clear HR; rintro e w2 ⟨v2, rfl, _, hb2⟩; rw [HE.out]; have HB2 := Lib.hid (HB1.out.trans (hb2.mono HB1.out.size)); clear hb2))
    go_ret2
    exact ⟨rfl, HB2.out⟩
  · have he : slotErr x = 0 := by unfold slotErr; rw [if_neg c1]
    have HE := Lib.hid he
    clear he
    by_cases c2 : m % 2 = x.2 % 2
    · have hn2 : n = (m + 1) % 18446744073709551616 := by have := HN.out; rwa [if_pos ⟨c1, c2⟩] at this
      have c2' : ((m : Int) % 2 == (x.2 : Int) % 2) = true := by simp; omega
      have hnw : IntKind.u64.wrap ((m : Int) + 1) = (n : Int) := by rw [u64_wrap]; omega
      clear hn2 c1 c2 HN
      go_enter Try.func49, Try.ntmps49
      go_wp2_with (first
        | (go_at_call 82; refine HRT.out.mono ?_; rintro e w' ⟨rfl, rfl⟩)
        | (go_at_call 31; refine HT.out.mono ?_; clear HT; rintro e w1 ⟨rfl, hb1⟩; have HB1 := Lib.hid hb1; clear hb1)
        | (go_at_call 43; refine (HR.out _ HB1.out).mono ?_; clear HR; rintro e w2 ⟨v2, rfl, _, hb2⟩; rw [HE.out]; have HB2 := Lib.hid (HB1.out.trans (hb2.mono HB1.out.size)); clear hb2))
      go_ret2
      exact ⟨rfl, HB2.out⟩
    · have hn2 : n = m := by have := HN.out; rwa [if_neg (fun h => c2 h.2)] at this
      have c2' : ((m : Int) % 2 == (x.2 : Int) % 2) = false := by simp; omega
      subst hn2
      clear c1 c2 HN
      go_enter Try.func49, Try.ntmps49
      go_wp2_with (first
        | (go_at_call 82; refine HRT.out.mono ?_; rintro e w' ⟨rfl, rfl⟩)
        | (go_at_call 31; refine HT.out.mono ?_; clear HT; rintro e w1 ⟨rfl, hb1⟩; have HB1 := Lib.hid hb1; clear hb1)
        | (go_at_call 43; refine (HR.out _ HB1.out).mono ?_; clear HR; rintro e w2 ⟨v2, rfl, _, hb2⟩; rw [HE.out]; have HB2 := Lib.hid (HB1.out.trans (hb2.mono HB1.out.size)); clear hb2))
      go_ret2
      exact ⟨rfl, HB2.out⟩

/-- Another content: the disk, the generation, what is answered. -/
def slotWrite (d : DS) (f s : Nat) (b : List UInt8) : DS × Nat × Nat :=
  if spanN (b.length + 4) = 0 ∨ spanN (b.length + 4) > s then (d, 0, 111)
  else if (d.write (f + s * (d.nextGen f s % 2) : Nat) (d.nextGen f s) (sealedN b)).2 ≠ 0 then ((d.write (f + s * (d.nextGen f s % 2) : Nat) (d.nextGen f s) (sealedN b)).1, 0, (d.write (f + s * (d.nextGen f s % 2) : Nat) (d.nextGen f s) (sealedN b)).2)
  else if (d.write (f + s * (d.nextGen f s % 2) : Nat) (d.nextGen f s) (sealedN b)).1.flush.2 ≠ 0 then ((d.write (f + s * (d.nextGen f s % 2) : Nat) (d.nextGen f s) (sealedN b)).1.flush.1, 0, (d.write (f + s * (d.nextGen f s % 2) : Nat) (d.nextGen f s) (sealedN b)).1.flush.2)
  else ((d.write (f + s * (d.nextGen f s % 2) : Nat) (d.nextGen f s) (sealedN b)).1.flush.1, d.nextGen f s, 0)
def SlotWritePost (p : Nat) (role : Nat → Option Own) (x : DS × Nat × Nat) (w : World) (e : Ending) (w' : World) : Prop :=
  e = .returned (.tuple #[.int .u64 (x.2.1 : Nat), .int .i64 (x.2.2 : Nat)]) ∧ ∃ role', DiskAt w' p role' x.1 ∧ Moves w role w' role'

set_option maxRecDepth 100000 in
set_option maxHeartbeats 1600000 in
theorem slotwrite_any {w : World} {p : Nat} {role : Nat → Option Own} {d : DS} (h : DiskAt w p role d) (f s : Nat) (hs : 1 ≤ s) (hs2 : s ≤ 255) (hfit : f + 2 * s ≤ d.size)
    (b : List UInt8) (ba : Option Addr) (bc : Nat) (hb : BArg w role ba b bc) (hbl : b.length ≤ 900000) (hq : d.queue.length ≤ 800000) :
    Calls Try.prog 42 #[.pointer (some ⟨p, 0, none⟩), .int .i64 f, .int .i64 s, .slice ba b.length bc] w (SlotWritePost p role (slotWrite d f s b) w) := by
  have hsz : d.size ≤ 2048 := by obtain ⟨M, a1, a2, f, hh⟩ := h; exact hh.sz
  obtain ⟨X, hX⟩ : ∃ X, X = slotWrite d f s b := ⟨_, rfl⟩
  rw [← hX]
  obtain ⟨n, hn⟩ : ∃ n, n = d.nextGen f s := ⟨_, rfl⟩
  obtain ⟨m, hm⟩ : ∃ m, m = spanN (b.length + 4) := ⟨_, rfl⟩
  obtain ⟨a, ha⟩ : ∃ a, a = f + s * (n % 2) := ⟨_, rfl⟩
  obtain ⟨x, hx⟩ : ∃ x, x = d.write a n (sealedN b) := ⟨_, rfl⟩
  obtain ⟨y, hy⟩ : ∃ y, y = x.1.flush := ⟨_, rfl⟩
  have hnl : n < 18446744073709551616 := by rw [hn]; unfold DS.nextGen; split <;> omega
  have hm255 : m ≤ 255 := by rw [hm]; exact spanN_le _
  have hxl := write_len d a n (sealedN b)
  rw [← hx] at hxl
  unfold slotWrite at hX
  rw [← hn, ← hm, ← ha, ← hx, ← hy] at hX
  have hslen : (sealedN b).length = b.length + 4 := length_sealedN b
  have hclose := close_any w b ba bc hb.src (by omega)
  have hspan := fun W => span_any (b.length + 4) W (by omega)
  rw [← hm, ← hslen] at hspan
  have hright : ∀ W, DiskAt W p role d → Calls Try.prog 82 #[.pointer (some ⟨p, 0, none⟩), .int .i64 f, .int .i64 s] W fun e w' => e = .returned (.bool true) ∧ W = w' := fun W hd => right_yes hd f s hs hs2 hfit
  have hnext : ∀ W, DiskAt W p role d → Calls Try.prog 49 #[.pointer (some ⟨p, 0, none⟩), .int .i64 f, .int .i64 s] W (NextPost W n) := fun W hd => by rw [hn]; exact slotnext_any hd f s hs hs2 hfit
  have hplace := fun W => place_any f s n (by omega) (by omega) W
  rw [← ha] at hplace
  have hW : ∀ W oa oc, DiskAt W p role d → BArg W role oa (sealedN b) oc → Calls Try.prog 17 #[.pointer (some ⟨p, 0, none⟩), .int .i64 a, .int .u64 n, .slice oa (sealedN b).length oc] W (PutPost p role x W) := fun W oa oc h1 h2 => by
    have ha2 : a ≤ 4096 := by
      rw [ha]
      rcases (show n % 2 = 0 ∨ n % 2 = 1 by omega) with e | e <;> rw [e] <;> omega
    rw [hx]; exact write_any h1 a (by omega) (by omega) n hnl oa (sealedN b) oc h2 (by omega)
  have hFl : ∀ W r, DiskAt W p r x.1 → Calls Try.prog 24 #[.pointer (some ⟨p, 0, none⟩)] W (FlushPost p r x.1 W) := fun W r h1 => flush_any h1 (by omega)
  unfold FlushPost at hFl
  rw [← hy] at hFl
  have HX := Lib.hid hX
  have HCL := Lib.hid hclose
  have HSP := Lib.hid hspan
  have HRT := Lib.hid hright
  have HNX := Lib.hid hnext
  have HPL := Lib.hid hplace
  have HW := Lib.hid hW
  have HFl := Lib.hid hFl
  have HD := Lib.hid h
  clear hX hclose hspan hright hnext hplace hW hFl h hb hn hm ha hx hy hslen hxl
  by_cases c0 : m = 0 ∨ s < m
  · have hX2 : X = (d, 0, 111) := by have := HX.out; rwa [if_pos c0] at this
    have HX2 := Lib.hid hX2
    clear hX2 HX
    by_cases c1 : m = 0
    · have c1' : ((m : Int) == 0) = true := by simp [c1]
      clear c0 c1
      go_enter Try.func42, Try.ntmps42
      go_wp2_with (first
        | (go_at_call 81; refine HCL.out.mono ?_; clear HCL; rintro e w1 ⟨v1, rfl, hown1, hb1⟩; obtain ⟨oa, oc, rfl, hs1, hf1, hm1, ho1⟩ := owns_at hown1; have HB1 := Lib.hid hb1; have HD1 := Lib.hid (HD.out.below hb1); clear hown1 hb1 hs1 ho1)
        | (go_at_call 15; refine (HSP.out _).mono ?_; rintro e w' ⟨rfl, rfl⟩)
        | (go_at_call 82; refine (HRT.out _ HD1.out).mono ?_; rintro e w' ⟨rfl, rfl⟩))
      go_ret2
      rw [HX2.out]
      exact ⟨rfl, role, HD1.out, Moves.of_below HB1.out⟩
    · have c1' : ((m : Int) == 0) = false := by simp; omega
      have c2' : (s : Int) < m := by omega
      clear c0 c1
      go_enter Try.func42, Try.ntmps42
      go_wp2_with (first
        | (go_at_call 81; refine HCL.out.mono ?_; clear HCL; rintro e w1 ⟨v1, rfl, hown1, hb1⟩; obtain ⟨oa, oc, rfl, hs1, hf1, hm1, ho1⟩ := owns_at hown1; have HB1 := Lib.hid hb1; have HD1 := Lib.hid (HD.out.below hb1); clear hown1 hb1 hs1 ho1)
        | (go_at_call 15; refine (HSP.out _).mono ?_; rintro e w' ⟨rfl, rfl⟩)
        | (go_at_call 82; refine (HRT.out _ HD1.out).mono ?_; rintro e w' ⟨rfl, rfl⟩))
      go_ret2
      rw [HX2.out]
      exact ⟨rfl, role, HD1.out, Moves.of_below HB1.out⟩
  have c1' : ((m : Int) == 0) = false := by simp; omega
  have c2' : ¬ (s : Int) < m := by omega
  have hX1 := HX.out
  rw [if_neg c0] at hX1
  have HX1 := Lib.hid hX1
  clear hX1 HX c0
  by_cases hx0 : x.2 = 0
  · have hx0' : ((x.2 : Int) != 0) = false := by simp [hx0]
    by_cases hy0 : y.2 = 0
    · have hy0' : ((y.2 : Int) != 0) = false := by simp [hy0]
      have hX3 : X = (y.1, n, 0) := by have := HX1.out; rwa [if_neg (by omega), if_neg (by omega)] at this
      have HX3 := Lib.hid hX3
      clear hX3 HX1 hx0 hy0
      go_enter Try.func42, Try.ntmps42
      go_wp2_with (first
        | (go_at_call 81; refine HCL.out.mono ?_; clear HCL; rintro e w1 ⟨v1, rfl, hown1, hb1⟩; obtain ⟨oa, oc, rfl, hs1, hf1, hm1, ho1⟩ := owns_at hown1; have HB1 := Lib.hid hb1; have HD1 := Lib.hid (HD.out.below hb1); have HBA1 := Lib.hid (barg_made HD.out hs1 hf1 hm1 ho1); clear hown1 hb1 hs1 ho1)
        | (go_at_call 15; refine (HSP.out _).mono ?_; rintro e w' ⟨rfl, rfl⟩)
        | (go_at_call 82; refine (HRT.out _ HD1.out).mono ?_; rintro e w' ⟨rfl, rfl⟩)
        | (go_at_call 49; refine (HNX.out _ HD1.out).mono ?_; clear HNX; rintro e w2 ⟨rfl, hb2⟩; have HB2 := Lib.hid (HB1.out.trans (hb2.mono HB1.out.size)); have HD2 := Lib.hid (HD1.out.below hb2); have HBA2 := Lib.hid (HBA1.out.moves (Moves.of_below hb2)); clear hb2)
        | (go_at_call 83; refine (HPL.out _).mono ?_; rintro e w' ⟨rfl, rfl⟩)
        | (go_at_call 17; refine (HW.out _ oa oc HD2.out HBA2.out).mono ?_; clear HW; rintro e w3 ⟨rfl, r3, hd3, hm3⟩; have HD3 := Lib.hid hd3; have HM3 := Lib.hid ((Moves.of_below HB2.out).trans hm3); clear hd3 hm3)
        | (go_at_call 24; refine (HFl.out _ _ HD3.out).mono ?_; clear HFl; rintro e w4 ⟨rfl, hd4, hm4⟩; have HD4 := Lib.hid hd4; have HM4 := Lib.hid (HM3.out.trans hm4); clear hd4 hm4))
      go_ret2
      rw [HX3.out]
      exact ⟨rfl, r3, HD4.out, HM4.out⟩
    · have hy0' : ((y.2 : Int) != 0) = true := by simp [hy0]
      have hX3 : X = (y.1, 0, y.2) := by have := HX1.out; rwa [if_neg (by omega), if_pos hy0] at this
      have HX3 := Lib.hid hX3
      clear hX3 HX1 hx0 hy0
      go_enter Try.func42, Try.ntmps42
      go_wp2_with (first
        | (go_at_call 81; refine HCL.out.mono ?_; clear HCL; rintro e w1 ⟨v1, rfl, hown1, hb1⟩; obtain ⟨oa, oc, rfl, hs1, hf1, hm1, ho1⟩ := owns_at hown1; have HB1 := Lib.hid hb1; have HD1 := Lib.hid (HD.out.below hb1); have HBA1 := Lib.hid (barg_made HD.out hs1 hf1 hm1 ho1); clear hown1 hb1 hs1 ho1)
        | (go_at_call 15; refine (HSP.out _).mono ?_; rintro e w' ⟨rfl, rfl⟩)
        | (go_at_call 82; refine (HRT.out _ HD1.out).mono ?_; rintro e w' ⟨rfl, rfl⟩)
        | (go_at_call 49; refine (HNX.out _ HD1.out).mono ?_; clear HNX; rintro e w2 ⟨rfl, hb2⟩; have HB2 := Lib.hid (HB1.out.trans (hb2.mono HB1.out.size)); have HD2 := Lib.hid (HD1.out.below hb2); have HBA2 := Lib.hid (HBA1.out.moves (Moves.of_below hb2)); clear hb2)
        | (go_at_call 83; refine (HPL.out _).mono ?_; rintro e w' ⟨rfl, rfl⟩)
        | (go_at_call 17; refine (HW.out _ oa oc HD2.out HBA2.out).mono ?_; clear HW; rintro e w3 ⟨rfl, r3, hd3, hm3⟩; have HD3 := Lib.hid hd3; have HM3 := Lib.hid ((Moves.of_below HB2.out).trans hm3); clear hd3 hm3)
        | (go_at_call 24; refine (HFl.out _ _ HD3.out).mono ?_; clear HFl; rintro e w4 ⟨rfl, hd4, hm4⟩; have HD4 := Lib.hid hd4; have HM4 := Lib.hid (HM3.out.trans hm4); clear hd4 hm4))
      go_ret2
      rw [HX3.out]
      exact ⟨rfl, r3, HD4.out, HM4.out⟩
  · have hx0' : ((x.2 : Int) != 0) = true := by simp [hx0]
    have hX3 : X = (x.1, 0, x.2) := by have := HX1.out; rwa [if_pos hx0] at this
    have HX3 := Lib.hid hX3
    clear hX3 HX1 hx0
    go_enter Try.func42, Try.ntmps42
    go_wp2_with (first
      | (go_at_call 81; refine HCL.out.mono ?_; clear HCL; rintro e w1 ⟨v1, rfl, hown1, hb1⟩; obtain ⟨oa, oc, rfl, hs1, hf1, hm1, ho1⟩ := owns_at hown1; have HB1 := Lib.hid hb1; have HD1 := Lib.hid (HD.out.below hb1); have HBA1 := Lib.hid (barg_made HD.out hs1 hf1 hm1 ho1); clear hown1 hb1 hs1 ho1)
      | (go_at_call 15; refine (HSP.out _).mono ?_; rintro e w' ⟨rfl, rfl⟩)
      | (go_at_call 82; refine (HRT.out _ HD1.out).mono ?_; rintro e w' ⟨rfl, rfl⟩)
      | (go_at_call 49; refine (HNX.out _ HD1.out).mono ?_; clear HNX; rintro e w2 ⟨rfl, hb2⟩; have HB2 := Lib.hid (HB1.out.trans (hb2.mono HB1.out.size)); have HD2 := Lib.hid (HD1.out.below hb2); have HBA2 := Lib.hid (HBA1.out.moves (Moves.of_below hb2)); clear hb2)
      | (go_at_call 83; refine (HPL.out _).mono ?_; rintro e w' ⟨rfl, rfl⟩)
      | (go_at_call 17; refine (HW.out _ oa oc HD2.out HBA2.out).mono ?_; clear HW; rintro e w3 ⟨rfl, r3, hd3, hm3⟩; have HD3 := Lib.hid hd3; have HM3 := Lib.hid ((Moves.of_below HB2.out).trans hm3); clear hd3 hm3))
    go_ret2
    rw [HX3.out]
    exact ⟨rfl, r3, HD3.out, HM3.out⟩

end Go.Proofs.Ytpddbffamejgeaa
