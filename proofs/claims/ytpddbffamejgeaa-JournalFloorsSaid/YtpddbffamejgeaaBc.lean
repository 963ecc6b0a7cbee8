/- slot: what counts, in one of two places. -/
import Derived.Test.YtpddbffamejgeaaAq
import Derived.Test.YtpddbffamejgeaaAo
namespace Go.Proofs.Ytpddbffamejgeaa
open Go.RowKit Go.Proofs.YtpddbffamejgeaaW.PrintLast

theorem right_yes {w : World} {p : Nat} {role : Nat → Option Own} {d : DS} (h : DiskAt w p role d) (f s : Nat) (hs : 1 ≤ s) (hs2 : s ≤ 255) (hfit : f + 2 * s ≤ d.size) :
    Calls Try.prog 82 #[.pointer (some ⟨p, 0, none⟩), .int .i64 f, .int .i64 s] w fun e w' => e = .returned (.bool true) ∧ w = w' := by
  have HZ := Lib.hid (disk_size h)
  have hsz : d.size ≤ 2048 := by obtain ⟨M, a1, a2, f, hh⟩ := h; exact hh.sz
  have h1 : (0 : Int) ≤ f := by omega
  have h2 : (1 : Int) ≤ s := by omega
  have h3 : (s : Int) ≤ 255 := by omega
  have h4 : (f : Int) ≤ (d.size : Int) - 2 * (s : Int) := by omega
  clear h
  go_enter Try.func82, Try.ntmps82
  go_wp2_with (go_at_call 65; refine HZ.out.mono ?_; rintro e w' ⟨rfl, rfl⟩)
  go_ret
  exact ⟨congrArg (fun q => Ending.returned (.bool q)) (by first | rfl | simp [h4] | (simp; omega)), rfl⟩
theorem right_no {w : World} {p : Nat} {role : Nat → Option Own} {d : DS} (h : DiskAt w p role d) (f s : Int) (hn : ¬ (0 ≤ f ∧ 1 ≤ s ∧ s ≤ 255 ∧ f + 2 * s ≤ d.size)) (hf : f ≤ 9223372036854775807) :
    Calls Try.prog 82 #[.pointer (some ⟨p, 0, none⟩), .int .i64 f, .int .i64 s] w fun e w' => e = .returned (.bool false) ∧ w = w' := by
  have HZ := Lib.hid (disk_size h)
  have hsz : d.size ≤ 2048 := by obtain ⟨M, a1, a2, f, hh⟩ := h; exact hh.sz
  clear h
  by_cases c1 : 0 ≤ f
  · by_cases c2 : 1 ≤ s
    · by_cases c3 : s ≤ 255
      · have h4 : ¬ f ≤ (d.size : Int) - 2 * s := by omega
        clear hn
        go_enter Try.func82, Try.ntmps82
        go_wp2_with (go_at_call 65; refine HZ.out.mono ?_; rintro e w' ⟨rfl, rfl⟩)
        go_ret
        exact ⟨congrArg (fun q => Ending.returned (.bool q)) (by first | rfl | simp [h4] | (simp; omega)), rfl⟩
      · clear hn
        go_enter Try.func82, Try.ntmps82
        go_wp2_with (go_at_call 65; refine HZ.out.mono ?_; rintro e w' ⟨rfl, rfl⟩)
        go_ret
        exact ⟨rfl, rfl⟩
    · clear hn
      go_enter Try.func82, Try.ntmps82
      go_wp2_with (go_at_call 65; refine HZ.out.mono ?_; rintro e w' ⟨rfl, rfl⟩)
      go_ret
      exact ⟨rfl, rfl⟩
  · clear hn
    go_enter Try.func82, Try.ntmps82
    go_wp2_with (go_at_call 65; refine HZ.out.mono ?_; rintro e w' ⟨rfl, rfl⟩)
    go_ret
    exact ⟨rfl, rfl⟩
theorem place_any (f s g : Nat) (hf : f ≤ 4096) (hs : s ≤ 4096) (w : World) : Calls Try.prog 83 #[.int .i64 f, .int .i64 s, .int .u64 g] w fun e w' => e = .returned (.int .i64 ((f + s * (g % 2) : Nat) : Int)) ∧ w = w' := by
  have h01 : g % 2 = 0 ∨ g % 2 = 1 := by omega
  rcases h01 with h | h
  · have h' : (g : Int) % 2 = 0 := by omega
    rw [h]
    clear h
    go_enter Try.func83, Try.ntmps83
    go_wp2
    go_ret
    exact ⟨congrArg (fun q => Ending.returned (.int .i64 q)) (by first | rfl | simp | omega), rfl⟩
  · have h' : (g : Int) % 2 = 1 := by omega
    rw [h]
    clear h
    go_enter Try.func83, Try.ntmps83
    go_wp2
    go_ret
    exact ⟨congrArg (fun q => Ending.returned (.int .i64 q)) (by first | rfl | (simp; done) | omega), rfl⟩

theorem owns_mono {w : World} {b b' : Nat} {v : Value} {n : Nat} {xs : List Value} {e : TypeId} {sz : Nat} (h : w.ownsRow b e sz v n xs) (hb : b' ≤ b) : w.ownsRow b' e sz v n xs := by
  obtain ⟨h1, h2⟩ := h
  refine ⟨h1, ?_⟩
  rcases h2 with h2 | ⟨g, cap, cur, hv, hg, r⟩
  · exact Or.inl h2
  · exact Or.inr ⟨g, cap, cur, hv, Nat.le_trans hb hg, r⟩
/-- What stands in one of the places: its content, its generation (0: nothing). -/
def slotAt (d : DS) (f s k : Nat) : List UInt8 × Nat :=
  if (d.read (f + s * k : Nat) (f + s * k + s : Nat)).err = 0 ∧ (unsealN (d.read (f + s * k : Nat) (f + s * k + s : Nat)).b).isSome = true ∧ (d.read (f + s * k : Nat) (f + s * k + s : Nat)).n % 2 = k
  then ((unsealN (d.read (f + s * k : Nat) (f + s * k + s : Nat)).b).getD [], (d.read (f + s * k : Nat) (f + s * k + s : Nat)).n) else ([], 0)
def slotTo (d : DS) (f s : Nat) : Nat → List UInt8 × Nat
  | 0 => ([], 0)
  | k + 1 => if (slotTo d f s k).2 < (slotAt d f s k).2 then slotAt d f s k else slotTo d f s k
def DS.slot (d : DS) (f s : Nat) : List UInt8 × Nat := slotTo d f s 2
def slotErr (x : List UInt8 × Nat) : Nat := if x.2 = 0 then 111 else 0
def SlotReadPost (w : World) (x : List UInt8 × Nat) (e : Ending) (w' : World) : Prop :=
  ∃ v, e = .returned (.tuple #[v, .int .u64 (x.2 : Nat), .int .i64 (slotErr x : Nat)]) ∧ w'.ownsRow w.heap.size 5 1 v x.1.length (x.1.map Bv) ∧ Below w.heap.size w w'
theorem slotTo_nil (d : DS) (f s : Nat) : ∀ k, (slotTo d f s k).2 = 0 → (slotTo d f s k).1 = []
  | 0, _ => rfl
  | k + 1, h => by
    simp only [slotTo] at h ⊢
    split at h
    · rename_i hlt; omega
    · rename_i hlt; rw [if_neg hlt]; exact slotTo_nil d f s k h
theorem read_n_lt (d : DS) (a e : Int) : (d.read a e).n < 18446744073709551616 := by
  unfold DS.read
  split
  · simp
  split
  · simp
  simp only
  split
  · simp
  split
  · exact numS_lt _
  · simp

set_option maxRecDepth 100000 in
set_option maxHeartbeats 3200000 in
theorem slotread_any {w : World} {p : Nat} {role : Nat → Option Own} {d : DS} (h : DiskAt w p role d) (f s : Nat) (hs : 1 ≤ s) (hs2 : s ≤ 255) (hfit : f + 2 * s ≤ d.size) :
    Calls Try.prog 43 #[.pointer (some ⟨p, 0, none⟩), .int .i64 f, .int .i64 s] w (SlotReadPost w (d.slot f s)) := by
  have hsz : d.size ≤ 2048 := by obtain ⟨M, a1, a2, f, hh⟩ := h; exact hh.sz
  have HRT := Lib.hid (right_yes h f s hs hs2 hfit)
  have HD := Lib.hid h
  clear h
  obtain ⟨x, hx⟩ : ∃ x, x = d.slot f s := ⟨_, rfl⟩
  rw [← hx]
  have HX := Lib.hid hx
  clear hx
  go_enter Try.func43, Try.ntmps43
  go_wp2_with (go_at_call 82; refine HRT.out.mono ?_; rintro e w' ⟨rfl, rfl⟩)
  go_loopw [9, 10, 24] (fun v g k wr => ∃ (j : Nat) (y : List UInt8 × Nat), j ≤ 2 ∧ k = .int .u64 j ∧ g = .int .u64 (y.2 : Nat) ∧ y.2 < 18446744073709551616 ∧ Hid (y = slotTo d f s j) ∧ Hid (wr.ownsRow w.heap.size 5 1 v y.1.length (y.1.map Bv)) ∧ Hid (Below w.heap.size w wr))
    (fun _ _ k _ => 2 - (intOf k).toNat)
  case atStart => exact ⟨0, ([], 0), by omega, rfl, rfl, by decide, rfl, World.ownsRow_nil _ _ _ _, Below.refl _ _⟩
  case round =>
    obtain ⟨j, y, hj, rfl, rfl, hy64, hy, hown, hb⟩ := hrel
    by_cases hlt : j < 2
    · obtain ⟨a, ha⟩ : ∃ a, a = f + s * (j % 2) := ⟨_, rfl⟩
      have hpl := fun W => place_any f s j (by omega) (by omega) W
      rw [← ha] at hpl
      have haj : a = f + s * j := by rw [ha, Nat.mod_eq_of_lt hlt]
      have hale : a + s ≤ d.size := by
        have : s * j ≤ s := by
          rcases (show j = 0 ∨ j = 1 by omega) with h | h <;> subst h <;> omega
        omega
      obtain ⟨R, hR⟩ : ∃ R, R = d.read a ((a : Int) + (s : Int)) := ⟨_, rfl⟩
      have hrd := read_any (HD.out.below hb.out) a ((a : Int) + (s : Int)) (by omega)
      rw [← hR] at hrd
      have hRl : R.b.length ≤ 65025 := by rw [hR]; exact read_len d _ _
      have hRn : R.n < 18446744073709551616 := by rw [hR]; exact read_n_lt d _ _
      have hop : ∀ W oa oc, Src W oa (R.b.map Bv) → R.b.length ≤ oc → Calls Try.prog 84 #[.slice oa R.b.length oc] W (OpenPost W R.b) := fun W oa oc h1 h2 => open_any W R.b oa oc h1 h2 (by omega)
      obtain ⟨u, hu⟩ : ∃ u, u = (unsealN R.b).isSome := ⟨_, rfl⟩
      obtain ⟨c, hc⟩ : ∃ c, c = (unsealN R.b).getD [] := ⟨_, rfl⟩
      unfold OpenPost at hop
      rw [← hu, ← hc] at hop
      have hat : slotAt d f s j = if R.err = 0 ∧ u = true ∧ R.n % 2 = j then (c, R.n) else ([], 0) := by
        unfold slotAt
        rw [← haj, show ((a + s : Nat) : Int) = (a : Int) + (s : Int) by omega, ← hR, ← hu, ← hc]
      have hnext : slotTo d f s (j + 1) = if y.2 < (slotAt d f s j).2 then slotAt d f s j else y := by rw [hy.out]; rfl
      have HAT := Lib.hid hat
      have HPL := Lib.hid hpl
      have HRD := Lib.hid hrd
      have HOP := Lib.hid hop
      have HNX := Lib.hid hnext
      clear hpl hrd hop hnext hat hc hu hR ha haj
      by_cases hgood : (R.err = 0 ∧ u = true ∧ R.n % 2 = j) ∧ y.2 < R.n
      · obtain ⟨⟨c1, rfl, c3⟩, c4⟩ := hgood
        have hn2 : slotTo d f s (j + 1) = (c, R.n) := by
          have hA : slotAt d f s j = (c, R.n) := by rw [HAT.out, if_pos ⟨c1, rfl, c3⟩]
          have := HNX.out
          rw [hA, if_pos c4] at this
          exact this
        have c1' : ((R.err : Int) == 0) = true := by simp [c1]
        have c3' : ((R.n : Int) % 2 == (j : Int)) = true := by simp; omega
        have c4' : (y.2 : Int) < R.n := by omega
        have HN2 := Lib.hid hn2
        clear hn2 HNX HAT c1 c3
        go_wp2_with (first
          | (go_at_call 83; refine (HPL.out _).mono ?_; rintro e w' ⟨rfl, rfl⟩)
          | (go_at_call 18; refine HRD.out.mono ?_; clear HRD; rintro e w1 ⟨v1, rfl, hown1, hb1⟩; obtain ⟨oa, oc, rfl, hs1, hf1, _⟩ := owns_src hown1; have HB1 := Lib.hid (hb.out.trans (hb1.mono hb.out.size)); have HS1 := Lib.hid hs1; clear hb1 hs1 hown1)
          | (go_at_call 84; refine (HOP.out _ oa oc HS1.out hf1).mono ?_; clear HOP; rintro e w2 ⟨v2, rfl, hown2, hb2⟩; have HO2 := Lib.hid (owns_mono hown2 HB1.out.size); have HB2 := Lib.hid (HB1.out.trans (hb2.mono HB1.out.size)); clear hb2 hown2))
        go_roundw
        case rel => exact ⟨j + 1, (c, R.n), by omega, by go_num, rfl, hRn, Lib.hid HN2.out.symm, HO2, HB2⟩
        case measure => simp [intOf]; omega
      · have hn2 : slotTo d f s (j + 1) = y := by
          have := HNX.out
          by_cases h1 : R.err = 0 ∧ u = true ∧ R.n % 2 = j
          · have hA : slotAt d f s j = (c, R.n) := by rw [HAT.out, if_pos h1]
            rw [hA, if_neg (fun h2 => hgood ⟨h1, h2⟩)] at this
            exact this
          · have hA : slotAt d f s j = ([], 0) := by rw [HAT.out, if_neg h1]
            rw [hA, if_neg (by simp)] at this
            exact this
        have HN2 := Lib.hid hn2
        have HEND : Hid (∀ wz : World, Below wr.heap.size wr wz → Hid (wz.ownsRow w.heap.size 5 1 u9 y.1.length (y.1.map Bv)) ∧ Hid (Below w.heap.size w wz)) := Lib.hid fun wz hz => ⟨owns_below hown.out hz, hb.out.trans (hz.mono hb.out.size)⟩
        clear hn2 HNX HAT
        by_cases c1 : R.err = 0
        · have c1' : ((R.err : Int) == 0) = true := by simp [c1]
          cases hu : u with
          | false =>
            subst hu
            clear hgood c1
            go_wp2_with (first
              | (go_at_call 83; refine (HPL.out _).mono ?_; rintro e w' ⟨rfl, rfl⟩)
              | (go_at_call 18; refine HRD.out.mono ?_; clear HRD; rintro e w1 ⟨v1, rfl, hown1, hb1⟩; obtain ⟨oa, oc, rfl, hs1, hf1, _⟩ := owns_src hown1; have HB1 := Lib.hid hb1; have HS1 := Lib.hid hs1; clear hb1 hs1 hown1)
              | (go_at_call 84; refine (HOP.out _ oa oc HS1.out hf1).mono ?_; clear HOP; rintro e w2 ⟨v2, rfl, hown2, hb2⟩; have HB2 := Lib.hid (HB1.out.trans (hb2.mono HB1.out.size)); clear hb2 hown2))
            go_roundw
            case rel => exact ⟨j + 1, y, by omega, by go_num, rfl, hy64, Lib.hid HN2.out.symm, (HEND.out _ HB2.out).1, (HEND.out _ HB2.out).2⟩
            case measure => simp [intOf]; omega
          | true =>
            subst hu
            by_cases c3 : R.n % 2 = j
            · have c3' : ((R.n : Int) % 2 == (j : Int)) = true := by simp; omega
              have c4 : ¬ y.2 < R.n := fun h => hgood ⟨⟨c1, rfl, c3⟩, h⟩
              have c4' : (R.n : Int) ≤ y.2 := by omega
              clear hgood c1 c3
              go_wp2_with (first
                | (go_at_call 83; refine (HPL.out _).mono ?_; rintro e w' ⟨rfl, rfl⟩)
                | (go_at_call 18; refine HRD.out.mono ?_; clear HRD; rintro e w1 ⟨v1, rfl, hown1, hb1⟩; obtain ⟨oa, oc, rfl, hs1, hf1, _⟩ := owns_src hown1; have HB1 := Lib.hid hb1; have HS1 := Lib.hid hs1; clear hb1 hs1 hown1)
                | (go_at_call 84; refine (HOP.out _ oa oc HS1.out hf1).mono ?_; clear HOP; rintro e w2 ⟨v2, rfl, hown2, hb2⟩; have HB2 := Lib.hid (HB1.out.trans (hb2.mono HB1.out.size)); clear hb2 hown2))
              go_roundw
              case rel => exact ⟨j + 1, y, by omega, by go_num, rfl, hy64, Lib.hid HN2.out.symm, (HEND.out _ HB2.out).1, (HEND.out _ HB2.out).2⟩
              case measure => simp [intOf]; omega
            · have c3' : ((R.n : Int) % 2 == (j : Int)) = false := by simp; omega
              clear hgood c1 c3
              go_wp2_with (first
                | (go_at_call 83; refine (HPL.out _).mono ?_; rintro e w' ⟨rfl, rfl⟩)
                | (go_at_call 18; refine HRD.out.mono ?_; clear HRD; rintro e w1 ⟨v1, rfl, hown1, hb1⟩; obtain ⟨oa, oc, rfl, hs1, hf1, _⟩ := owns_src hown1; have HB1 := Lib.hid hb1; have HS1 := Lib.hid hs1; clear hb1 hs1 hown1)
                | (go_at_call 84; refine (HOP.out _ oa oc HS1.out hf1).mono ?_; clear HOP; rintro e w2 ⟨v2, rfl, hown2, hb2⟩; have HB2 := Lib.hid (HB1.out.trans (hb2.mono HB1.out.size)); clear hb2 hown2))
              go_roundw
              case rel => exact ⟨j + 1, y, by omega, by go_num, rfl, hy64, Lib.hid HN2.out.symm, (HEND.out _ HB2.out).1, (HEND.out _ HB2.out).2⟩
              case measure => simp [intOf]; omega
        · have c1' : ((R.err : Int) == 0) = false := by simp; omega
          clear hgood c1
          go_wp2_with (first
            | (go_at_call 83; refine (HPL.out _).mono ?_; rintro e w' ⟨rfl, rfl⟩)
            | (go_at_call 18; refine HRD.out.mono ?_; clear HRD; rintro e w1 ⟨v1, rfl, hown1, hb1⟩; obtain ⟨oa, oc, rfl, hs1, hf1, _⟩ := owns_src hown1; have HB1 := Lib.hid hb1; have HS1 := Lib.hid hs1; clear hb1 hs1 hown1)
            | (go_at_call 84; refine (HOP.out _ oa oc HS1.out hf1).mono ?_; clear HOP; rintro e w2 ⟨v2, rfl, hown2, hb2⟩; have HB2 := Lib.hid (HB1.out.trans (hb2.mono HB1.out.size)); clear hb2 hown2))
          go_roundw
          case rel => exact ⟨j + 1, y, by omega, by go_num, rfl, hy64, Lib.hid HN2.out.symm, (HEND.out _ HB2.out).1, (HEND.out _ HB2.out).2⟩
          case measure => simp [intOf]; omega
    · obtain rfl : j = 2 := by omega
      have hxy : x = y := by rw [HX.out, hy.out]; rfl
      subst hxy
      have hnil := slotTo_nil d f s 2
      rw [← hy.out] at hnil
      have HNIL := Lib.hid hnil
      clear hnil
      by_cases h0 : x.2 = 0
      · have h0' : ((x.2 : Int) == 0) = true := by simp [h0]
        have HP : Hid (SlotReadPost w x (.returned (.tuple #[.slice none 0 0, .int .u64 0, .int .i64 111])) wr) := Lib.hid ⟨.slice none 0 0, by rw [h0]; unfold slotErr; rw [if_pos h0]; rfl, by rw [HNIL.out h0]; exact World.ownsRow_nil _ _ _ _, hb.out⟩
        clear h0
        go_wp2
        go_ret3
        exact HP.out
      · have h0' : ((x.2 : Int) == 0) = false := by simp; omega
        have HP : Hid (SlotReadPost w x (.returned (.tuple #[u9, .int .u64 (x.2 : Nat), .int .i64 0])) wr) := Lib.hid ⟨u9, by unfold slotErr; rw [if_neg h0]; rfl, hown.out, hb.out⟩
        clear h0
        go_wp2
        go_ret3
        exact HP.out

end Go.Proofs.Ytpddbffamejgeaa
