/- pack: a reader. -/
import Derived.Test.YtpddbffamejgeaaBg
import Derived.Test.YtpddbffamejgeaaAr
import Derived.WalkMore
namespace Go.Proofs.Ytpddbffamejgeaa
open Go.RowKit Go.Proofs.YtpddbffamejgeaaW.PrintLast

/-- A reader with some bytes left. -/
structure ReaderAt (w : World) (g : Nat) (l : List UInt8) (pa : Option Addr) (c : Nat) : Prop where
  row : Row w g [.slice pa l.length c, .bool false] 180
  src : Src w pa (l.map Bv)
  fits : l.length ≤ c
  small : c ≤ maxLen
  off : 0 < l.length → ∀ ad, pa = some ad → ad.block ≠ g
def NewReaderPost (w : World) (l : List UInt8) (e : Ending) (w' : World) : Prop :=
  ∃ g pa c, e = .returned (.pointer (some ⟨g, 0, none⟩)) ∧ ReaderAt w' g l pa c ∧ w.heap.size ≤ g ∧ Below w.heap.size w w'

set_option maxRecDepth 100000 in
theorem new_any (w : World) (b : List UInt8) (ba : Option Addr) (bc : Nat) (hsrc : Src w ba (b.map Bv)) (hl : b.length ≤ 1000000) :
    Calls Try.prog 91 #[.slice ba b.length bc] w (NewReaderPost w b) := by
  have HCL := Lib.hid (clone_any w b ba bc hsrc hl)
  clear hsrc
  go_enter Try.func91, Try.ntmps91
  go_wp2_with (go_at_call 106; refine HCL.out.mono ?_; clear HCL; rintro e w1 ⟨v1, rfl, hown1, hb1⟩; obtain ⟨oa, oc, rfl, hs1, hf1, hm1, ho1⟩ := owns_at hown1; have HB1 := Lib.hid hb1; have HS1 := Lib.hid hs1; have HO1 := Lib.hid ho1; clear hb1 hs1 ho1 hown1)
  go_ret
  exact ⟨_, oa, oc, rfl, ⟨Row.new w1 _ 180, HS1.out.below ((Below.refl _ _).alloc (Nat.le_refl _) _), hf1, hm1, fun _ ad e e2 => by have := (HO1.out ad e).2; omega⟩, HB1.out.size, HB1.out.alloc HB1.out.size _⟩
theorem left_any (w : World) (g : Nat) (l : List UInt8) (pa : Option Addr) (c : Nat) (h : ReaderAt w g l pa c) : Calls Try.prog 93 #[.pointer (some ⟨g, 0, none⟩)] w fun e w' => e = .returned (.int .i64 (l.length : Nat)) ∧ w = w' := by
  have hc : w.cell? ⟨g, 0, none⟩ = some (.slice pa l.length c) := by rw [h.row.cell]; rfl
  clear h
  go_enter Try.func93, Try.ntmps93
  go_wp2
  go_ret
  exact ⟨rfl, rfl⟩

theorem add_plain {ad : Addr} (h : ad.spot = none) (n : Nat) : ad.add n = ⟨ad.block, ad.off + n, none⟩ := by
  obtain ⟨b, o, s⟩ := ad
  simp at h; subst h
  unfold Addr.add
  split
  · rename_i h0; first | rfl | (simp at h0; subst h0; rfl) | simp_all
  · first | rfl | simp
theorem reader_rest {w : World} {g : Nat} {l : List UInt8} {ad : Addr} {c : Nat} (h : ReaderAt w g l (some ad) c) (k : Nat) (hk : k ≤ l.length) {rest : List UInt8} (hr : l.drop k = rest) (A : Option Addr) (hA : 0 < rest.length → A = some (ad.add k)) (c' : Nat) (hc' : rest.length ≤ c') (hcm : c' ≤ maxLen) :
    ReaderAt (w.setCell ⟨g, 0, none⟩ (.slice A rest.length c')) g rest A c' where
  row := h.row.set 0 _
  src := by
    by_cases h0 : 0 < rest.length
    · have hA' := hA h0
      subst hA'
      have hl : k < l.length := by have := congrArg List.length hr; simp at this; omega
      have hs := h.src.sub k rest.length (by simpa using hl)
      have e : ((l.map Bv).drop k).take rest.length = rest.map Bv := by
        rw [← List.map_drop, hr]; exact List.take_of_length_le (by simp)
      rw [e] at hs
      refine hs.of_block fun ad2 ea hlt => heap_setCell_other _ _ _ _ ?_
      cases ea
      rw [Addr.add_block]
      exact h.off (by omega) ad rfl
    · exact Src.byte_nil _ _ h0
  fits := hc'
  small := hcm
  off := fun h0 ad2 e => by
    have hA' := hA h0
    rw [hA'] at e; cases e
    rw [Addr.add_block]
    have hl : k < l.length := by have := congrArg List.length hr; simp at this; omega
    exact h.off (by omega) ad rfl
theorem and127 (b : Nat) (hb : b < 256) : bits .and .u8 (b : Int) 127 = ((b % 128 : Nat) : Int) := by
  have h := u8_and_nat b 127 hb (by omega)
  rw [show ((127 : Nat) : Int) = 127 from rfl] at h
  rw [h]
  have h3 : ∀ k, k < 256 → k &&& 127 = k % 128 := by decide +kernel
  rw [h3 b hb]
theorem digit (m d e : Nat) (hm : m < 2 ^ e) (hd : d * 2 ^ e + m < 18446744073709551616) (hd2 : d < 18446744073709551616) :
    bits .or .u64 (m : Int) (IntKind.u64.wrap (IntKind.u64.wrap (d : Int) * 2 ^ e)) = ((m + d * 2 ^ e : Nat) : Int) := by
  have e1 : IntKind.u64.wrap (d : Int) = (d : Int) := by rw [u64_wrap]; omega
  have e2 : (d : Int) * 2 ^ e = ((d * 2 ^ e : Nat) : Int) := by rw [Int.natCast_mul, Int.natCast_pow]; rfl
  rw [e1, e2, u64_wrap]
  have e3 : ((d * 2 ^ e : Nat) : Int) % 18446744073709551616 = ((d * 2 ^ e : Nat) : Int) := by
    generalize d * 2 ^ e = y at *
    omega
  rw [e3, u64_or_nat m (d * 2 ^ e) (by omega) (by omega)]
  have : m ||| d * 2 ^ e = m + d * 2 ^ e := by
    rw [Nat.or_comm, show d * 2 ^ e = d <<< e by rw [Nat.shiftLeft_eq], ← Nat.shiftLeft_add_eq_or_of_lt hm]
    omega
  rw [this]
/-- What comes of reading a number: only the reader's block is another one. -/
def ReadNumPost (w : World) (g n : Nat) (rest : List UInt8) (e : Ending) (w' : World) : Prop :=
  e = .returned (.int .u64 (n : Nat)) ∧ ∃ pa c, ReaderAt w' g rest pa c ∧ Moves w (roleSet (fun _ => none) g .fuse) w' (roleSet (fun _ => none) g .fuse)

set_option maxRecDepth 100000 in
set_option maxHeartbeats 1600000 in
theorem readnum_any (w : World) (g fl : Nat) (hfl : fl < 9223372036854775808) (rest : List UInt8) (pa : Option Addr) (c : Nat) (h : ReaderAt w g (numN fl ++ rest) pa c) (hrest : rest.length ≤ 1000000) :
    Calls Try.prog 92 #[.pointer (some ⟨g, 0, none⟩)] w (ReadNumPost w g fl rest) := by
  obtain ⟨l, hl⟩ : ∃ l, l = numN fl ++ rest := ⟨_, rfl⟩
  rw [← hl] at h
  have hlen := numN_le10 (n := fl) (by omega)
  have hll : l.length ≤ 1000010 := by rw [hl]; simp; omega
  have HL := Lib.hid hl
  have H := Lib.hid h
  have hc : w.cell? ⟨g, 0, none⟩ = some (.slice pa l.length c) := by rw [h.row.cell]; rfl
  have hfr : w.frozen? ⟨g, 0, none⟩ = false := h.row.thaw 0
  clear hl h hlen
  go_enter Try.func92, Try.ntmps92
  go_wp2_with fail
  go_step3
  go_wp2_with fail
  go_step3
  go_wp2_with fail
  go_loopw [3, 11] (fun n k wr => w = wr ∧ ∃ (i m v : Nat) (pre : List UInt8), i ≤ 8 ∧ k = .int .i64 i ∧ n = .int .u64 m ∧ m < 2 ^ (7 * i) ∧ Hid (fl = m + v * 2 ^ (7 * i)) ∧ (i = 0 ∨ v ≠ 0) ∧ Hid (numN fl = pre ++ numN v ∧ pre.length = i))
    (fun _ k _ => 20 - (intOf k).toNat)
  case atStart => exact ⟨rfl, 0, 0, fl, [], by omega, rfl, rfl, by decide, Lib.hid (by simp), Or.inl rfl, Lib.hid ⟨rfl, rfl⟩⟩
  case round =>
    obtain ⟨rfl, i, m, v, pre, hi, rfl, rfl, hm, hfe, hiv, hpre⟩ := hrel
    have hvp := numN_pos v
    have hil : i < l.length := by
      rw [HL.out, hpre.out.1]
      have := hpre.out.2
      simp; omega
    obtain ⟨ad, rfl, hcl⟩ := H.out.src (by simp; omega)
    have hpow : v * 2 ^ (7 * i) + m = fl := by rw [hfe.out]; omega
    have hp1 : 0 < 2 ^ (7 * i) := Nat.two_pow_pos _
    have hi9 : ((i : Int) == 9) = false := by simp; omega
    by_cases hv : v < 128
    · have hx : l[i]? = some (UInt8.ofNat v) := by
        rw [HL.out, hpre.out.1, numN_small hv]
        have := hpre.out.2
        rw [List.append_assoc, List.getElem?_append_right (by omega), this]
        simp
      have hb : (UInt8.ofNat v).toNat = v := by simp; omega
      have hci : w.cell? (ad.add i) = some (.int .u8 (v : Int)) := by
        have := hcl i (Bv (UInt8.ofNat v)) (by simp [hx])
        rw [this]
        show some (Value.int .u8 (((UInt8.ofNat v).toNat : Nat) : Int)) = _
        rw [hb]
      have hand := and127 v (by omega)
      rw [Nat.mod_eq_of_lt hv] at hand
      have hdig := digit m v (7 * i) hm (by omega) (by omega)
      rw [← hand, show m + v * 2 ^ (7 * i) = fl by omega] at hdig
      have hdrop : l.drop (i + 1) = rest := by
        rw [HL.out, hpre.out.1, numN_small hv]
        have := hpre.out.2
        rw [List.drop_append, List.drop_of_length_le (by simp; omega)]
        simp [this]
      have hrl : l.length - (i + 1) = rest.length := by rw [← hdrop]; simp
      have hfits := H.out.fits
      have hsmall := H.out.small
      have hspot : ad.spot = none := H.out.src.spot (by simp; omega)
      have hfin : ∀ (A : Option Addr) (x : Int) (c2 : Nat), x = (fl : Int) → c2 = c - (i + 1) → (0 < rest.length → A = some (ad.add (i + 1))) → ReadNumPost w g fl rest (.returned (.int .u64 x)) (w.setCell ⟨g, 0, none⟩ (.slice A (l.length - (i + 1)) c2)) := fun A x c2 hx hc2 hA => by
        rw [hx, hrl, hc2]
        exact ⟨rfl, A, c - (i + 1), reader_rest H.out (i + 1) (by omega) hdrop A hA _ (by omega) (by omega), Moves.setCell _ _ (by simp [roleSet])⟩
      have HFIN := Lib.hid hfin
      have HDIG := Lib.hid hdig
      have HSP := Lib.hid hspot
      have HRL := Lib.hid hrl
      clear hx hb hcl hand hdig hdrop hrl hfin hfits hsmall hspot hpow hp1 hvp
      by_cases hce : c = i + 1
      · subst hce
        by_cases hv0 : v = 0
        · have hi0 : (i : Int) ≤ 0 := by rcases hiv with h | h; omega; exact absurd hv0 h
          have hv0' : ((v : Int) == 0) = true := by simp; omega
          clear hv0 hiv
          go_wp2
          go_ret
          exact HFIN.out _ _ _ HDIG.out (by omega) (fun h => by have := H.out.fits; have := HRL.out; omega)
        · have hv0' : ((v : Int) == 0) = false := by simp; omega
          clear hv0 hiv
          go_wp2
          go_ret
          exact HFIN.out _ _ _ HDIG.out (by omega) (fun h => by have := H.out.fits; have := HRL.out; omega)
      · by_cases hv0 : v = 0
        · have hi0 : (i : Int) ≤ 0 := by rcases hiv with h | h; omega; exact absurd hv0 h
          have hv0' : ((v : Int) == 0) = true := by simp; omega
          clear hv0 hiv
          go_wp2
          go_ret
          exact HFIN.out _ _ _ HDIG.out (by omega) (fun h => by rw [add_plain HSP.out])
        · have hv0' : ((v : Int) == 0) = false := by simp; omega
          clear hv0 hiv
          go_wp2
          go_ret
          exact HFIN.out _ _ _ HDIG.out (by omega) (fun h => by rw [add_plain HSP.out])
    · have hx : l[i]? = some (UInt8.ofNat (v % 128 + 128)) := by
        rw [HL.out, hpre.out.1, numN_big hv]
        have := hpre.out.2
        rw [List.append_assoc, List.getElem?_append_right (by omega), this]
        simp
      have hb : (UInt8.ofNat (v % 128 + 128)).toNat = v % 128 + 128 := by simp; omega
      obtain ⟨b, hbe⟩ : ∃ b, b = v % 128 + 128 := ⟨_, rfl⟩
      have hb1 : 128 ≤ b := by omega
      have hb2 : b < 256 := by omega
      have hci : w.cell? (ad.add i) = some (.int .u8 (b : Int)) := by
        have := hcl i (Bv (UInt8.ofNat (v % 128 + 128))) (by simp [hx])
        rw [this]
        show some (Value.int .u8 (((UInt8.ofNat (v % 128 + 128)).toNat : Nat) : Int)) = _
        rw [hb, hbe]
      have hand := and127 b hb2
      rw [show b % 128 = v % 128 by omega] at hand
      have hle1 : v % 128 * 2 ^ (7 * i) ≤ v * 2 ^ (7 * i) := Nat.mul_le_mul_right _ (Nat.mod_le _ _)
      have hdig := digit m (v % 128) (7 * i) hm (by omega) (by omega)
      rw [← hand] at hdig
      have hpe : 2 ^ (7 * (i + 1)) = 128 * 2 ^ (7 * i) := by
        rw [show 7 * (i + 1) = 7 * i + 7 by omega, Nat.pow_add]
        omega
      have hm2 : m + v % 128 * 2 ^ (7 * i) < 2 ^ (7 * (i + 1)) := by
        rw [hpe]
        have : v % 128 ≤ 127 := by omega
        have := Nat.mul_le_mul_right (2 ^ (7 * i)) this
        omega
      have hfe2 : fl = (m + v % 128 * 2 ^ (7 * i)) + v / 128 * 2 ^ (7 * (i + 1)) := by
        rw [hpe, ← Nat.mul_assoc]
        have h1 : v / 128 * 128 * 2 ^ (7 * i) + v % 128 * 2 ^ (7 * i) = v * 2 ^ (7 * i) := by
          rw [← Nat.add_mul]; congr 1; omega
        omega
      have hi7 : i + 1 ≤ 8 := by
        rcases Nat.lt_or_ge i 8 with h | h
        · omega
        · exfalso
          have h8 : i = 8 := by omega
          subst h8
          have : 128 * 2 ^ (7 * 8) ≤ v * 2 ^ (7 * 8) := Nat.mul_le_mul_right _ (by omega)
          simp at this hpow
          omega
      have hpre2 : numN fl = (pre ++ [UInt8.ofNat (v % 128 + 128)]) ++ numN (v / 128) ∧ (pre ++ [UInt8.ofNat (v % 128 + 128)]).length = i + 1 := by
        have h1 := hpre.out
        rw [numN_big hv] at h1
        exact ⟨by rw [h1.1]; simp, by simp [h1.2]⟩
      have HDIG := Lib.hid hdig
      have HFE2 := Lib.hid hfe2
      have HPRE2 := Lib.hid hpre2
      have HM2 := Lib.hid hm2
      have hb0 : ((b : Int) == 0) = false := by simp; omega
      clear hx hb hcl hand hdig hpe hm2 hfe2 hpre2 hpow hp1 hvp hle1 hbe hiv hm
      go_wp2
      exact ⟨⟨trivial, i + 1, m + v % 128 * 2 ^ (7 * i), v / 128, pre ++ [UInt8.ofNat (v % 128 + 128)], hi7, by go_num, by rw [HDIG.out], HM2.out, HFE2, Or.inr (by omega), HPRE2⟩, by simp [intOf]; omega⟩

end Go.Proofs.Ytpddbffamejgeaa
