/- log: the records that stand on a disk. -/
import Derived.Test.YtpddbffamejgeaaAn
namespace Go.Proofs.Ytpddbffamejgeaa
open Go.RowKit Go.Proofs.YtpddbffamejgeaaW.PrintLast

def needN (n : Nat) : Nat := if n > 4096 then 0 else spanN (n + 4)
theorem need_any (n : Nat) (hn : n ≤ 1000000) (w : World) : Calls Try.prog 36 #[.int .i64 n] w fun e w' => e = .returned (.int .i64 (needN n : Nat)) ∧ w = w' := by
  by_cases h : (n : Int) > 4096
  · have e : needN n = 0 := by unfold needN; rw [if_pos (by omega)]
    have HE := Lib.hid e
    clear e
    go_enter Try.func36, Try.ntmps36
    go_wp2
    go_ret
    rw [HE.out]
    exact ⟨rfl, rfl⟩
  · have e : needN n = spanN (n + 4) := by unfold needN; rw [if_neg (by omega)]
    have hs := Lib.hid (span_any (n + 4) w (by omega))
    rw [e]
    clear e
    go_enter Try.func36, Try.ntmps36
    go_wp2_with (go_at_call 15; refine hs.out.mono ?_; rintro e w' ⟨rfl, rfl⟩)
    go_ret
    exact ⟨rfl, rfl⟩

theorem owns_at {w : World} {base : Nat} {v : Value} {l : List UInt8} (h : w.ownsRow base 5 1 v l.length (l.map Bv)) : ∃ oa oc, v = .slice oa l.length oc ∧ Src w oa (l.map Bv) ∧ l.length ≤ oc ∧ oc ≤ maxLen ∧ ∀ ad, oa = some ad → base ≤ ad.block ∧ ad.block < w.heap.size := by
  obtain ⟨oa, oc, e, h1, h2, h3⟩ := owns_src h
  refine ⟨oa, oc, e, h1, h2, h3, fun ad ea => ?_⟩
  subst ea
  exact h.lt ad.block (by rw [e]; rfl)
theorem ListsAt.block {w : World} {F : Nat → Prop} {v : Value} {L : List (List UInt8)} (h : ListsAt w F v L) : ∀ g, v.ownBlock = some g → F g := by
  obtain ⟨vs, h1, h2, h3⟩ := h; exact h2
theorem ListsAt.blt {w : World} {F : Nat → Prop} {v : Value} {L : List (List UInt8)} (h : ListsAt w F v L) : ∀ g, v.ownBlock = some g → g < w.heap.size := by
  obtain ⟨vs, h1, h2, h3⟩ := h; exact fun g hg => (h1.lt g hg).2
/-- Bytes that were made behind a list. -/
theorem inner_own {w w1 w2 : World} {oa : Option Addr} {l : List UInt8} {oc : Nat} {v : Value} {L : List (List UInt8)} {F : Nat → Prop} (hsz : w.heap.size ≤ w1.heap.size) (_hb : Below w1.heap.size w1 w2) (hs : Src w2 oa (l.map Bv)) (hf : l.length ≤ oc) (hm : oc ≤ maxLen)
    (ho : ∀ ad, oa = some ad → w1.heap.size ≤ ad.block ∧ ad.block < w2.heap.size) (hL : ListsAt w1 F v L) : InnerAt w2 (fun k => w.heap.size ≤ k ∧ some k ≠ v.ownBlock) (.slice oa l.length oc) l oa oc where
  val := rfl
  src := hs
  fits := hf
  small := hm
  inF := fun _ ad e => ⟨by have := (ho ad e).1; omega, fun e2 => by have := hL.blt ad.block e2.symm; have := (ho ad e).1; omega⟩

/-- The records from a sector on, and where the last one ends. -/
def recsFrom (d : DS) (e : Nat) : Nat → Nat → Nat → List (List UInt8) × Nat
  | 0, a, _ => ([], a)
  | f + 1, a, last =>
    if (d.read a e).err = 0 ∧ (unsealN (d.read a e).b).isSome = true ∧ last < (d.read a e).n then
      ((unsealN (d.read a e).b).getD [] :: (recsFrom d e f (a + (d.read a e).many) (d.read a e).n).1, (recsFrom d e f (a + (d.read a e).many) (d.read a e).n).2)
    else ([], a)
def DS.recs (d : DS) (a e last : Nat) : List (List UInt8) × Nat := recsFrom d e (e + 1 - a) a last
theorem read_len (d : DS) (a e : Int) : (d.read a e).b.length ≤ 65025 := by
  unfold DS.read
  split
  · simp
  split
  · simp
  simp only
  split
  · simp
  split
  · have h1 := length_bodies d a.toNat ((d.get a.toNat).getD 1 0).toNat
    have h2 := UInt8.toNat_lt ((d.get a.toNat).getD 1 0)
    simp only
    omega
  · simp
def RecsPost (w : World) (x : List (List UInt8) × Nat) (e : Ending) (w' : World) : Prop :=
  ∃ v, e = .returned (.tuple #[v, .int .i64 (x.2 : Nat)]) ∧ ListsAt w' (fun k => w.heap.size ≤ k) v x.1 ∧ Below w.heap.size w w'

set_option maxRecDepth 100000 in
set_option maxHeartbeats 1600000 in
theorem records_any {w : World} {p : Nat} {role : Nat → Option Own} {d : DS} (h : DiskAt w p role d) (a e last : Nat) (hae : a ≤ e) (he : e ≤ d.size) (hlast : last < 18446744073709551616) :
    Calls Try.prog 80 #[.pointer (some ⟨p, 0, none⟩), .int .i64 a, .int .i64 e, .int .u64 last] w (RecsPost w (d.recs a e last)) := by
  obtain ⟨x, hx⟩ : ∃ x, x = d.recs a e last := ⟨_, rfl⟩
  rw [← hx]
  have hsz : d.size ≤ 2048 := by obtain ⟨M, a1, a2, f, hh⟩ := h; exact hh.sz
  have HX := Lib.hid hx
  have HD := Lib.hid h
  clear hx h
  go_enter Try.func80, Try.ntmps80
  go_wp2_with fail
  go_loopw [1, 3, 10] (fun i l v wr => ∃ (k q f : Nat) (acc : List (List UInt8)), k ≤ e ∧ e < k + f ∧ acc.length ≤ k ∧ i = .int .i64 k ∧ q < 18446744073709551616 ∧ l = .int .u64 q ∧ Hid (ListsAt wr (fun k => w.heap.size ≤ k) v acc) ∧ Hid (Below w.heap.size w wr) ∧ Hid (x = (acc ++ (recsFrom d e f k q).1, (recsFrom d e f k q).2)))
    (fun i _ _ _ => e - (intOf i).toNat)
  case atStart => exact ⟨a, last, e + 1 - a, [], hae, by omega, by simp, rfl, hlast, rfl, ListsAt.nil _ _, Below.refl _ _, by rw [HX.out]; rfl⟩
  case round =>
    obtain ⟨k, q, f, acc, hk, hf, hacc, rfl, hq, rfl, hL, hb, hxr⟩ := hrel
    obtain ⟨f, rfl⟩ : ∃ g, f = g + 1 := ⟨f - 1, by omega⟩
    obtain ⟨R, hR⟩ : ∃ R, R = d.read k e := ⟨_, rfl⟩
    have hrd := read_any (HD.out.below hb.out) k e (by omega)
    rw [← hR] at hrd
    have hRl : R.b.length ≤ 65025 := by rw [hR]; exact read_len d k e
    have hop : ∀ W oa oc, Src W oa (R.b.map Bv) → R.b.length ≤ oc → Calls Try.prog 84 #[.slice oa R.b.length oc] W (OpenPost W R.b) := fun W oa oc h1 h2 => open_any W R.b oa oc h1 h2 (by omega)
    have hxs := hxr.out
    simp only [recsFrom, ← hR] at hxs
    have hR0 : R.err = 0 → R.many ≠ 0 ∧ k + R.many ≤ e ∧ R.n < 18446744073709551616 := fun h0 => by
      have h1 : d.read k e = ⟨R.b, R.n, R.many, 0⟩ := by rw [← hR, ← h0]
      obtain ⟨_, h2, _, h3, _, h4, _, _⟩ := stands_of_read h1
      exact ⟨h2, by omega, h3⟩
    have HRD := Lib.hid hrd
    have HOP := Lib.hid hop
    have HXS := Lib.hid hxs
    have HR0 := Lib.hid hR0
    clear hrd hop hxs hR0 hxr HX hR
    by_cases hgood : R.err = 0 ∧ (unsealN R.b).isSome = true ∧ q < R.n
    · obtain ⟨c1, c2, c3⟩ := hgood
      obtain ⟨inner, hin⟩ := Option.isSome_iff_exists.1 c2
      have hx2 : x = (acc ++ (inner :: (recsFrom d e f (k + R.many) R.n).1), (recsFrom d e f (k + R.many) R.n).2) := by
        have := HXS.out
        rw [if_pos ⟨c1, c2, c3⟩, hin] at this
        exact this
      obtain ⟨hm0, hme, hn64⟩ := HR0.out c1
      have c1' : ((R.err : Int) != 0) = false := by simp [c1]
      have c3' : ¬ R.n ≤ q := by omega
      have c3'' : ¬ (R.n : Int) ≤ (q : Int) := by omega
      have HIN := Lib.hid hin
      have HX2 := Lib.hid hx2
      have HC := Lib.hid c1
      clear hin hx2 c1 HXS HR0
      obtain ⟨pa, pc, rfl, _, _⟩ := hL.out.len
      go_wp2_with (first
        | (go_at_call 18; refine HRD.out.mono ?_; clear HRD; rintro e w1 ⟨v1, rfl, hown1, hb1⟩; obtain ⟨oa, oc, rfl, hs1, hf1, _⟩ := owns_src hown1; have HB1 := Lib.hid hb1; have HS1 := Lib.hid hs1; clear hb1 hs1 hown1)
        | (go_at_call 84; refine (HOP.out _ oa oc HS1.out hf1).mono ?_; clear HOP; rintro e w2 ⟨v2, rfl, hown2, hb2⟩; rw [HIN.out] at hown2; obtain ⟨oa2, oc2, rfl, hs2, hf2, hm2, ho2⟩ := owns_at hown2; have HI2 := Lib.hid (inner_own (w := w) (hb.out.trans (HB1.out.mono hb.out.size)).size hb2 hs2 hf2 hm2 ho2 (hL.out.below HB1.out)); have HB2 := Lib.hid ((hb.out.trans (HB1.out.mono hb.out.size)).trans (hb2.mono (hb.out.trans (HB1.out.mono hb.out.size)).size)); have HL2 := Lib.hid (((hL.out.below HB1.out).below hb2).below ((Below.refl _ _).alloc (Nat.le_refl _) (.cells #[.slice oa2 inner.length oc2] 23))); clear hb2 hs2 hf2 hm2 ho2 hown2)
        | (at_builtin; refine wpl_append_list (o := ⟨some 47, _, _, _, _, _⟩) rfl (.tmp 44) (.tmp 46) rfl HL2.out rfl w2.heap.size rfl _ inner oa2 oc2 (HI2.out.of_block fun k _ hk => ((Below.refl _ w2).alloc (Nat.le_refl _) (.cells #[.slice oa2 inner.length oc2] 23)).block k hk) (Row.new w2 [.slice oa2 inner.length oc2] 23) (by have := HB2.out.size; simp; omega) (by omega) ?_; intro v4 w4 hL4 hg4; have HL4 := Lib.hid hL4; have HB4 := Lib.hid ((HB2.out.alloc HB2.out.size (.cells #[.slice oa2 inner.length oc2] 23)).grown hg4 (by have := HB2.out.size; simp; omega) (fun g hg => HL2.out.block g hg)); clear hL4 hg4))
      go_roundw
      case rel => exact ⟨k + R.many, R.n, f, acc ++ [inner], by omega, by omega, by simp; omega, by go_num, hn64, rfl, HL4, HB4, Lib.hid (by rw [HX2.out]; simp)⟩
      case measure => simp [intOf]; omega
    · have hx2 : x = (acc, k) := by
        have := HXS.out
        rw [if_neg hgood] at this
        simpa using this
      have HX2 := Lib.hid hx2
      clear hx2 HXS HR0
      have HFIN : ∀ (wz : World), Below wr.heap.size wr wz → Hid (RecsPost w x (.returned (.tuple #[u10, .int .i64 (k : Nat)])) wz) := fun wz hz => by
        rw [HX2.out]
        exact Lib.hid ⟨u10, rfl, hL.out.below hz, hb.out.trans (hz.mono hb.out.size)⟩
      have HF := Lib.hid HFIN
      clear HFIN
      obtain ⟨u, hu⟩ : ∃ u, u = (unsealN R.b).isSome := ⟨_, rfl⟩
      by_cases c1 : R.err = 0
      · have c1' : ((R.err : Int) != 0) = false := by simp [c1]
        by_cases c2 : u = true
        · have c3 : R.n ≤ q := by
            rcases Nat.lt_or_ge q R.n with h | h
            · exact absurd ⟨c1, by rw [← hu]; exact c2, h⟩ hgood
            · exact h
          have HU : Hid ((unsealN R.b).isSome = true) := Lib.hid (by rw [← hu]; exact c2)
          clear c2 hu c1 hgood
          go_wp2_with (first
            | (go_at_call 18; refine HRD.out.mono ?_; clear HRD; rintro e w1 ⟨v1, rfl, hown1, hb1⟩; obtain ⟨oa, oc, rfl, hs1, hf1, _⟩ := owns_src hown1; have HB1 := Lib.hid hb1; have HS1 := Lib.hid hs1; clear hb1 hs1 hown1)
            | (go_at_call 84; refine (HOP.out _ oa oc HS1.out hf1).mono ?_; clear HOP; rintro e w2 ⟨v2, rfl, hown2, hb2⟩; rw [HU.out]; have HB2 := Lib.hid (HB1.out.trans (hb2.mono HB1.out.size)); clear hb2 hown2))
          go_ret2
          exact (HF.out _ HB2.out).out
        · have HU : Hid ((unsealN R.b).isSome = false) := Lib.hid (by rw [← hu]; simpa using c2)
          clear c2 hu c1 hgood
          go_wp2_with (first
            | (go_at_call 18; refine HRD.out.mono ?_; clear HRD; rintro e w1 ⟨v1, rfl, hown1, hb1⟩; obtain ⟨oa, oc, rfl, hs1, hf1, _⟩ := owns_src hown1; have HB1 := Lib.hid hb1; have HS1 := Lib.hid hs1; clear hb1 hs1 hown1)
            | (go_at_call 84; refine (HOP.out _ oa oc HS1.out hf1).mono ?_; clear HOP; rintro e w2 ⟨v2, rfl, hown2, hb2⟩; rw [HU.out]; have HB2 := Lib.hid (HB1.out.trans (hb2.mono HB1.out.size)); clear hb2 hown2))
          go_ret2
          exact (HF.out _ HB2.out).out
      · have c1' : ((R.err : Int) != 0) = true := by simp [c1]
        clear hu c1 hgood
        go_wp2_with (first
          | (go_at_call 18; refine HRD.out.mono ?_; clear HRD; rintro e w1 ⟨v1, rfl, hown1, hb1⟩; obtain ⟨oa, oc, rfl, hs1, hf1, _⟩ := owns_src hown1; have HB1 := Lib.hid hb1; have HS1 := Lib.hid hs1; clear hb1 hs1 hown1)
          | (go_at_call 84; refine (HOP.out _ oa oc HS1.out hf1).mono ?_; clear HOP; rintro e w2 ⟨v2, rfl, hown2, hb2⟩; have HB2 := Lib.hid (HB1.out.trans (hb2.mono HB1.out.size)); clear hb2 hown2))
        go_ret2
        exact (HF.out _ HB2.out).out

end Go.Proofs.Ytpddbffamejgeaa
