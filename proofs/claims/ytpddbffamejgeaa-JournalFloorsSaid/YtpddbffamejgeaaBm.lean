/- journal: Format. -/
import Derived.Test.YtpddbffamejgeaaBl
namespace Go.Proofs.Ytpddbffamejgeaa
open Go.RowKit Go.Proofs.YtpddbffamejgeaaW.PrintLast

def FormatPost (p size : Nat) (role : Nat → Option Own) (d : DS) (ready : Bool) (l : LogV) (w : World) (e : Ending) (w' : World) : Prop :=
  ∃ q g role', e = .returned (.tuple #[.pointer (some ⟨q, 0, none⟩), .int .i64 0]) ∧ w.heap.size ≤ q ∧ w.heap.size ≤ g ∧ DiskAt w' p role' d ∧ JAt w' p q g role' size ready l ∧ Moves w role w' role'
theorem topFrom_max (d : DS) : ∀ (n i t : Nat), topFrom d i t n < 18446744073709551616 ∨ 18446744073709551616 ≤ t
  | 0, _, t => by rcases Nat.lt_or_ge t 18446744073709551616 with h | h; exact Or.inl h; exact Or.inr h
  | n + 1, i, t => by
    have := numS_lt (d.get i)
    rcases topFrom_max d n (i + 1) (max t (numS (d.get i))) with h | h
    · exact Or.inl h
    · right; omega

set_option maxRecDepth 100000 in
set_option maxHeartbeats 1600000 in
theorem format_any {w : World} {p size : Nat} {role : Nat → Option Own} {d : DS} (h : DiskAt w p role d) (hs1 : 1 ≤ size) (hs2 : size ≤ 255) (hfit : 2 * size < d.size)
    (b : List UInt8) (ba : Option Addr) (bc : Nat) (hb : BArg w role ba b bc) (hbl : b.length ≤ 800000) (hq : d.queue.length ≤ 700000) (hst0 : (d.logV (2 * size) d.size 0).stamp ≠ 0) {d' : DS} {ready : Bool} {l' : LogV}
    (hok : compactD d size false (d.logV (2 * size) d.size 0) b = (d', ready, l', 0)) :
    Calls Try.prog 52 #[.pointer (some ⟨p, 0, none⟩), .int .i64 size, .slice ba b.length bc] w (FormatPost p size role d' ready l' w) := by
  have hright := jright_yes h size hs1 hs2 hfit
  have hst : (d.logV (2 * size) d.size 0).stamp < 18446744073709551616 := by
    show (max 0 (d.top (2 * size) d.size) + 1) % 18446744073709551616 < _
    exact Nat.mod_lt _ (by omega)
  have hbj : Below w.heap.size w (w.alloc (.cells #[.pointer (some ⟨p, 0, none⟩), .int .i64 (size : Nat), .pointer none, .bool false] 153)) := (Below.refl _ _).alloc (Nat.le_refl _) _
  have hjo := jopen_any (h.below hbj) (jrow_new w p size) h.fresh hs2 (by omega) 0 (by omega)
  have hco : ∀ W q g, DiskAt W p role d → JAt W p q g role size false (d.logV (2 * size) d.size 0) → BArg W role ba b bc → Calls Try.prog 55 #[.pointer (some ⟨q, 0, none⟩), .slice ba b.length bc] W (JCPost p q g size role (d', ready, l', 0) W) := fun W q g h1 h2 h3 => by
    have := compact_any h1 h2 hs1 hs2 hfit hst0 hst b ba bc h3 hbl hq
    rw [hok] at this
    exact this
  have HRT := Lib.hid hright
  have HJO := Lib.hid hjo
  have HCO := Lib.hid hco
  have HD := Lib.hid h
  have HB := Lib.hid hb
  have HBJ := Lib.hid hbj
  clear hright hst hbj hjo hco h hb hst0 hok
  go_enter Try.func52, Try.ntmps52
  go_wp2_with (first
    | (go_at_call 88; refine HRT.out.mono ?_; rintro e w' ⟨rfl, rfl⟩)
    | (go_at_call 89; refine HJO.out.mono ?_; clear HJO; rintro e w2 ⟨g2, v2, rfl, hg2, hd2, hj2, hl2, hm2⟩; have HG2 := Lib.hid hg2; have HD2 := Lib.hid hd2; have HJ2 := Lib.hid hj2; have HB2 := Lib.hid (HBJ.out.trans (only_below hm2 (Nat.le_refl _) HBJ.out.size)); clear hg2 hd2 hj2 hl2 hm2)
    | (go_at_call 55; refine (HCO.out _ _ g2 HD2.out HJ2.out (HB.out.moves (Moves.of_below HB2.out))).mono ?_; clear HCO; rintro e w3 ⟨rfl, r3, g3, hgg, hd3, hj3, hm3⟩; have HGG := Lib.hid hgg; have HD3 := Lib.hid hd3; have HJ3 := Lib.hid hj3; have HM3 := Lib.hid hm3; clear hd3 hj3 hm3 hgg))
  go_ret2
  have hg2 := HG2.out
  simp at hg2
  have hz2 := HB2.out.size
  have hm : Moves w role w3 r3 := by
    have hb2 := HB2.out
    have hm3 := HM3.out
    refine ⟨hm3.os.trans hb2.os, hm3.tape.trans hb2.tape, hm3.output.trans hb2.output, Nat.le_trans hz2 hm3.size, fun k hk hn => ?_, fun k hk hn => ?_⟩
    · rw [hm3.block k (by omega) (jr_of hn (by omega) (by omega))]
      exact hb2.block k hk
    · exact (jr_none (hm3.old k (by omega) (jr_of hn (by omega) (by omega)))).1
  have hge : w.heap.size ≤ g3 := by
    rcases HGG.out with e | e
    · rw [e]; omega
    · omega
  exact ⟨_, g3, r3, rfl, Nat.le_refl _, hge, HD3.out, HJ3.out, hm⟩

end Go.Proofs.Ytpddbffamejgeaa
