/- journalAlive. -/
import Derived.Test.YtpddbffamejgeaaBm
import Derived.Test.YtpddbffamejgeaaBn
namespace Go.Proofs.Ytpddbffamejgeaa
open Go.RowKit Go.Proofs.YtpddbffamejgeaaW.PrintLast

/-- What is opened of a journal. -/
theorem opened_jp {w : World} {p : Nat} {role : Nat → Option Own} {d : DS} {sz S fl g a : Nat} {st : List UInt8} {T : List (List UInt8)} (h : DiskAt w p role d) (hj : JP sz S fl g st d a T) (hfit : 2 * sz < S) (hfl : fl ≤ 1152921504606846976) (hst : st.length ≤ 100000) :
    Calls Try.prog 54 #[.pointer (some ⟨p, 0, none⟩), .int .i64 sz] w fun e w' => ∃ q g ps cs vl cl, e = .returned (.tuple #[.pointer (some ⟨q, 0, none⟩), .slice ps st.length cs, .slice vl T.length cl, .int .i64 0]) ∧ w.heap.size ≤ q ∧ w.heap.size ≤ g ∧ JAt w' p q g role sz false ⟨a, S, fl + 1 + T.length⟩ ∧
      InnerAt w' (fun k => w.heap.size ≤ k ∧ k ≠ q ∧ k ≠ g) (.slice ps st.length cs) st ps cs ∧ ListsAt w' (fun k => w.heap.size ≤ k ∧ k ≠ q ∧ k ≠ g) (.slice vl T.length cl) T ∧ Below w.heap.size w w' := by
  obtain ⟨o1, o2, o3⟩ := hj.open_
  have := opened_any h hj.slot.s1 hj.slot.s2 (by rw [hj.log.size]; exact hfit) o1 hj.g0 hfl hst
  refine this.mono fun e w' ⟨q, g', ps, cs, vl, he, h1, h2, h3, h4, h5, h6⟩ => ?_
  rw [hj.log.size, o3] at h3
  rw [hj.log.size, o2] at h5
  obtain ⟨pv, cv, e2, _, _⟩ := h5.len
  subst e2
  exact ⟨q, g', ps, cs, pv, cv, he, h1, h2, h3, h4, h5, h6⟩
/-- Bytes that were made, handed in. -/
theorem InnerAt.barg {w : World} {F : Nat → Prop} {role : Nat → Option Own} {u : Value} {l : List UInt8} {pa : Option Addr} {c : Nat} (h : InnerAt w F u l pa c) (hr : ∀ k, k < w.heap.size → F k → role k = none) : BArg w role pa l c where
  src := h.src
  off := fun h0 ad e => hr _ (by have := h.src; subst e; exact this.lt (by simpa using h0)) (h.inF h0 ad e)
  fits := h.fits
  small := by have := h.small; unfold maxLen at this; omega
theorem Mid.journaled {w W W' : World} {p q g g' : Nat} {role role' : Nat → Option Own} {d d' : DS} (h : Mid w p role d W) (hq : w.heap.size ≤ q) (hg : w.heap.size ≤ g) (hd : DiskAt W' p role' d') (hm : Moves W (jr role q g) W' (jr role' q g')) : Mid w p role' d' W' where
  at_ := hd
  below := h.below.trans (hm.below fun k hk => ⟨Nat.lt_of_lt_of_le hk h.below.size, jr_of (h.old k hk) (by omega) (by omega)⟩)
  old := fun k hk => (jr_none (hm.old k (Nat.lt_of_lt_of_le hk h.below.size) (jr_of (h.old k hk) (by omega) (by omega)))).1
theorem numN0 : numN 0 = [0] := by rw [numN_small (by omega)]; rfl
theorem alive_jp : ∃ d1 d2, (DS.blank 8).logV 4 8 0 = ⟨4, 8, 1⟩ ∧ compactD (DS.blank 8) 2 false ⟨4, 8, 1⟩ [97, 98] = (d1, true, ⟨4, 8, 1⟩, 0) ∧ jappendD d1 true ⟨4, 8, 1⟩ [99] = (d2, true, ⟨5, 8, 2⟩, 0) ∧ JP 2 8 0 1 [97, 98] d2 5 [[99]] ∧ d1.size = 8 ∧ d1.queue = [] := by
  obtain ⟨e1, d1, e2, f1, j1⟩ := jp_format 2 8 (by omega) (by omega) (by omega) [97, 98] (by decide) (by rw [numN0]; decide)
  have hn : needN ([99] : List UInt8).length = 1 := by decide
  rcases j1.append f1 [99] (by decide) (by decide) with ⟨h, _⟩ | ⟨d2, e3, f2, j2⟩
  · rw [hn] at h; omega
  · rw [hn] at e3 j2
    refine ⟨d1, d2, e1, e2, ?_, j2, j1.log.size, j1.log.queue⟩
    unfold jappendD
    have e3' : appendD d1 ⟨4, 8, 1⟩ [99] = (d2, ⟨5, 8, 2⟩, 0) := e3
    rw [if_pos rfl, e3']
    rfl

set_option maxRecDepth 100000 in
set_option maxHeartbeats 3200000 in
theorem journalalive_any (w : World) : Calls Try.prog 51 #[] w (BoolPost w true) := by
  obtain ⟨d1, d2, e1, e2, e3, j2, s1, q1⟩ := alive_jp
  have hF : ∀ W p role ba, DiskAt W p role (DS.blank 8) → BArg W role ba [97, 98] 2 → Calls Try.prog 52 #[.pointer (some ⟨p, 0, none⟩), .int .i64 2, .slice ba 2 2] W (FormatPost p 2 role d1 true ⟨4, 8, 1⟩ W) := fun W p role ba h1 h2 => by
    have := format_any h1 (size := 2) (by omega) (by omega) (by decide) [97, 98] ba 2 h2 (by decide) (by simp [DS.blank]) (by show ((DS.blank 8).logV 4 8 0).stamp ≠ 0; rw [e1]; decide) (d' := d1) (ready := true) (l' := ⟨4, 8, 1⟩) (by show compactD (DS.blank 8) 2 false ((DS.blank 8).logV 4 8 0) [97, 98] = _; rw [e1]; exact e2)
    exact this
  have hA : ∀ W p q g role ba, DiskAt W p role d1 → JAt W p q g role 2 true ⟨4, 8, 1⟩ → BArg W role ba [99] 1 → Calls Try.prog 53 #[.pointer (some ⟨q, 0, none⟩), .slice ba 1 1] W (JPost p q g 2 role (d2, true, ⟨5, 8, 2⟩, 0) W) := fun W p q g role ba h1 h2 h3 => by
    have := jappend_any h1 h2 (by decide) (by rw [s1]; decide) (by decide) [99] ba 1 h3 (by decide) (by rw [q1]; simp)
    rw [e3] at this
    exact this
  have hO : ∀ W p role, DiskAt W p role d2 → Calls Try.prog 54 #[.pointer (some ⟨p, 0, none⟩), .int .i64 2] W fun e w' => ∃ q g ps cs vl cl, e = .returned (.tuple #[.pointer (some ⟨q, 0, none⟩), .slice ps 2 cs, .slice vl 1 cl, .int .i64 0]) ∧ W.heap.size ≤ q ∧ W.heap.size ≤ g ∧ JAt w' p q g role 2 false ⟨5, 8, 2⟩ ∧
      InnerAt w' (fun k => W.heap.size ≤ k ∧ k ≠ q ∧ k ≠ g) (.slice ps 2 cs) [97, 98] ps cs ∧ ListsAt w' (fun k => W.heap.size ≤ k ∧ k ≠ q ∧ k ≠ g) (.slice vl 1 cl) [[99]] ∧ Below W.heap.size W w' := fun W p role h1 => opened_jp h1 j2 (by omega) (by omega) (by decide)
  have kc := fun (w : World) (C : Array Value) (n c : Nat) => Lib.run_convert_bytes_const (P := Try.prog) w 23 5 C n c Try.underlying23 Try.underlying5
  have HF := Lib.hid hF
  have HA := Lib.hid hA
  have HO := Lib.hid hO
  clear hF hA hO e1 e2 e3 j2 s1 q1
  go_enter Try.func51, Try.ntmps51
  go_upto_region 5 with (first
    | (go_at_call 16; refine (disk_blank _ 8 8 (by omega)).mono ?_; rintro e wA ⟨p, role, rfl, hdA, hbA, hrA⟩; have hmid : Mid w p role (DS.blank 8) wA := ⟨hdA, hbA, hrA⟩; have HM := Lib.hid hmid; clear hdA hbA hrA hmid)
    | (go_at_call 52; refine (HF.out _ p role _ (HM.out.at_.below ((Below.refl _ _).alloc (Nat.le_refl _) _)) (barg_lit HM.out.at_ [97, 98] (by decide) (t := 5))).mono ?_; clear HF; rintro e wB ⟨q, g, r2, rfl, hq, hg, hdB, hjB, hmB⟩; have HMB := Lib.hid ((HM.out.grow ((Below.refl _ _).alloc (Nat.le_refl _) _)).moves hdB hmB); have HJB := Lib.hid hjB; have HQ := Lib.hid (Nat.le_trans HM.out.below.size (Nat.le_trans (by simp) hq)); have HG := Lib.hid (Nat.le_trans HM.out.below.size (Nat.le_trans (by simp) hg)); clear hq hg hdB hjB hmB)
    | (go_at_call 64; refine (ready_any _ p q 2 (ptr g) true HJB.out.row).mono ?_; rintro e w' ⟨rfl, rfl⟩)
    | (go_at_call 53; refine (HA.out _ p q g r2 _ (HMB.out.at_.below ((Below.refl _ _).alloc (Nat.le_refl _) _)) (HJB.out.below ((Below.refl _ _).alloc (Nat.le_refl _) _)) (barg_lit HMB.out.at_ [99] (by decide) (t := 5))).mono ?_; clear HA; rintro e wC ⟨rfl, r3, hdC, hjC, hmC⟩; have HMC := Lib.hid ((HMB.out.grow ((Below.refl _ _).alloc (Nat.le_refl _) _)).journaled HQ.out HG.out hdC hmC); clear hdC hjC hmC))
  clear HJB HMB HM
  go_wp2_with (first
    | (go_at_call 54; refine (HO.out _ p r3 HMC.out.at_).mono ?_; clear HO; rintro e wD ⟨q2, g3, ps, cs, vl, cl, rfl, hq2, hg3, hjD, hiD, hlD, hbD⟩; have HMD := Lib.hid (HMC.out.grow hbD); have HJD := Lib.hid hjD; have HLD := Lib.hid hlD.reads; have hcv : (convert 23 9 (.slice ps 2 cs)).run Try.prog wD = .ok (.string (strL [97, 98])) wD := run_toString hiD.src; clear hq2 hg3 hjD hiD hlD hbD)
    | (go_at_call 64; refine (ready_any _ p q2 2 (ptr g3) false HJD.out.row).mono ?_; rintro e w' ⟨rfl, rfl⟩)
    | (go_at_call 40; refine (same_any _ vl (some ⟨wD.heap.size, 0, none⟩) [[99]] [[99]] cl 1 (HLD.out.below ((Below.refl _ _).alloc (Nat.le_refl _) _)) (src_alloc wD [Sv [99]] 9 (0, 0)) (by decide)).mono ?_; rintro e wF ⟨rfl, hbF⟩; have HMF := Lib.hid ((HMD.out.grow ((Below.refl _ _).alloc (Nat.le_refl _) _)).grow hbF); clear hbF))
  all_goals first
    | (exact absurd (strL_toList _) (by assumption))
    | (go_ret; exact ⟨rfl, HMF.out.below⟩)

end Go.Proofs.Ytpddbffamejgeaa
