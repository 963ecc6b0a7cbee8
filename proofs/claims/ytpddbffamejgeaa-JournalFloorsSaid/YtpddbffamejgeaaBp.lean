/- JournalFloors' walk. -/
import Derived.Test.YtpddbffamejgeaaBo
import Derived.Test.YtpddbffamejgeaaAv
namespace Go.Proofs.Ytpddbffamejgeaa
open Go.RowKit Go.Proofs.YtpddbffamejgeaaW.PrintLast

/-- A law's own disk and journal. -/
structure JSt (w W : World) (p q g : Nat) (role : Nat → Option Own) (sz S fl gen : Nat) (st : List UInt8) (d : DS) (a : Nat) (T : List (List UInt8)) : Prop where
  mid : Mid w p role d W
  j : JAt W p q g role sz true ⟨a, S, fl + 1 + T.length⟩
  oq : w.heap.size ≤ q
  og : w.heap.size ≤ g
  jp : JP sz S fl gen st d a T
  fuse : d.fuse = none
theorem JSt.grow {w W W' : World} {p q g : Nat} {role : Nat → Option Own} {sz S fl gen : Nat} {st : List UInt8} {d : DS} {a : Nat} {T : List (List UInt8)} (h : JSt w W p q g role sz S fl gen st d a T) (hb : Below W.heap.size W W') : JSt w W' p q g role sz S fl gen st d a T :=
  ⟨h.mid.grow hb, h.j.below hb, h.oq, h.og, h.jp, h.fuse⟩
theorem JSt.moved {w W W' : World} {p q g g' : Nat} {role role' : Nat → Option Own} {sz S fl gen fl' gen' : Nat} {st st' : List UInt8} {d d' : DS} {a a' : Nat} {T T' : List (List UInt8)} (h : JSt w W p q g role sz S fl gen st d a T) (hd : DiskAt W' p role' d') (hj : JAt W' p q g' role' sz true ⟨a', S, fl' + 1 + T'.length⟩)
    (hg : g' = g ∨ W.heap.size ≤ g') (hm : Moves W (jr role q g) W' (jr role' q g')) (hjp : JP sz S fl' gen' st' d' a' T') (hf : d'.fuse = none) : JSt w W' p q g' role' sz S fl' gen' st' d' a' T' :=
  ⟨h.mid.journaled h.oq h.og hd hm, hj, h.oq, by
    rcases hg with e | e
    · rw [e]; exact h.og
    · exact Nat.le_trans h.mid.below.size e, hjp, hf⟩
/-- A string more, beside a journal. -/
theorem JSt.said {w W W' : World} {p q g : Nat} {role : Nat → Option Own} {sz S fl gen : Nat} {st : List UInt8} {d : DS} {a : Nat} {T : List (List UInt8)} {v : Value} {T0 : List (List UInt8)} (h : JSt w W p q g role sz S fl gen st d a T) (hs : StrsAt w W (jr role q g) v T0) (hg : W.grownBy W' v.ownBlock) : JSt w W' p q g role sz S fl gen st d a T := by
  have hv : ∀ k, v.ownBlock = some k → role k = none ∧ k ≠ q ∧ k ≠ g ∧ w.heap.size ≤ k := fun k hk => by
    obtain ⟨h1, h2, h3⟩ := jr_none (hs.off k hk)
    exact ⟨h1, h2, h3, (hs.own.lt k hk).1⟩
  refine ⟨h.mid.grown hg fun k hk => ⟨(hv k hk).1, (hv k hk).2.2.2⟩, ⟨h.j.row.of_block (hg.block q h.j.row.lt fun e => (hv q e.symm).2.1 rfl), h.j.log.of_block (hg.block g h.j.log.lt fun e => (hv g e.symm).2.2.1 rfl), h.j.rq, h.j.rg, h.j.ne⟩, h.oq, h.og, h.jp, h.fuse⟩
theorem JSt.fresh {w W : World} {p q g : Nat} {role : Nat → Option Own} {sz S fl gen : Nat} {st : List UInt8} {d : DS} {a : Nat} {T : List (List UInt8)} (h : JSt w W p q g role sz S fl gen st d a T) {k : Nat} (hk : W.heap.size ≤ k) : jr role q g k = none :=
  jr_of (h.mid.at_.off hk) (by have := h.j.row.lt; omega) (by have := h.j.log.lt; omega)
theorem span_small {n sz : Nat} (h : n ≤ 53 * sz) (h1 : 1 ≤ sz) (h2 : sz ≤ 255) : spanN n ≠ 0 ∧ spanN n ≤ sz := by
  unfold spanN
  rw [if_neg (by omega)]
  omega

set_option maxRecDepth 100000 in
set_option maxHeartbeats 6400000 in
theorem floors_any (w : World) (pa : Option Addr) (L : List (List UInt8)) (ca : Nat) (hL : ListsIn w pa L) (pr : Option Addr) (R : List (List UInt8)) (cr : Nat) (hR : ListsIn w pr R) :
    Calls Try.prog 11 #[.slice pa L.length ca, .slice pr R.length cr] w (BoolPost w true) := by
  have HAL := Lib.hid (journalalive_any w)
  have HL := Lib.hid hL
  have HR := Lib.hid hR
  clear hL hR
  by_cases c1 : (10 : Int) < L.length
  · go_enter Try.func11, Try.ntmps11
    go_wp2_with (go_at_call 51; refine HAL.out.mono ?_; rintro e w1 ⟨rfl, hb1⟩; have HB1 := Lib.hid hb1; clear hb1)
    go_ret
    exact ⟨rfl, HB1.out⟩
  by_cases c2 : (10 : Int) < R.length
  · go_enter Try.func11, Try.ntmps11
    go_wp2_with (go_at_call 51; refine HAL.out.mono ?_; rintro e w1 ⟨rfl, hb1⟩; have HB1 := Lib.hid hb1; clear hb1)
    go_ret
    exact ⟨rfl, HB1.out⟩
  obtain ⟨e1, d1, e2, f1, j1⟩ := jp_format 6 60 (by omega) (by omega) (by omega) [] (by decide) (by rw [numN0]; decide)
  have hF : ∀ W p role, DiskAt W p role (DS.blank 60) → Calls Try.prog 52 #[.pointer (some ⟨p, 0, none⟩), .int .i64 6, .slice none 0 0] W (FormatPost p 6 role d1 true ⟨12, 60, 1⟩ W) := fun W p role h1 => by
    have := format_any h1 (size := 6) (by omega) (by omega) (by decide) [] none 0 ⟨Src.nil _ _, fun h => by simp at h, by simp, by omega⟩ (by decide) (by simp [DS.blank]) (by show ((DS.blank 60).logV 12 60 0).stamp ≠ 0; rw [e1]; decide) (d' := d1) (ready := true) (l' := ⟨12, 60, 1⟩) (by show compactD (DS.blank 60) 6 false ((DS.blank 60).logV 12 60 0) [] = _; rw [e1]; exact e2)
    exact this
  have HF := Lib.hid hF
  have HJ1 := Lib.hid j1
  have HF1 := Lib.hid f1
  clear hF e1 e2 j1 f1
  go_enter Try.func11, Try.ntmps11
  go_wp2_with (first
    | (go_at_call 51; refine HAL.out.mono ?_; clear HAL; rintro e w1 ⟨rfl, hb1⟩; have HB1 := Lib.hid hb1; clear hb1)
    | (go_at_call 16; refine (disk_blank _ 60 60 (by omega)).mono ?_; rintro e wA ⟨p, role, rfl, hdA, hbA, hrA⟩; have hmid : Mid w p role (DS.blank 60) wA := ⟨hdA, HB1.out.trans (hbA.mono HB1.out.size), fun k hk => hrA k (Nat.lt_of_lt_of_le hk HB1.out.size)⟩; have HM := Lib.hid hmid; clear hdA hbA hrA hmid)
    | (go_at_call 52; refine (HF.out _ p role HM.out.at_).mono ?_; clear HF; rintro e wB ⟨q, g, r2, rfl, hq, hg, hdB, hjB, hmB⟩; have hst : JSt w wB p q g r2 6 60 0 1 [] d1 12 [] := ⟨HM.out.moves hdB hmB, hjB, Nat.le_trans HM.out.below.size hq, Nat.le_trans HM.out.below.size hg, HJ1.out, HF1.out⟩; have HST := Lib.hid hst; clear hq hg hdB hjB hmB hst))
  go_loopw [45] (fun k wr => ∃ (i : Nat) (r : Nat → Option Own) (g fl : Nat) (st : List UInt8) (d : DS), i ≤ L.length ∧ fl ≤ 10 * i ∧ k = .int .i64 i ∧ Hid (JSt w wr p q g r 6 60 fl (i + 1) st d 12 []))
    (fun k _ => L.length - (intOf k).toNat)
  case atStart => exact ⟨0, r2, g, 0, [], d1, by omega, by omega, rfl, HST⟩
  case round =>
    obtain ⟨i, r, g, fl, st, d, hi, hfl, rfl, hst⟩ := hrel
    clear HST HB1 HM HJ1 HF1
    by_cases hlt : i < L.length
    · obtain ⟨s, hs⟩ : ∃ s, L[i]? = some s := ⟨L[i], List.getElem?_eq_getElem hlt⟩
      obtain ⟨ad, sa, sc, rfl, hc0, hss, hsf, hsm⟩ := HL.out i s hs
      have hc : wr.cell? (ad.add i) = some (.slice sa s.length sc) := by
        have := hst.out.mid.below.cell (block_lt_of_cell hc0)
        rw [this]; exact hc0
      have HSS := Lib.hid hss
      clear hss hc0 hs
      by_cases c4 : (200 : Int) < s.length
      · go_wp2
        go_ret
        exact ⟨rfl, hst.out.mid.below⟩
      go_wp2_with fail
      have hstr0 := StrsAt.empty w wr (jr r q g) hst.out.mid.below.size (hst.out.fresh (Nat.le_refl _))
      have hst0 := hst.out.grow ((Below.refl _ _).alloc (Nat.le_refl _) (.cells #[] 9))
      have HSTR0 := Lib.hid hstr0
      have HST0 := Lib.hid hst0
      clear hstr0 hst0 hc
      go_loopw [10, 55] (fun v k wi => ∃ (j : Nat) (r3 : Nat → Option Own) (d3 : DS) (a3 : Nat) (T : List (List UInt8)), j ≤ R.length ∧ T.length ≤ j ∧ k = .int .i64 j ∧ Hid (JSt w wi p q g r3 6 60 fl (i + 1) st d3 a3 T) ∧ Hid (StrsAt w wi (jr r3 q g) v T))
        (fun _ k _ => R.length - (intOf k).toNat)
      case atStart => exact ⟨0, r, d, 12, [], by omega, by simp, rfl, HST0, HSTR0⟩
      case round =>
        obtain ⟨j, r3, d3, a3, T, hj, hTj, rfl, hst3, hstr⟩ := hrel
        clear HST0 HSTR0 hst
        obtain ⟨pv, cv, rfl, _, _⟩ := hstr.out.val
        by_cases hltj : j < R.length
        · obtain ⟨x, hx⟩ : ∃ x, R[j]? = some x := ⟨R[j], List.getElem?_eq_getElem hltj⟩
          obtain ⟨bd, xa, xc, rfl, hx0, hxs, hxf, hxm⟩ := HR.out j x hx
          have hxc : wr.cell? (bd.add j) = some (.slice xa x.length xc) := by
            have := hst3.out.mid.below.cell (block_lt_of_cell hx0)
            rw [this]; exact hx0
          have HXS := Lib.hid hxs
          clear hxs hx0 hx
          by_cases c5 : (300 : Int) < x.length
          · go_wp2
            go_ret
            exact ⟨rfl, hst3.out.mid.below⟩
          obtain ⟨X, hX⟩ : ∃ X, X = jappendD d3 true ⟨a3, 60, fl + 1 + T.length⟩ x := ⟨_, rfl⟩
          have hap : Calls Try.prog 53 #[.pointer (some ⟨q, 0, none⟩), .slice xa x.length xc] wr (JPost p q g 6 r3 X wr) := by
            rw [hX]
            exact jappend_any hst3.out.mid.at_ hst3.out.j hst3.out.jp.log.fits (by rw [hst3.out.jp.log.size]; exact Nat.le_refl _) (by show fl + 1 + T.length < _; omega) x xa xc (hst3.out.mid.barg HXS.out hxf (by unfold maxLen at hxm; omega)) (by omega) (by rw [hst3.out.jp.log.queue]; simp)
          have HAP := Lib.hid hap
          rcases hst3.out.jp.append hst3.out.fuse x (by omega) (by omega) with ⟨_, ha⟩ | ⟨d4, ha, hf4, hj4⟩
          · have hX2 : X = (d3, true, ⟨a3, 60, fl + 1 + T.length⟩, 102) := by rw [hX]; unfold jappendD; rw [if_pos rfl, ha]; rfl
            have HX := Lib.hid hX2
            clear hap hX hX2 ha
            go_wp2_with (go_at_call 53; refine HAP.out.mono ?_; clear HAP; rintro e w4 ⟨rfl, r4, hd4, hjj4, hm4⟩; rw [HX.out] at hd4 hjj4 ⊢; have HST4 := Lib.hid (hst3.out.moved hd4 hjj4 (Or.inl rfl) hm4 hst3.out.jp hst3.out.fuse); have HSTR4 := Lib.hid (hstr.out.moves hm4); clear hd4 hjj4 hm4)
            go_roundw
            case rel => exact ⟨j + 1, r4, d3, a3, T, by omega, by omega, by go_num, HST4, HSTR4⟩
            case measure => simp [intOf]; omega
          · obtain ⟨T4, hT4⟩ : ∃ T4, T4 = T ++ [x] := ⟨_, rfl⟩
            have hT4l : T4.length = T.length + 1 := by rw [hT4]; simp
            rw [← hT4] at hj4
            rw [← hT4l] at ha
            have hX2 : X = (d4, true, ⟨a3 + needN x.length, 60, fl + 1 + T4.length⟩, 0) := by rw [hX]; unfold jappendD; rw [if_pos rfl, ha]; rfl
            have HX := Lib.hid hX2
            have HJ4 := Lib.hid hj4
            have HF4 := Lib.hid hf4
            have HT4 := Lib.hid hT4
            have HT4L := Lib.hid hT4l
            clear hap hX hX2 ha hj4 hf4 hT4 hT4l
            go_wp2_with (first
              | (go_at_call 53; refine HAP.out.mono ?_; clear HAP; rintro e w4 ⟨rfl, r4, hd4, hjj4, hm4⟩; rw [HX.out] at hd4 hjj4 ⊢; have HST4 := Lib.hid (hst3.out.moved hd4 hjj4 (Or.inl rfl) hm4 HJ4.out HF4.out); have HSTR4 := Lib.hid (hstr.out.moves hm4); clear hd4 hjj4 hm4; have hcv : (convert 23 9 (.slice xa x.length xc)).run Try.prog w4 = .ok (.string (strL x)) w4 := run_toString (HXS.out.below HST4.out.mid.below))
              | (at_builtin; refine wpl_append_str (o := ⟨some 70, _, _, _, _, _⟩) rfl (.tmp 66) (.tmp 69) rfl (HSTR4.out.below ((Below.refl _ _).alloc (Nat.le_refl _) (.cells #[Sv x] 9))) rfl w4.heap.size rfl x (Row.new w4 [Sv x] 9) (HST4.out.fresh (by simp)) (by have := HST4.out.mid.below.size; simp; omega) (by omega) ?_; intro v5 w5 hs5 hg5; rw [← HT4.out] at hs5; obtain ⟨p5, c5', rfl, _, _⟩ := hs5.val; have HST5 := Lib.hid ((HST4.out.grow ((Below.refl _ _).alloc (Nat.le_refl _) (.cells #[Sv x] 9))).said (HSTR4.out.below ((Below.refl _ _).alloc (Nat.le_refl _) (.cells #[Sv x] 9))) hg5); have HSTR5 := Lib.hid hs5; clear hs5 hg5 hcv))
            go_roundw
            case rel => exact ⟨j + 1, r4, d4, a3 + needN x.length, T4, by omega, by rw [HT4L.out]; omega, by go_num, HST5, HSTR5⟩
            case measure => simp [intOf]; omega
        · obtain rfl : j = R.length := by omega
          have hnl := numN_le10 (n := fl + T.length) (by omega)
          obtain ⟨d5, hc5, hf5, hj5⟩ := hst3.out.jp.compact hst3.out.fuse true s (by omega) (span_small (by rw [length_sealedN, List.length_append]; omega) (by omega) (by omega)) (by omega) (by omega)
          have hO1 : ∀ W, JSt w W p q g r3 6 60 fl (i + 1) st d3 a3 T → Calls Try.prog 54 #[.pointer (some ⟨p, 0, none⟩), .int .i64 6] W fun e w' => ∃ q2 g2 ps cs vl cl, e = .returned (.tuple #[.pointer (some ⟨q2, 0, none⟩), .slice ps st.length cs, .slice vl T.length cl, .int .i64 0]) ∧ ListsIn w' vl T ∧ Below W.heap.size W w' := fun W h => by
            have hstl : st.length ≤ 100000 := by
              have h1 := (h.jp.slot.stands h.jp.g0).2
              have h2 := spanN_hi h1.2
              rw [length_sealedN, List.length_append] at h2
              have h3 := h1.1
              rw [length_sealedN, List.length_append] at h3
              omega
            exact (opened_jp h.mid.at_ h.jp (by omega) (by omega) hstl).mono fun e w' ⟨q2, g2, ps, cs, vl, cl, h1, _, _, _, _, h2, h3⟩ => ⟨q2, g2, ps, cs, vl, cl, h1, h2.reads, h3⟩
          have hC : ∀ W, JSt w W p q g r3 6 60 fl (i + 1) st d3 a3 T → Calls Try.prog 55 #[.pointer (some ⟨q, 0, none⟩), .slice sa s.length sc] W (JCPost p q g 6 r3 (d5, true, ⟨12, 60, fl + T.length + 1⟩, 0) W) := fun W h => by
            have := compact_any h.mid.at_ h.j (by omega) (by omega) (by rw [h.jp.log.size]; omega) (by show fl + 1 + T.length ≠ 0; omega) (by show fl + 1 + T.length < _; omega) s sa sc (h.mid.barg HSS.out hsf (by unfold maxLen at hsm; omega)) (by omega) (by rw [h.jp.log.queue]; simp)
            rw [hc5] at this
            exact this
          have hO2 : ∀ W r, DiskAt W p r d5 → Calls Try.prog 54 #[.pointer (some ⟨p, 0, none⟩), .int .i64 6] W fun e w' => ∃ q2 g2 ps cs vl cl, e = .returned (.tuple #[.pointer (some ⟨q2, 0, none⟩), .slice ps s.length cs, .slice vl 0 cl, .int .i64 0]) ∧ Src w' ps (s.map Bv) ∧ Below W.heap.size W w' := fun W r h => by
            exact (opened_jp h hj5 (by omega) (by omega) (by omega)).mono fun e w' ⟨q2, g2, ps, cs, vl, cl, h1, _, _, _, h4, h2, h3⟩ => ⟨q2, g2, ps, cs, vl, cl, h1, h4.src, h3⟩
          have hRM : ∀ W r g2, JAt W p q g2 r 6 true ⟨12, 60, fl + T.length + 1⟩ → Calls Try.prog 56 #[.pointer (some ⟨q, 0, none⟩)] W fun e w' => e = .returned (.int .i64 48) ∧ Below W.heap.size W w' := fun W r g2 h => jroom_any h (by show (12 : Nat) ≤ 60; omega) (by show (60 : Nat) ≤ 2048; omega)
          have HO1 := Lib.hid hO1
          have HC := Lib.hid hC
          have HO2 := Lib.hid hO2
          have HRM := Lib.hid hRM
          have HJ5 := Lib.hid hj5
          have HF5 := Lib.hid hf5
          have HT10 : Hid (T.length ≤ 10) := Lib.hid (by omega)
          have hz := hst3.out.mid.below.size
          clear hO1 hC hO2 hRM hj5 hf5 hc5 hnl
          go_upto_region 26 with (first
            | (go_at_call 54; refine (HO1.out _ hst3.out).mono ?_; clear HO1; rintro e w6 ⟨q2, g2, ps, cs, vl, cl, rfl, hl6, hb6⟩; have HST6 := Lib.hid (hst3.out.grow hb6); have HSTR6 := Lib.hid (hstr.out.below hb6); have HL6 := Lib.hid hl6; clear hl6 hb6)
            | (go_at_call 40; refine (same_any _ vl pv T T cl cv HL6.out HSTR6.out.src (by have := HT10.out; omega)).mono ?_; rintro e w7 ⟨rfl, hb7⟩; have HST7 := Lib.hid (HST6.out.grow hb7); clear hb7)
            | (go_at_call 55; refine (HC.out _ HST7.out).mono ?_; clear HC; rintro e w8 ⟨rfl, r8, g8, hgg, hd8, hj8, hm8⟩; have HST8 := Lib.hid (show JSt w w8 p q g8 r8 6 60 (fl + T.length) (i + 1 + 1) s d5 12 [] from HST7.out.moved hd8 (by show JAt w8 p q g8 r8 6 true ⟨12, 60, fl + T.length + 1 + 0⟩; exact hj8) hgg hm8 HJ5.out HF5.out); have HJ8 := Lib.hid hj8; clear hgg hd8 hj8 hm8))
          clear HST7 HST6 HSTR6 HL6
          go_wp2_with (first
            | (go_at_call 54; refine (HO2.out _ r8 HST8.out.mid.at_).mono ?_; clear HO2; rintro e w9 ⟨q9, g9, ps9, cs9, vl9, cl9, rfl, hs9, hb9⟩; have HST9 := Lib.hid (HST8.out.grow hb9); have HJ9 := Lib.hid (HJ8.out.below hb9); have hcv1 : (convert 23 9 (.slice ps9 s.length cs9)).run Try.prog w9 = .ok (.string (strL s)) w9 := run_toString hs9; have hcv2 : (convert 23 9 (.slice sa s.length sc)).run Try.prog w9 = .ok (.string (strL s)) w9 := run_toString (HSS.out.below HST9.out.mid.below); clear hs9 hb9)
            | (go_at_call 56; refine (HRM.out _ r8 g8 HJ9.out).mono ?_; clear HRM; rintro e w10 ⟨rfl, hb10⟩; have HST10 := Lib.hid (HST9.out.grow hb10); clear hb10))
          exact ⟨⟨i + 1, r8, g8, fl + T.length, s, d5, by omega, by have := HT10.out; omega, by go_num, HST10⟩, by simp [intOf]; omega⟩
    · obtain rfl : i = L.length := by omega
      go_wp2
      go_ret
      exact ⟨rfl, hst.out.mid.below⟩

end Go.Proofs.Ytpddbffamejgeaa
