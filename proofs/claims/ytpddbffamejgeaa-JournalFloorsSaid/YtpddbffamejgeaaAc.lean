/- StampBack's walk. -/
import Derived.Test.YtpddbffamejgeaaAa
import Derived.Test.YtpddbffamejgeaaAb
namespace Go.Proofs.Ytpddbffamejgeaa
open Go.RowKit Go.Proofs.YtpddbffamejgeaaW.PrintLast

theorem nat_big {n : Nat} (h : n ≠ 0) : ((n : Int) == 0) = false := by simp; omega
/-- An operation that is asked for, whatever its guard. -/
theorem wpl_of_run_g {P : Program} {ops : Array Oper} {rest : List Oper} {o : Oper} {a : Act} {w w' : World} {Q : Exit → Act → World → Prop} {v : Value} (hgd : Region.wanted o (yielded ops a.tmps) = true) (hr : (execOp a.eval o).run P w = .ok (.value v) w')
    (h : wpList P ops Q rest (a.put o.dst v) w') : wpList P ops Q (o :: rest) a w := by
  refine wpList_step fun K hK => ?_
  rw [if_pos hgd]
  unfold Oper.wp
  rw [hr]
  exact hK _ _ h
/-- A slice that was there before a disk was made. -/
theorem barg_old {w W : World} {role : Nat → Option Own} {ba : Option Addr} {b : List UInt8} {bc : Nat} (hsrc : Src w ba (b.map Bv)) (hf : b.length ≤ bc) (hs : bc ≤ 9223372036854775807) (hbe : Below w.heap.size w W) (hr : ∀ k, k < w.heap.size → role k = none) : BArg W role ba b bc where
  src := hsrc.below hbe
  off := fun hl ad e => by
    obtain ⟨ad', e', hc⟩ := hsrc (by simpa using hl)
    rw [e] at e'; cases e'
    have h0 := hc 0 _ (by simp [hl]; rfl)
    have hb := block_lt_of_cell h0
    rw [Addr.add_block] at hb
    exact hr _ hb
  fits := hf
  small := hs
/-- The answer of the law. -/
def BackPost (w : World) (e : Ending) (w' : World) : Prop := e = .returned (.bool true) ∧ Below w.heap.size w w'

set_option maxRecDepth 100000 in
set_option maxHeartbeats 1600000 in
theorem back_any (w : World) (n : Nat) (hn : n < 18446744073709551616) (b : List UInt8) (ba : Option Addr) (bc : Nat) (hsrc : Src w ba (b.map Bv)) (hfits : b.length ≤ bc) (hsmall : bc ≤ 9223372036854775807) (t0 t1 : Int) :
    Calls Try.prog 3 #[.int .u64 n, .slice ba b.length bc, .agg #[.int .i64 t0, .int .i64 t1]] w (BackPost w) := by
  have hal := (alive_any (w.alloc (.cells #[.int .i64 t0, .int .i64 t1] 24)))
  have HAL := Lib.hid hal
  have hrow := Row.new w [.int .i64 t0, .int .i64 t1] 24
  have HROW := Lib.hid hrow
  have hbe : Below w.heap.size w (w.alloc (.cells #[.int .i64 t0, .int .i64 t1] 24)) := (Below.refl _ _).alloc (Nat.le_refl _) _
  have HBE := Lib.hid hbe
  clear hal hrow hbe
  by_cases hl : (b.length : Int) > 2000
  · go_enter Try.func3, Try.ntmps3
    go_wp2_with (go_at_call 14; refine HAL.out.mono ?_; rintro e w1 ⟨rfl, hb1⟩; have HB1 := Lib.hid hb1; clear hb1)
    go_ret
    exact ⟨rfl, HBE.out.trans (HB1.out.mono HBE.out.size)⟩
  · by_cases hz : n = 0
    · subst hz
      go_enter Try.func3, Try.ntmps3
      go_wp2_with (go_at_call 14; refine HAL.out.mono ?_; rintro e w1 ⟨rfl, hb1⟩; have HB1 := Lib.hid hb1; clear hb1)
      go_ret
      exact ⟨rfl, HBE.out.trans (HB1.out.mono HBE.out.size)⟩
    · obtain ⟨m, hm⟩ : ∃ m, m = spanN b.length := ⟨_, rfl⟩
      have hm0 : 1 ≤ m := by rw [hm]; exact spanN_pos (by omega)
      have hmlo := @spanN_lo b.length
      have hmhi := spanN_hi (n := b.length) (by omega)
      rw [← hm] at hmlo hmhi
      have hm38 : m ≤ 38 := by omega
      have hspan : ∀ W, Calls Try.prog 15 #[.int .i64 (b.length : Nat)] W fun e w' => e = .returned (.int .i64 m) ∧ W = w' := fun W => by rw [hm]; exact span_any b.length W (by omega)
      obtain ⟨d1, hw1, hf1, hd1, hs1, hb1, hq1, hst1, hrest1⟩ := write_live (DS.blank (m + 2)) 1 n b rfl rfl hz (by omega) (by rw [← hm]; show 1 + m ≤ m + 2; omega)
      rw [← hm] at hq1 hrest1
      have hs1' : d1.size = m + 2 := hs1
      have hr1 := read_stands hst1 (by omega) hz hn (e := (m : Int) + 1) (by omega) (by omega)
      have hr2 := read_short hst1 (by omega) (by omega)
      have hr3 := read_shifted hst1 (by omega) (by omega) (by rw [hrest1 _ (by omega)]; rfl)
      rw [← hm] at hr1 hr2 hr3
      have hW : ∀ W p role, DiskAt W p role (DS.blank (m + 2)) → BArg W role ba b bc → Calls Try.prog 17 #[.pointer (some ⟨p, 0, none⟩), .int .i64 1, .int .u64 n, .slice ba b.length bc] W (PutPost p role (d1, 0) W) := fun W p role hd hb => by
        have := write_any hd 1 (by omega) (by omega) n hn ba b bc hb (by simp [DS.blank])
        rw [show ((1 : Int)) = ((1 : Nat) : Int) from rfl, hw1] at this
        exact this
      have hR1 : ∀ W p role, DiskAt W p role d1 → Calls Try.prog 18 #[.pointer (some ⟨p, 0, none⟩), .int .i64 1, .int .i64 ((m : Int) + 1)] W (ReadPost W ⟨b, n, m, 0⟩) := fun W p role hd => by
        have := read_any hd 1 ((m : Int) + 1) (by omega)
        rw [show ((1 : Int)) = ((1 : Nat) : Int) from rfl, show (m : Int) + ((1 : Nat) : Int) = (m : Int) + 1 from rfl, hr1] at this
        exact this
      have hR2 : ∀ W p role, DiskAt W p role d1 → Calls Try.prog 18 #[.pointer (some ⟨p, 0, none⟩), .int .i64 1, .int .i64 (m : Int)] W (ReadPost W ⟨[], 0, 0, 91⟩) := fun W p role hd => by
        have := read_any hd 1 (m : Int) (by omega)
        rw [hr2] at this
        exact this
      have hR3 : ∀ W p role, DiskAt W p role d1 → Calls Try.prog 18 #[.pointer (some ⟨p, 0, none⟩), .int .i64 2, .int .i64 ((m : Int) + 2)] W (ReadPost W ⟨[], 0, 0, 91⟩) := fun W p role hd => by
        have := read_any hd 2 ((m : Int) + 2) (by omega)
        rw [hr3] at this
        exact this
      have hne0 : ((n : Int) == 0) = false := nat_big hz
      have HW := Lib.hid hW
      have HR1 := Lib.hid hR1
      have HR2 := Lib.hid hR2
      have HR3 := Lib.hid hR3
      have HSP := Lib.hid hspan
      have HSRC := Lib.hid hsrc
      have hlo2 : ¬ ((b.length : Int) < ((m : Int) - 1) * 53) := by omega
      have hhi2 : ¬ ((m : Int) * 53 < (b.length : Int)) := by omega
      have HM := Lib.hid hm
      have HS1 := Lib.hid hs1'
      have HST := Lib.hid hst1
      have hq2 : d1.queue.length ≤ 40 := by rw [hq1]; simp [DS.blank]; omega
      have HQ := Lib.hid hq2
      have HF1 := Lib.hid hf1
      have HDD1 := Lib.hid hd1
      clear hW hR1 hR2 hR3 hspan hsrc hw1 hrest1 hr1 hr2 hr3 hs1 hf1 hd1 hb1 hm hs1' hst1 hq1 hq2
      go_enter Try.func3, Try.ntmps3
      go_upto_region 10 with (first
        | (go_at_call 14; refine HAL.out.mono ?_; rintro e w1 ⟨rfl, hb1⟩; have HB1 := Lib.hid hb1; clear hb1)
        | (go_at_call 15; refine (HSP.out _).mono ?_; rintro e w' ⟨rfl, rfl⟩)
        | (go_at_call 16; refine (disk_blank _ ((m : Int) + 2) (m + 2) (by omega)).mono ?_; rintro e wA ⟨p, role, rfl, hdA, hbA, hrA⟩; have HDA := Lib.hid hdA; have HBA := Lib.hid hbA; have HRA := Lib.hid hrA; clear hdA hbA hrA)
        | (go_at_call 17; refine (HW.out _ p role HDA.out (barg_old HSRC.out hfits hsmall ((HBE.out.trans (HB1.out.mono HBE.out.size)).trans (HBA.out.mono (Nat.le_trans HBE.out.size HB1.out.size))) fun k hk => HRA.out k (Nat.lt_of_lt_of_le hk (Nat.le_trans HBE.out.size HB1.out.size)))).mono ?_; rintro e wB ⟨rfl, roleB, hdB, hmB⟩; have HDB := Lib.hid hdB; have HMB := Lib.hid hmB; clear hdB hmB)
        | (go_at_call 18; refine (HR1.out _ p roleB HDB.out).mono ?_; rintro e wC ⟨v, rfl, hownC, hbC⟩; obtain ⟨oa, oc, rfl, hsrcC, _, _⟩ := owns_src hownC; have HBC := Lib.hid hbC; have HSC := Lib.hid hsrcC; clear hbC hownC hsrcC))
      have hT1 : (convert 23 9 (.slice oa b.length oc)).run Try.prog wC = .ok (.string (strL b)) wC := run_toString HSC.out
      have hbm : Below w.heap.size _ wB := (HMB.out.below fun k hk => ⟨Nat.lt_of_lt_of_le hk (Nat.le_trans (Nat.le_trans HBE.out.size HB1.out.size) HBA.out.size), HRA.out k (Nat.lt_of_lt_of_le hk (Nat.le_trans HBE.out.size HB1.out.size))⟩)
      have hbB : Below w.heap.size w wB := ((HBE.out.trans (HB1.out.mono HBE.out.size)).trans (HBA.out.mono (Nat.le_trans HBE.out.size HB1.out.size))).trans hbm
      have hbCc : Below w.heap.size w wC := hbB.trans (HBC.out.mono hbB.size)
      have hT2 : (convert 23 9 (.slice ba b.length bc)).run Try.prog wC = .ok (.string (strL b)) wC := run_toString (HSRC.out.below hbCc)
      have HBCC := Lib.hid hbCc
      have HDC := Lib.hid (HDB.out.below HBC.out)
      have hrow := HROW.out.below ((HB1.out.trans (HBA.out.mono HB1.out.size))) HROW.out.lt
      have hrow2 := (HMB.out.row hrow (HRA.out _ (Nat.lt_of_lt_of_le HROW.out.lt HB1.out.size))).below HBC.out
      have HRC := Lib.hid (hrow2 (HMB.out.row hrow (HRA.out _ (Nat.lt_of_lt_of_le HROW.out.lt HB1.out.size))).lt)
      have hroleBn : ∀ k, k < w.heap.size → roleB k = none := fun k hk => HMB.out.old k (Nat.lt_of_lt_of_le hk (Nat.le_trans (Nat.le_trans HBE.out.size HB1.out.size) HBA.out.size)) (HRA.out k (Nat.lt_of_lt_of_le hk (Nat.le_trans HBE.out.size HB1.out.size)))
      have hroleB0 : roleB w.heap.size = none := HMB.out.old _ hrow.lt (HRA.out _ (Nat.lt_of_lt_of_le HROW.out.lt HB1.out.size))
      have HRBN := Lib.hid hroleBn
      have HRB0 := Lib.hid hroleB0
      clear hbm hbB hbCc hrow hrow2 hroleBn hroleB0 HDB HDA HMB HB1 HBA HRA HAL HW HSP
      go_upto_region 16 with (first
        | (go_at_call 18; refine (HR2.out _ p roleB HDC.out).mono ?_; rintro e wD ⟨vD, rfl, hownD, hbD⟩; obtain ⟨oaD, ocD, rfl, _, _, _⟩ := owns_src hownD; have HBD := Lib.hid hbD; have HDD := Lib.hid (HDC.out.below hbD); clear hbD hownD HDC HR2)
        | (go_at_call 18; refine (HR3.out _ p roleB HDD.out).mono ?_; rintro e wE ⟨vE, rfl, hownE, hbE⟩; obtain ⟨oaE, ocE, rfl, _, _, _⟩ := owns_src hownE; have HBX := Lib.hid hbE; have HDE := Lib.hid (HDD.out.below hbE); clear hbE hownE HDD HR3))
      have hbe := (HBD.out.trans (HBX.out.mono HBD.out.size))
      have HBW := Lib.hid (HBCC.out.trans (hbe.mono HBCC.out.size))
      have hrowE := HRC.out.below hbe HRC.out.lt
      have HRE := Lib.hid hrowE
      have C0 : wE.cell? ⟨w.heap.size, 0, none⟩ = some (.int .i64 t0) := by rw [hrowE.cell]; rfl
      have C1 : wE.cell? ⟨w.heap.size, 1, none⟩ = some (.int .i64 t1) := by rw [hrowE.cell]; rfl
      clear hbe hrowE HBC HBCC HBD HBX HRC hT1 hT2
      by_cases c1 : t0 < 1
      · go_wp2
        go_ret
        exact ⟨rfl, HBW.out⟩
      by_cases c2 : (m : Int) < t0
      · go_wp2
        go_ret
        exact ⟨rfl, HBW.out⟩
      by_cases c3 : t1 < 0
      · go_wp2
        go_ret
        exact ⟨rfl, HBW.out⟩
      by_cases c4 : 63 < t1
      · go_wp2
        go_ret
        exact ⟨rfl, HBW.out⟩
      obtain ⟨k, rfl⟩ : ∃ k : Nat, t0 = k := ⟨t0.toNat, by omega⟩
      obtain ⟨j, rfl⟩ : ∃ j : Nat, t1 = j := ⟨t1.toNat, by omega⟩
      obtain ⟨s, hs⟩ : ∃ s, s = d1.get k := ⟨_, rfl⟩
      have hsl : s.length = 64 := by rw [hs]; exact HDE.out.len k
      have hget := disk_get HDE.out k (by rw [HS1.out]; omega)
      rw [← hs] at hget
      obtain ⟨x, hx⟩ : ∃ x, s[j]? = some x := ⟨s[j]'(by omega), List.getElem?_eq_getElem _⟩
      have HG := Lib.hid hget
      have HSL := Lib.hid hsl
      have HS := Lib.hid hs
      have HX := Lib.hid hx
      clear hs hget hsl hx HROW
      go_upto_region 19 with (first | (go_at_call 19; refine HG.out.mono ?_; clear HG; rintro e w1 ⟨rfl, hb1⟩; have HB1 := Lib.hid hb1; clear hb1) | (refine wpl_alloc rfl 34 rfl Z64 64 64 info34 ?_) | (with_reducible refine wpl_store rfl 34 (.tmp 21) (.tmp 137) rfl _ (s.map Bv) rfl rfl 34 _ (Row.newZ _ 34) 64 size34 (by simp [HSL.out]) length_zeros64 (oneB' _) ?_))
      have hbe2 : Below wE.heap.size wE ((w1.alloc (.cells Z64 34)).setRow w1.heap.size (s.map Bv).toArray) := below_setRow (HB1.out.alloc HB1.out.size _) HB1.out.size _
      have hr2 : Row ((w1.alloc (.cells Z64 34)).setRow w1.heap.size (s.map Bv).toArray) w1.heap.size (s.map Bv) 34 := (Row.newZ w1 34).setRow _
      generalize (w1.alloc (.cells Z64 34)).setRow w1.heap.size (s.map Bv).toArray = W2 at *
      have hgW : w.heap.size < wE.heap.size := HRE.out.lt
      have hg1 : w.heap.size ≠ w1.heap.size := by have := HB1.out.size; omega
      obtain ⟨g, hg⟩ : ∃ g, g = w1.heap.size := ⟨_, rfl⟩
      rw [← hg] at hr2 hg1 ⊢
      have hrow2 := HRE.out.below hbe2 HRE.out.lt
      have C0' : W2.cell? ⟨w.heap.size, 0, none⟩ = some (.int .i64 k) := by rw [hrow2.cell]; rfl
      have C1' : W2.cell? ⟨w.heap.size, 1, none⟩ = some (.int .i64 j) := by rw [hrow2.cell]; rfl
      have CX : W2.cell? ⟨g, j, none⟩ = some (.int .u8 (x.toNat : Int)) := by rw [hr2.cell]; simp [HX.out]
      have FX : W2.frozen? ⟨g, j, none⟩ = false := hr2.thaw j
      have hgE : wE.heap.size ≤ g := by rw [hg]; exact HB1.out.size
      have HBE2 := Lib.hid hbe2
      have HR2' := Lib.hid hr2
      have HROW2 := Lib.hid hrow2
      clear hbe2 hr2 hrow2 hg HB1 HRE C0 C1
      go_upto_region 20 with fail
      obtain ⟨s', hs'⟩ : ∃ s' : Sec, s' = s.set j (x + 1) := ⟨_, rfl⟩
      have hr3 : Row (W2.setCell ⟨g, j, none⟩ (Bv (x + 1))) g (s'.map Bv) 34 := by rw [hs', List.map_set]; exact HR2'.out.set j _
      have hrow3 := HROW2.out.other ⟨g, j, none⟩ (Bv (x + 1)) hg1
      have hbe3 : Below wE.heap.size wE (W2.setCell ⟨g, j, none⟩ (Bv (x + 1))) := HBE2.out.setCell (p := ⟨g, j, none⟩) hgE _
      have hW3 : W2.setCell ⟨g, j, none⟩ (.int .u8 (((x.toNat : Int) + 1) % 256)) = W2.setCell ⟨g, j, none⟩ (Bv (x + 1)) := by
        have : ((x.toNat : Int) + 1) % 256 = ((x + 1).toNat : Int) := by simp
        rw [this]
      rw [hW3]
      generalize W2.setCell ⟨g, j, none⟩ (Bv (x + 1)) = W3 at *
      have hne : s' ≠ d1.get k := by
        rw [hs', ← HS.out]
        intro e
        have h1 := HX.out
        rw [← e, List.getElem?_set_self (by rw [HSL.out]; omega)] at h1
        simp at h1
      have hsl' : s'.length = 64 := by rw [hs']; simp [HSL.out]
      obtain ⟨d2, hput⟩ : ∃ d2, d1.put k s' = (d2, 0) := ⟨_, put_live d1 k s' HF1.out HDD1.out⟩
      obtain ⟨R, hR⟩ : ∃ R, R = d2.read 1 ((m : Int) + 1) := ⟨_, rfl⟩
      have hRne : ∀ many, R ≠ ⟨b, n, many, 0⟩ := fun many e => by
        have := read_turned HST.out (k := k) (by omega) (by rw [← HM.out]; omega) hne (by rw [hput]) (e := (m : Int) + 1) (many := many)
        rw [hput] at this
        exact this (by rw [← hR]; exact e)
      have hdP := disk_put (HDE.out.below hbe3) k (by rw [HS1.out]; omega) s' hsl' (by have := HQ.out; omega)
      rw [hput] at hdP
      have hRD : ∀ W role, DiskAt W p role d2 → Calls Try.prog 18 #[.pointer (some ⟨p, 0, none⟩), .int .i64 1, .int .i64 ((m : Int) + 1)] W (ReadPost W R) := fun W role hd => by
        rw [hR]; exact read_any hd 1 ((m : Int) + 1) (by omega)
      have C0 : W3.cell? ⟨w.heap.size, 0, none⟩ = some (.int .i64 k) := by rw [hrow3.cell]; rfl
      have HR3 := Lib.hid hr3
      have HBE3 := Lib.hid hbe3
      have HSL' := Lib.hid hsl'
      have HDP := Lib.hid hdP
      have HRD := Lib.hid hRD
      have HRNE := Lib.hid hRne
      clear hr3 hrow3 hbe3 hW3 hne hsl' hput hR hRne hdP hRD hs' C0' C1' CX FX HR2' HBE2 HROW2
      go_upto_region 23 with (first
        | (refine wpl_of_run_g (by rfl) (runs_load_at 34 (.tmp 21) rfl g 0 (by rfl) (s'.map Bv) _ (keepF HR3.out).1 64 (by simp [HSL'.out]) Try.underlying34 rfl size34) ?_)
        | (go_at_call 20; refine HDP.out.mono ?_; clear HDP; rintro e wF ⟨rfl, roleF, hdF, hmF⟩; have HDF := Lib.hid hdF; have HMF := Lib.hid hmF; clear hdF hmF)
        | (go_at_call 18; refine (HRD.out _ roleF HDF.out).mono ?_; rintro e wG ⟨vG, rfl, hownG, hbG⟩; obtain ⟨oaG, ocG, rfl, hsG, _, _⟩ := owns_src hownG; have HBG := Lib.hid hbG; have HSG := Lib.hid hsG; clear hbG hownG hsG))
      have hb3 := HBW.out.trans (HBE3.out.mono HBW.out.size)
      have hbF := hb3.trans (HMF.out.below fun i hi => ⟨Nat.lt_of_lt_of_le hi hb3.size, HRBN.out i hi⟩)
      have hbG := hbF.trans (HBG.out.mono hbF.size)
      have hT1 : (convert 23 9 (.slice oaG R.b.length ocG)).run Try.prog wG = .ok (.string (strL R.b)) wG := run_toString HSG.out
      have hT2 : (convert 23 9 (.slice ba b.length bc)).run Try.prog wG = .ok (.string (strL b)) wG := run_toString (HSRC.out.below hbG)
      have HBGG := Lib.hid hbG
      clear hb3 hbF hbG HBG HMF HDF HRD HDE HBW HBE3 HR3 C0
      have hkey : R.err = 0 → (strL R.b).toList = (strL b).toList → ((R.n : Int) != (n : Int)) = true := fun e0 e1 => by
        rw [ByteArray.toList_eq, ByteArray.toList_eq] at e1
        have e1' : R.b = b := e1
        have e2 : R.n ≠ n := fun e2 => HRNE.out R.many (by cases R; simp_all)
        simp; omega
      have HKEY := Lib.hid hkey
      clear HRNE hkey
      go_wp2
      all_goals first
        | (go_ret; exact ⟨rfl, HBGG.out⟩)
        | (go_ret; exact ⟨congrArg (fun q => Ending.returned (.bool q)) (HKEY.out (by assumption) (by assumption)), HBGG.out⟩)

end Go.Proofs.Ytpddbffamejgeaa
