/- StampTorn's walk. -/
import Derived.Test.YtpddbffamejgeaaAe
import Derived.Test.YtpddbffamejgeaaAg
namespace Go.Proofs.Ytpddbffamejgeaa
open Go.RowKit Go.Proofs.YtpddbffamejgeaaW.PrintLast

theorem Calm.mono {d : DS} {m n : Nat} (h : Calm d m) (hmn : m ≤ n) : Calm d n := ⟨h.fuse, h.dead, h.size, h.base, h.queue, Nat.le_trans h.len hmn⟩
/-- A disk of the call's own, in the middle of it. -/
structure Mid (w : World) (p : Nat) (role : Nat → Option Own) (d : DS) (W : World) : Prop where
  at_ : DiskAt W p role d
  below : Below w.heap.size w W
  old : ∀ k, k < w.heap.size → role k = none
theorem Mid.moves {w W W' : World} {p : Nat} {role role' : Nat → Option Own} {d d' : DS} (h : Mid w p role d W) (hd : DiskAt W' p role' d') (hm : Moves W role W' role') : Mid w p role' d' W' where
  at_ := hd
  below := h.below.trans (hm.below fun k hk => ⟨Nat.lt_of_lt_of_le hk h.below.size, h.old k hk⟩)
  old := fun k hk => hm.old k (Nat.lt_of_lt_of_le hk h.below.size) (h.old k hk)
theorem Mid.grow {w W W' : World} {p : Nat} {role : Nat → Option Own} {d : DS} (h : Mid w p role d W) (hb : Below W.heap.size W W') : Mid w p role d W' :=
  ⟨h.at_.below hb, h.below.trans (hb.mono h.below.size), h.old⟩
theorem Mid.barg {w W : World} {p : Nat} {role : Nat → Option Own} {d : DS} (h : Mid w p role d W) {ba : Option Addr} {b : List UInt8} {bc : Nat} (hsrc : Src w ba (b.map Bv)) (hf : b.length ≤ bc) (hs : bc ≤ 9223372036854775807) : BArg W role ba b bc :=
  barg_old hsrc hf hs h.below h.old
theorem Mid.keeps {w W : World} {p : Nat} {role : Nat → Option Own} {d : DS} (h : Mid w p role d W) {ka : Option Addr} {keep : List Int} (hsrc : Src w ka (keep.map (Value.int .i64))) :
    Src W ka (keep.map (Value.int .i64)) ∧ (0 < keep.length → ∀ ad, ka = some ad → role ad.block = none) :=
  ⟨hsrc.below h.below, fun hl ad e => by
    obtain ⟨ad', e', hc⟩ := hsrc (by simpa using hl)
    rw [e] at e'; cases e'
    have h0 := hc 0 _ (by simp [hl]; rfl)
    have hb := block_lt_of_cell h0
    rw [Addr.add_block] at hb
    exact h.old _ hb⟩

/-- What is done with the disk of one act. -/
def tornStep (d : DS) (a : ActV) : DS :=
  if a.kind = 0 ∧ a.stamp < 4611686018427387904 then (d.write a.pos a.stamp a.b).1 else if a.kind = 3 then d.power a.keep else d
theorem calm_step {d : DS} {n : Nat} (h : Calm d n) (a : ActV) : Calm (tornStep d a) (n + 255) := by
  unfold tornStep
  split
  · rename_i hc
    exact (calm_write h a.pos hc.2 a.b).mono (by have := spanN_le a.b.length; omega)
  · split
    · exact (calm_power h a.keep).mono (by omega)
    · exact h.mono (by omega)

set_option maxRecDepth 100000 in
set_option maxHeartbeats 1600000 in
theorem torn_any (w : World) (pa : Option Addr) (l : List ActV) (cap : Nat) (hA : ActsAt w pa l) (b : List UInt8) (ba : Option Addr) (bc : Nat) (hsrc : Src w ba (b.map Bv)) (hfits : b.length ≤ bc) (hsmall : bc ≤ 9223372036854775807)
    (keep : List Int) (ka : Option Addr) (kc : Nat) (hks : Src w ka (keep.map (Value.int .i64))) :
    Calls Try.prog 5 #[.slice pa l.length cap, .slice ba b.length bc, .slice ka keep.length kc] w (BackPost w) := by
  have hal := alive_any w
  have hgr : ∀ W, Below w.heap.size w W → Calls Try.prog 21 #[.slice pa l.length cap] W (GreatPost W (greatV l)) := fun W hb => great_any W pa l cap (hA.below hb)
  obtain ⟨G, hG⟩ : ∃ G, G = greatV l := ⟨_, rfl⟩
  rw [← hG] at hgr
  have HAL := Lib.hid hal
  have HGR := Lib.hid hgr
  have HG := Lib.hid hG
  have HA := Lib.hid hA
  have HSRC := Lib.hid hsrc
  have HKS := Lib.hid hks
  clear hal hgr hG hA hsrc hks
  cases G with
  | true =>
    go_enter Try.func5, Try.ntmps5
    go_wp2_with (first
      | (go_at_call 14; refine HAL.out.mono ?_; rintro e w1 ⟨rfl, hb1⟩; have HB1 := Lib.hid hb1; clear hb1)
      | (go_at_call 21; refine (HGR.out _ HB1.out).mono ?_; rintro e w2 ⟨rfl, hb2⟩; have HB2 := Lib.hid hb2; clear hb2))
    go_ret
    exact ⟨rfl, HB1.out.trans (HB2.out.mono HB1.out.size)⟩
  | false =>
    by_cases c1 : (b.length : Int) > 1000
    · go_enter Try.func5, Try.ntmps5
      go_wp2_with (first
        | (go_at_call 14; refine HAL.out.mono ?_; rintro e w1 ⟨rfl, hb1⟩; have HB1 := Lib.hid hb1; clear hb1)
        | (go_at_call 21; refine (HGR.out _ HB1.out).mono ?_; rintro e w2 ⟨rfl, hb2⟩; have HB2 := Lib.hid hb2; clear hb2))
      go_ret
      exact ⟨rfl, HB1.out.trans (HB2.out.mono HB1.out.size)⟩
    by_cases c2 : (keep.length : Int) > 100
    · go_enter Try.func5, Try.ntmps5
      go_wp2_with (first
        | (go_at_call 14; refine HAL.out.mono ?_; rintro e w1 ⟨rfl, hb1⟩; have HB1 := Lib.hid hb1; clear hb1)
        | (go_at_call 21; refine (HGR.out _ HB1.out).mono ?_; rintro e w2 ⟨rfl, hb2⟩; have HB2 := Lib.hid hb2; clear hb2))
      go_ret
      exact ⟨rfl, HB1.out.trans (HB2.out.mono HB1.out.size)⟩
    have hg := HG.out
    unfold greatV at hg
    have hg' := hg.symm
    rw [Bool.or_eq_false_iff, decide_eq_false_iff_not, List.any_eq_false] at hg'
    obtain ⟨hl40, hall⟩ := hg'
    have hsm : ∀ (i : Nat) (a : ActV), l[i]? = some a → a.b.length ≤ 1000 ∧ a.keep.length ≤ 400 := fun i a hi => by
      have := hall a (List.mem_of_getElem? hi)
      simp [actGreat] at this
      exact this
    have HSM := Lib.hid hsm
    clear hg hall hsm HG
    go_enter Try.func5, Try.ntmps5
    go_upto_region 6 with (first
      | (go_at_call 14; refine HAL.out.mono ?_; rintro e w1 ⟨rfl, hb1⟩; have HB1 := Lib.hid hb1; clear hb1)
      | (go_at_call 21; refine (HGR.out _ HB1.out).mono ?_; rintro e w2 ⟨rfl, hb2⟩; have HB2 := Lib.hid (HB1.out.trans (hb2.mono HB1.out.size)); clear hb2)
      | (go_at_call 16; refine (disk_blank _ 30 30 (by omega)).mono ?_; rintro e wA ⟨p, role, rfl, hdA, hbA, hrA⟩; have hmid : Mid w p role (DS.blank 30) wA := ⟨hdA, HB2.out.trans (hbA.mono HB2.out.size), fun k hk => hrA k (Nat.lt_of_lt_of_le hk HB2.out.size)⟩; have HMID := Lib.hid hmid; clear hdA hbA hrA hmid))
    clear HB1 HB2 HAL HGR
    go_wp2_with fail
    go_loopw [33] (fun k wr => ∃ (j : Nat) (r : Nat → Option Own) (d : DS), j ≤ l.length ∧ k = .int .i64 j ∧ Hid (Mid w p r d wr) ∧ Hid (Calm d (255 * j)))
      (fun k _ => l.length - (intOf k).toNat)
    case atStart => exact ⟨0, role, DS.blank 30, by omega, rfl, HMID, calm_blank⟩
    case round =>
      obtain ⟨j, r, d, hj, rfl, hmid, hcalm⟩ := hrel
      clear HMID
      by_cases hlt : j < l.length
      · obtain ⟨a, ha⟩ : ∃ a, l[j]? = some a := ⟨l[j], List.getElem?_eq_getElem hlt⟩
        obtain ⟨ad, rfl, hc⟩ := (HA.out.below hmid.out.below).at j a ha
        have hok := HA.out.ok a (List.mem_of_getElem? ha)
        have hcs := calm_step hcalm.out a
        have HC := Lib.hid hc
        have HSMA := Lib.hid (HSM.out j a ha)
        have HOK := Lib.hid hok
        have HCS := Lib.hid hcs
        clear hc ha hok hcs
        go_upto_region 9 with (first | (refine wpl_of_run rfl (runs_load_any 48 (.tmp 35) rfl (ad.add (j * 5)) (by rfl) a.cells _ HC.out 5 rfl Try.underlying48 rfl size48) ?_) | (refine wpl_alloc rfl 48 rfl Z5 5 72 info48 ?_) | (with_reducible refine wpl_store rfl 48 (.tmp 9) (.tmp 36) rfl _ a.cells rfl rfl 48 _ (Row.new _ Z5.toList 48) 5 size48 rfl rfl (oneCells _) ?_))
        have hb2 : Below wr.heap.size wr ((wr.alloc (.cells Z5 48)).setRow wr.heap.size a.cells.toArray) := below_setRow ((Below.refl _ _).alloc (Nat.le_refl _) _) (Nat.le_refl _) _
        have hr2 : Row ((wr.alloc (.cells Z5 48)).setRow wr.heap.size a.cells.toArray) wr.heap.size a.cells 48 := (Row.new wr Z5.toList 48).setRow _
        have hm2 := hmid.out.grow hb2
        have hrg := hmid.out.at_.fresh
        generalize (wr.alloc (.cells Z5 48)).setRow wr.heap.size a.cells.toArray = W2 at *
        generalize wr.heap.size = g at *
        have C0 : W2.cell? ⟨g, 0, none⟩ = some (.int .i64 a.kind) := by rw [hr2.cell]; rfl
        have C1 : W2.cell? ⟨g, 1, none⟩ = some (.int .i64 a.pos) := by rw [hr2.cell]; rfl
        have C2 : W2.cell? ⟨g, 2, none⟩ = some (.int .u64 a.stamp) := by rw [hr2.cell]; rfl
        have C3 : W2.cell? ⟨g, 3, none⟩ = some (.slice a.ba a.b.length a.bc) := by rw [hr2.cell]; rfl
        have C4 : W2.cell? ⟨g, 4, none⟩ = some (.slice a.ka a.keep.length a.kc) := by rw [hr2.cell]; rfl
        have HM2 := Lib.hid hm2
        have HR2 := Lib.hid hr2
        have HRG := Lib.hid hrg
        have hql : d.queue.length ≤ 10200 := Nat.le_trans hcalm.out.len (by omega)
        have HQL := Lib.hid hql
        clear hb2 hr2 hm2 hrg HC hmid hql
        by_cases k0 : a.kind = 0
        · have k3 : (a.kind == 3) = false := by simp [k0]
          have k0' : (a.kind == 0) = true := by simp [k0]
          by_cases k2 : (a.stamp : Int) < 4611686018427387904
          · have hst : tornStep d a = (d.write a.pos a.stamp a.b).1 := by unfold tornStep; rw [if_pos ⟨k0, by omega⟩]
            have HST := Lib.hid hst
            clear k0 hst
            go_wp2_with (go_at_call 17; refine (write_any HM2.out.at_ a.pos HOK.out.at0 HOK.out.at1 a.stamp HOK.out.st a.ba a.b a.bc (HM2.out.barg HOK.out.src HOK.out.fits HOK.out.small) (by have := HQL.out; omega)).mono ?_; rintro e wB ⟨rfl, rB, hdB, hmB⟩; have C0B : wB.cell? ⟨g, 0, none⟩ = some (.int .i64 a.kind) := (by rw [(hmB.row HR2.out HRG.out).cell]; rfl); have HM3 := Lib.hid (HM2.out.moves hdB hmB); clear hdB hmB C0)
            go_roundw
            case rel =>
              refine ⟨j + 1, rB, tornStep d a, by omega, by go_num, ?_, ?_⟩
              · rw [HST.out]; exact HM3
              · rw [show 255 * (j + 1) = 255 * j + 255 by omega]; exact HCS
            case measure => simp [intOf]; omega
          · have hst : tornStep d a = d := by unfold tornStep; rw [if_neg (by omega), if_neg (by omega)]
            have HST := Lib.hid hst
            clear k0 hst
            go_wp2
            go_roundw
            case rel =>
              refine ⟨j + 1, r, tornStep d a, by omega, by go_num, ?_, ?_⟩
              · rw [HST.out]; exact HM2
              · rw [show 255 * (j + 1) = 255 * j + 255 by omega]; exact HCS
            case measure => simp [intOf]; omega
        · have k0' : (a.kind == 0) = false := by simp [k0]
          by_cases k3 : a.kind = 3
          · have k3' : (a.kind == 3) = true := by simp [k3]
            have hst : tornStep d a = d.power a.keep := by unfold tornStep; rw [if_neg (by omega), if_pos k3]
            have HST := Lib.hid hst
            clear k0 k3 hst
            go_wp2_with (go_at_call 28; refine (power_any HM2.out.at_ (by have := HQL.out; omega) a.keep a.ka a.kc (HM2.out.keeps HOK.out.ksrc).1 (HM2.out.keeps HOK.out.ksrc).2 (by have := HSMA.out; omega)).mono ?_; rintro e wB ⟨rfl, rB, hdB, hmB⟩; have HM3 := Lib.hid (HM2.out.moves hdB hmB); clear hdB hmB)
            go_roundw
            case rel =>
              refine ⟨j + 1, rB, tornStep d a, by omega, by go_num, ?_, ?_⟩
              · rw [HST.out]; exact HM3
              · rw [show 255 * (j + 1) = 255 * j + 255 by omega]; exact HCS
            case measure => simp [intOf]; omega
          · have k3' : (a.kind == 3) = false := by simp [k3]
            have hst : tornStep d a = d := by unfold tornStep; rw [if_neg (by omega), if_neg (by omega)]
            have HST := Lib.hid hst
            clear k0 k3 hst
            go_wp2
            go_roundw
            case rel =>
              refine ⟨j + 1, r, tornStep d a, by omega, by go_num, ?_, ?_⟩
              · rw [HST.out]; exact HM2
              · rw [show 255 * (j + 1) = 255 * j + 255 by omega]; exact HCS
            case measure => simp [intOf]; omega
      · obtain rfl : j = l.length := by omega
        have hql : d.queue.length ≤ 10200 := Nat.le_trans hcalm.out.len (by omega)
        obtain ⟨d', hfl, hc', hq'⟩ := calm_flush hcalm.out
        have hflush := flush_any hmid.out.at_ (by omega)
        unfold FlushPost at hflush
        rw [hfl] at hflush
        obtain ⟨fl, hfle⟩ : ∃ fl, fl = d'.top 0 30 := ⟨_, rfl⟩
        have hs0 : spanN b.length ≠ 0 := by have := @spanN_pos b.length (by omega); omega
        have hs27 : spanN b.length ≤ 27 := by have := @spanN_lo b.length; omega
        obtain ⟨hw0, hfl62, hqw⟩ := torn_write hc' hq' b hs0 hs27
        rw [← hfle] at hw0 hfl62 hqw
        obtain ⟨d2, hw⟩ : ∃ d2, d'.write 3 (fl + 1) b = (d2, 0) := ⟨(d'.write 3 (fl + 1) b).1, Prod.ext rfl hw0⟩
        obtain ⟨R, hR⟩ : ∃ R, R = (d2.power keep).read 3 30 := ⟨_, rfl⟩
        have hkey : R.err = 0 → fl < R.n → R.b = b ∧ R.many = spanN b.length := fun e0 e1 => by
          have hr : (((d'.write 3 (d'.top 0 30 + 1) b).1).power keep).read 3 30 = ⟨R.b, R.n, R.many, 0⟩ := by
            rw [← hfle, hw, ← hR]
            cases R; simp_all
          have := torn hc' hq' b hs0 hs27 keep hr (by rw [← hfle]; exact e1)
          exact this.2
        have htop : ∀ W r, DiskAt W p r d' → Calls Try.prog 31 #[.pointer (some ⟨p, 0, none⟩), .int .i64 0, .int .i64 30] W (TopPost W fl) := fun W r hd => by
          have := top_any hd 0 30 (by omega) (by rw [hc'.size]; omega)
          rw [← hfle] at this; exact this
        have hW : ∀ W r, DiskAt W p r d' → BArg W r ba b bc → Calls Try.prog 17 #[.pointer (some ⟨p, 0, none⟩), .int .i64 3, .int .u64 ((fl : Int) + 1), .slice ba b.length bc] W (PutPost p r (d2, 0) W) := fun W r hd hb => by
          have := write_any hd 3 (by omega) (by omega) (fl + 1) (by omega) ba b bc hb (by rw [hq']; simp)
          rw [hw] at this; exact this
        have hq2 : d2.queue.length ≤ 27 := by
          rw [hw] at hqw
          have hqw' : d2.queue.length = spanN b.length := hqw
          omega
        have hP : ∀ W r, Mid w p r d2 W → Calls Try.prog 28 #[.pointer (some ⟨p, 0, none⟩), .slice ka keep.length kc] W (FusePost p r (d2.power keep) W) := fun W r hm =>
          power_any hm.at_ (by omega) keep ka kc (hm.keeps HKS.out).1 (hm.keeps HKS.out).2 (by omega)
        have hRD : ∀ W r, DiskAt W p r (d2.power keep) → Calls Try.prog 18 #[.pointer (some ⟨p, 0, none⟩), .int .i64 3, .int .i64 30] W (ReadPost W R) := fun W r hd => by
          rw [hR]; exact read_any hd 3 30 (by omega)
        have hsp : ∀ W, Calls Try.prog 15 #[.int .i64 (b.length : Nat)] W fun e w' => e = .returned (.int .i64 (spanN b.length : Nat)) ∧ W = w' := fun W => span_any b.length W (by omega)
        obtain ⟨m, hm⟩ : ∃ m, m = spanN b.length := ⟨_, rfl⟩
        rw [← hm] at hsp hkey
        have HFL := Lib.hid hflush
        have HTOP := Lib.hid htop
        have HW := Lib.hid hW
        have HP := Lib.hid hP
        have HRD := Lib.hid hRD
        have HSP := Lib.hid hsp
        have HKEY := Lib.hid hkey
        clear hflush htop hW hP hRD hsp hkey hm hR hw hqw hw0 hs0 hs27 hfle hfl hc' hq' hq2 hql hcalm HSM HA
        go_upto_region 20 with (first
          | (go_at_call 24; refine HFL.out.mono ?_; rintro e wB ⟨rfl, hdB, hmB⟩; have HMF := Lib.hid (hmid.out.moves hdB hmB); clear hdB hmB)
          | (go_at_call 31; refine (HTOP.out _ _ HMF.out.at_).mono ?_; rintro e wC ⟨rfl, hbC⟩; have HMT := Lib.hid (HMF.out.grow hbC); clear hbC)
          | (go_at_call 17; refine (HW.out _ _ HMT.out.at_ (HMT.out.barg HSRC.out hfits hsmall)).mono ?_; rintro e wD ⟨rfl, rD, hdD, hmD⟩; have HMW := Lib.hid (HMT.out.moves hdD hmD); clear hdD hmD)
          | (go_at_call 28; refine (HP.out _ _ HMW.out).mono ?_; rintro e wE ⟨rfl, rE, hdE, hmE⟩; have HMP := Lib.hid (HMW.out.moves hdE hmE); clear hdE hmE)
          | (go_at_call 18; refine (HRD.out _ _ HMP.out.at_).mono ?_; rintro e wG ⟨vG, rfl, hownG, hbG⟩; obtain ⟨oaG, ocG, rfl, hsG, _, _⟩ := owns_src hownG; have HMG := Lib.hid (HMP.out.grow hbG); have HSG := Lib.hid hsG; clear hbG hownG hsG))
        have hT1 : (convert 23 9 (.slice oaG R.b.length ocG)).run Try.prog wG = .ok (.string (strL R.b)) wG := run_toString HSG.out
        have hT2 : (convert 23 9 (.slice ba b.length bc)).run Try.prog wG = .ok (.string (strL b)) wG := run_toString (HSRC.out.below HMG.out.below)
        have hkey2 : R.err = 0 → ¬ R.n ≤ fl → (strL R.b).toList = (strL b).toList ∧ R.many = m := fun e0 e1 => by
          obtain ⟨k1, k2⟩ := HKEY.out e0 (by omega)
          exact ⟨by rw [k1], k2⟩
        have HKEY2 := Lib.hid hkey2
        clear hkey2
        go_wp2_with (go_at_call 15; refine (HSP.out _).mono ?_; rintro e w' ⟨rfl, rfl⟩)
        all_goals first
          | (exact absurd (HKEY2.out (by assumption) (by assumption)).1 (by assumption))
          | (exact absurd (HKEY2.out (by assumption) (by assumption)).2 (by assumption))
          | (go_ret; exact ⟨rfl, HMG.out.below⟩)
          | (go_ret; exact ⟨congrArg (fun q => Ending.returned (.bool q)) (by rw [(HKEY2.out (by assumption) (by assumption)).2]; exact beq_iff_eq.2 rfl), HMG.out.below⟩)

end Go.Proofs.Ytpddbffamejgeaa
