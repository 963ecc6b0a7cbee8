/- LogKeeps' walk. -/
import Derived.Test.YtpddbffamejgeaaAz
import Derived.Test.YtpddbffamejgeaaAv
import Derived.Test.YtpddbffamejgeaaAy
import Derived.Deep.CutBlock
namespace Go.Proofs.Ytpddbffamejgeaa
open Go.RowKit Go.Proofs.YtpddbffamejgeaaW.PrintLast

/-- A law's own disk, log and strings. -/
structure LogSt (w W : World) (p g : Nat) (role : Nat → Option Own) (d : DS) (l : LogV) (v : Value) (T : List (List UInt8)) : Prop where
  mid : Mid w p role d W
  row : Row W g (l.cells p) 142
  rg : role g = none
  og : w.heap.size ≤ g
  strs : StrsAt w W (roleSet role g .fuse) v T
theorem LogSt.grow {w W W' : World} {p g : Nat} {role : Nat → Option Own} {d : DS} {l : LogV} {v : Value} {T : List (List UInt8)} (h : LogSt w W p g role d l v T) (hb : Below W.heap.size W W') : LogSt w W' p g role d l v T :=
  ⟨h.mid.grow hb, h.row.below hb h.row.lt, h.rg, h.og, h.strs.below hb⟩
theorem LogSt.logged {w W W' : World} {p g : Nat} {role role' : Nat → Option Own} {d d' : DS} {l l' : LogV} {v : Value} {T : List (List UInt8)} (h : LogSt w W p g role d l v T) (hd : DiskAt W' p role' d') (hr : Row W' g (l'.cells p) 142) (hg : role' g = none)
    (hm : Moves W (roleSet role g .fuse) W' (roleSet role' g .fuse)) : LogSt w W' p g role' d' l' v T :=
  ⟨h.mid.logged h.og hd hm, hr, hg, h.og, h.strs.moves hm⟩
theorem LogSt.moved {w W W' : World} {p g : Nat} {role role' : Nat → Option Own} {d d' : DS} {l : LogV} {v : Value} {T : List (List UInt8)} (h : LogSt w W p g role d l v T) (hd : DiskAt W' p role' d') (hm : Moves W role W' role') : LogSt w W' p g role' d' l v T :=
  h.logged hd (hm.row h.row h.rg) (hm.old g h.row.lt h.rg) (hm.widen g .fuse)
theorem LogSt.said {w W W' : World} {p g : Nat} {role : Nat → Option Own} {d : DS} {l : LogV} {v v' : Value} {T T' : List (List UInt8)} (h : LogSt w W p g role d l v T) (hs : StrsAt w W' (roleSet role g .fuse) v' T') (hg : W.grownBy W' v.ownBlock) : LogSt w W' p g role d l v' T' := by
  have hv : ∀ k, v.ownBlock = some k → k ≠ g ∧ role k = none ∧ w.heap.size ≤ k := fun k hk => by
    have h1 := h.strs.off k hk
    have h2 : k ≠ g := by rintro rfl; simp [roleSet] at h1
    rw [roleSet_ne h2] at h1
    exact ⟨h2, h1, (h.strs.own.lt k hk).1⟩
  exact ⟨h.mid.grown hg fun k hk => ⟨(hv k hk).2.1, (hv k hk).2.2⟩, h.row.of_block (hg.block g h.row.lt fun e => (hv g e.symm).1 rfl), h.rg, h.og, hs⟩
theorem LogSt.fresh {w W : World} {p g : Nat} {role : Nat → Option Own} {d : DS} {l : LogV} {v : Value} {T : List (List UInt8)} (h : LogSt w W p g role d l v T) {k : Nat} (hk : W.heap.size ≤ k) : roleSet role g .fuse k = none := by
  rw [roleSet_ne (by have := h.row.lt; omega)]; exact h.mid.at_.off hk

theorem log_start {w W : World} {p g : Nat} {role : Nat → Option Own} {d : DS} {l : LogV} (hm : Mid w p role d W) (hr : Row W g (l.cells p) 142) (hg : role g = none) (ho : w.heap.size ≤ g) : LogSt w (W.alloc (.cells #[] 9)) p g role d l (.slice (some ⟨W.heap.size, 0, none⟩) 0 0) [] :=
  ⟨hm.grow ((Below.refl _ _).alloc (Nat.le_refl _) _), hr.alloc _, hg, ho, StrsAt.empty w W _ hm.below.size (by rw [roleSet_ne (by have := hr.lt; omega)]; exact hm.at_.fresh)⟩
/-- The world behind the box of the two numbers. -/
def boxW (w : World) (x0 x1 : Int) : World := w.alloc (.cells #[.int .i64 x0, .int .i64 x1] 24)
theorem box_row (w : World) (x0 x1 : Int) : Row (boxW w x0 x1) w.heap.size [.int .i64 x0, .int .i64 x1] 24 := Row.new w _ 24
theorem box_size (w : World) (x0 x1 : Int) : (boxW w x0 x1).heap.size = w.heap.size + 1 := by simp [boxW]
theorem box_below (w : World) (x0 x1 : Int) : Below w.heap.size w (boxW w x0 x1) := (Below.refl _ _).alloc (Nat.le_refl _) _
theorem Mid.box {w W : World} {x0 x1 : Int} {p : Nat} {role : Nat → Option Own} {d : DS} (h : Mid (boxW w x0 x1) p role d W) : W.cell? ⟨w.heap.size, 0, none⟩ = some (.int .i64 x0) ∧ W.cell? ⟨w.heap.size, 1, none⟩ = some (.int .i64 x1) := by
  have hr := (box_row w x0 x1).below h.below (by rw [box_size]; omega)
  exact ⟨by rw [hr.cell]; rfl, by rw [hr.cell]; rfl⟩
theorem Mid.done {w W : World} {x0 x1 : Int} {p : Nat} {role : Nat → Option Own} {d : DS} (h : Mid (boxW w x0 x1) p role d W) : Below w.heap.size w W :=
  (box_below w x0 x1).trans (h.below.mono (by rw [box_size]; omega))
/-- A string more, under a guard. -/
theorem wpl_append_str_g {ops : Array Oper} {rest : List Oper} {o : Oper} {a : Act} {w0 w : World} {Q : Exit → Act → World → Prop} (hgd : Region.wanted o (yielded ops a.tmps) = true) (s x : Operand)
    (ho : o.op = .call { callee := .builtin .append, args := #[s, x], argTypes := #[68, 68] }) {role : Nat → Option Own} {v : Value} {T : List (List UInt8)} (hT : StrsAt w0 w role v T) (hs : a.eval s = v)
    (g : Nat) (hx : a.eval x = .slice (some ⟨g, 0, none⟩) 1 1) (l : List UInt8) (hg : Row w g [Sv l] 9) (hnew : role w.heap.size = none) (h0 : w0.heap.size ≤ w.heap.size) (h63 : T.length ≤ 1000000)
    (h : ∀ v' w', StrsAt w0 w' role v' (T ++ [l]) → w.grownBy w' v.ownBlock → wpList Try.prog ops Q rest (a.put o.dst v') w') : wpList Try.prog ops Q (o :: rest) a w := by
  obtain ⟨i5, hi5, hz5, hs5, hb5⟩ := info_parts info9
  refine wpList_step fun _ hK => ?_
  rw [if_pos hgd]
  obtain ⟨v', w', hr, hown, hgr, _, hat⟩ := run_append_own_at (P := Try.prog) w w0.heap.size 68 o.type 9 i5 _ 1 16 Try.underlying68 hi5 hz5 hs5 hb5 rfl (by omega) v T.length (T.map Sv) hT.own ⟨g, 0, none⟩ 1 1 [Sv l] rfl
    (fun j y hj => by
      have hj0 : j = 0 := by
        rcases Nat.eq_zero_or_pos j with h | h
        · exact h
        · rw [List.getElem?_eq_none (by simp; omega)] at hj; cases hj
      subst hj0
      rw [add_zero_addr _ rfl, hg.cell]; exact hj) (by intro y hy; simp at hy; subst hy; rfl) (by unfold maxLen; omega) (by omega) h0
  unfold Oper.wp execOp
  simp only [ho, resolve, invoke, builtin, Sem.run_bind, Sem.run_pure, Result.andThen_ok, List.map_toArray, List.map_cons, List.map_nil, hs, hx, hr]
  refine hK _ _ (h v' w' ⟨by simpa using hown, fun b hb => ?_⟩ hgr)
  rcases hat with e | e
  · exact hT.off b (by rw [← e]; exact hb)
  · rw [e] at hb; cases hb; exact hnew
/-- What stands behind the loop over the records. -/
def KeepsOut (w : World) (p g fl : Nat) (v tv : Value) (W : World) : Prop :=
  ∃ (r : Nat → Option Own) (d : DS) (a : Nat) (T : List (List UInt8)), LogSt w W p g r d ⟨a, 40, fl + 1 + T.length⟩ v T ∧ T.length ≤ 20 ∧ (KeepP 2 40 fl d a T ∨ ∃ x, tv = Sv x ∧ TornP 2 40 fl d a T x)

set_option maxRecDepth 100000 in
set_option maxHeartbeats 6400000 in
theorem keeps_any (w : World) (pa : Option Addr) (l : List ActV) (cap : Nat) (hA : ActsAt w pa l) (pr : Option Addr) (R : List (List UInt8)) (rc : Nat) (hR : ListsIn w pr R) (x0 x1 : Int) (hx0 : x0 ≤ 9223372036854775807) :
    Calls Try.prog 8 #[.slice pa l.length cap, .slice pr R.length rc, .agg #[.int .i64 x0, .int .i64 x1]] w (BoolPost w true) := by
  have hal := logalive_any (boxW w x0 x1)
  obtain ⟨G, hG⟩ : ∃ G, G = great10V l := ⟨_, rfl⟩
  have hgr : ∀ W, Below (boxW w x0 x1).heap.size (boxW w x0 x1) W → Calls Try.prog 44 #[.slice pa l.length cap] W (GreatPost W G) := fun W hb => by rw [hG]; exact great10_any W pa l cap ((hA.below (box_below w x0 x1)).below hb)
  have HAL := Lib.hid hal
  have HGR := Lib.hid hgr
  have HG := Lib.hid hG
  have HA := Lib.hid (hA.below (box_below w x0 x1))
  have HR := Lib.hid (hR.below (box_below w x0 x1))
  clear hal hgr hG hA hR
  cases G with
  | true =>
    go_enter Try.func8, Try.ntmps8
    go_wp2_with (first
      | (go_at_call 34; refine HAL.out.mono ?_; rintro e w1 ⟨rfl, hb1⟩; have HB1 := Lib.hid hb1; clear hb1)
      | (go_at_call 44; refine (HGR.out _ HB1.out).mono ?_; rintro e w2 ⟨rfl, hb2⟩; have HB2 := Lib.hid hb2; clear hb2))
    go_ret
    exact ⟨rfl, (box_below w x0 x1).trans ((HB1.out.trans (HB2.out.mono HB1.out.size)).mono (by rw [box_size]; omega))⟩
  | false =>
    by_cases c1 : (20 : Int) < R.length
    · go_enter Try.func8, Try.ntmps8
      go_wp2_with (first
        | (go_at_call 34; refine HAL.out.mono ?_; rintro e w1 ⟨rfl, hb1⟩; have HB1 := Lib.hid hb1; clear hb1)
        | (go_at_call 44; refine (HGR.out _ HB1.out).mono ?_; rintro e w2 ⟨rfl, hb2⟩; have HB2 := Lib.hid hb2; clear hb2))
      go_ret
      exact ⟨rfl, (box_below w x0 x1).trans ((HB1.out.trans (HB2.out.mono HB1.out.size)).mono (by rw [box_size]; omega))⟩
    have hg := HG.out
    unfold great10V at hg
    have hg' := hg.symm
    rw [Bool.or_eq_false_iff, decide_eq_false_iff_not, List.any_eq_false] at hg'
    obtain ⟨hl40, hall⟩ := hg'
    have hsm : ∀ (i : Nat) (a : ActV), l[i]? = some a → a.b.length ≤ 5000 ∧ a.keep.length ≤ 400 := fun i a hi => by
      have := hall a (List.mem_of_getElem? hi)
      simp [act10Great] at this
      exact this
    have HSM := Lib.hid hsm
    clear hg hall hsm HG
    go_enter Try.func8, Try.ntmps8
    go_upto_region 6 with (first
      | (go_at_call 34; refine HAL.out.mono ?_; clear HAL; rintro e w1 ⟨rfl, hb1⟩; have HB1 := Lib.hid hb1; clear hb1)
      | (go_at_call 44; refine (HGR.out _ HB1.out).mono ?_; clear HGR; rintro e w2 ⟨rfl, hb2⟩; have HB2 := Lib.hid (HB1.out.trans (hb2.mono HB1.out.size)); clear hb2)
      | (go_at_call 16; refine (disk_blank _ 40 40 (by omega)).mono ?_; rintro e wA ⟨p, role, rfl, hdA, hbA, hrA⟩; have hmid : Mid (boxW w x0 x1) p role (DS.blank 40) wA := ⟨hdA, HB2.out.trans (hbA.mono HB2.out.size), fun k hk => hrA k (Nat.lt_of_lt_of_le hk HB2.out.size)⟩; have HMID := Lib.hid hmid; clear hdA hbA hrA hmid))
    clear HB1 HB2
    go_wp2_with fail
    go_loopw [38] (fun k wr => ∃ (j : Nat) (r : Nat → Option Own) (d : DS), j ≤ l.length ∧ k = .int .i64 j ∧ Hid (Mid (boxW w x0 x1) p r d wr) ∧ Hid (OldP 40 d j))
      (fun k _ => l.length - (intOf k).toNat)
    case atStart => exact ⟨0, role, DS.blank 40, by omega, rfl, HMID, old_blank 40⟩
    case round =>
      obtain ⟨j, r, d, hj, rfl, hmid, hold⟩ := hrel
      clear HMID
      by_cases hlt : j < l.length
      · obtain ⟨a, ha⟩ : ∃ a, l[j]? = some a := ⟨l[j], List.getElem?_eq_getElem hlt⟩
        obtain ⟨ad, rfl, hc⟩ := (HA.out.below hmid.out.below).at j a ha
        have hok := HA.out.ok a (List.mem_of_getElem? ha)
        have HC := Lib.hid hc
        have HSMA := Lib.hid (HSM.out j a ha)
        have HOK := Lib.hid hok
        clear hc ha hok
        go_upto_region 9 with (first | (refine wpl_of_run rfl (runs_load_any 80 (.tmp 40) rfl (ad.add (j * 5)) (by rfl) a.cells _ HC.out 5 rfl Try.underlying80 rfl size80) ?_) | (refine wpl_alloc rfl 80 rfl Z5 5 72 info80 ?_) | (with_reducible refine wpl_store rfl 80 (.tmp 9) (.tmp 41) rfl _ a.cells rfl rfl 80 _ (Row.new _ Z5.toList 80) 5 size80 rfl rfl (oneCells _) ?_))
        have hb2 : Below wr.heap.size wr ((wr.alloc (.cells Z5 80)).setRow wr.heap.size a.cells.toArray) := below_setRow ((Below.refl _ _).alloc (Nat.le_refl _) _) (Nat.le_refl _) _
        have hr2 : Row ((wr.alloc (.cells Z5 80)).setRow wr.heap.size a.cells.toArray) wr.heap.size a.cells 80 := (Row.new wr Z5.toList 80).setRow _
        have hm2 := hmid.out.grow hb2
        generalize (wr.alloc (.cells Z5 80)).setRow wr.heap.size a.cells.toArray = W2 at *
        generalize wr.heap.size = g at *
        have C0 : W2.cell? ⟨g, 0, none⟩ = some (.int .i64 a.kind) := by rw [hr2.cell]; rfl
        have C1 : W2.cell? ⟨g, 1, none⟩ = some (.int .i64 a.pos) := by rw [hr2.cell]; rfl
        have C2 : W2.cell? ⟨g, 2, none⟩ = some (.int .u64 a.stamp) := by rw [hr2.cell]; rfl
        have C3 : W2.cell? ⟨g, 3, none⟩ = some (.slice a.ba a.b.length a.bc) := by rw [hr2.cell]; rfl
        have HM2 := Lib.hid hm2
        clear hb2 hr2 hm2 HC
        by_cases k0 : a.kind = 4
        · have k0' : (a.kind == 4) = true := by simp [k0]
          by_cases k2 : (a.stamp : Int) < 4611686018427387904
          · have HOW := Lib.hid (old_write hold.out a.pos (s := a.stamp) (by omega) a.b)
            clear k0
            go_wp2_with (go_at_call 17; refine (write_any HM2.out.at_ a.pos HOK.out.at0 HOK.out.at1 a.stamp HOK.out.st a.ba a.b a.bc (HM2.out.barg HOK.out.src HOK.out.fits HOK.out.small) (by have := hold.out.len; omega)).mono ?_; rintro e wB ⟨rfl, rB, hdB, hmB⟩; have HM3 := Lib.hid (HM2.out.moves hdB hmB); clear hdB hmB C0)
            go_roundw
            case rel => exact ⟨j + 1, rB, _, by omega, by go_num, HM3, HOW⟩
            case measure => simp [intOf]; omega
          · clear k0
            go_wp2
            go_roundw
            case rel => exact ⟨j + 1, r, d, by omega, by go_num, HM2, Lib.hid ⟨hold.out.fuse, hold.out.dead, hold.out.whole, hold.out.size, hold.out.low, by have := hold.out.len; omega⟩⟩
            case measure => simp [intOf]; omega
        · have k0' : (a.kind == 4) = false := by simp [k0]
          clear k0
          go_wp2
          go_roundw
          case rel => exact ⟨j + 1, r, d, by omega, by go_num, HM2, Lib.hid ⟨hold.out.fuse, hold.out.dead, hold.out.whole, hold.out.size, hold.out.low, by have := hold.out.len; omega⟩⟩
          case measure => simp [intOf]; omega
      · obtain rfl : j = l.length := by omega
        have hql : d.queue.length ≤ 10200 := Nat.le_trans hold.out.len (by omega)
        obtain ⟨d', hfl, hold', hq'⟩ := old_flush hold.out
        have hflush := flush_any hmid.out.at_ (by omega)
        unfold FlushPost at hflush
        rw [hfl] at hflush
        obtain ⟨hfl62, hrecs, hlogv, hkeep⟩ := keep_start hold' hq' (A := 2) (by omega)
        obtain ⟨fl, hfle⟩ : ∃ fl, fl = d'.top 0 40 := ⟨_, rfl⟩
        rw [← hfle] at hfl62 hrecs hlogv hkeep
        have htop : ∀ W r, DiskAt W p r d' → Calls Try.prog 31 #[.pointer (some ⟨p, 0, none⟩), .int .i64 0, .int .i64 40] W (TopPost W fl) := fun W r hd => by
          have := top_any hd 0 40 (by omega) (by rw [hold'.size]; omega)
          rw [← hfle] at this; exact this
        have hopen : ∀ W r, DiskAt W p r d' → Calls Try.prog 35 #[.pointer (some ⟨p, 0, none⟩), .int .i64 2, .int .i64 40, .int .u64 fl] W (LogOpenPost W p ⟨2, 40, fl + 1⟩ []) := fun W r hd => by
          have := logopen_any hd 2 40 fl (by omega) (by rw [hold'.size]; omega) (by omega)
          rw [hrecs, hlogv] at this; exact this
        have HFL := Lib.hid hflush
        have HTOP := Lib.hid htop
        have HOPEN := Lib.hid hopen
        have HKEEP := Lib.hid hkeep
        have HF62 := Lib.hid hfl62
        clear hflush htop hopen hkeep hfl62 hfl hold' hq' hrecs hlogv hfle hql hold HSM HA
        go_upto_block 2 with (first
          | (go_at_call 24; refine HFL.out.mono ?_; clear HFL; rintro e wB ⟨rfl, hdB, hmB⟩; have HMF := Lib.hid (hmid.out.moves hdB hmB); clear hdB hmB)
          | (go_at_call 31; refine (HTOP.out _ _ HMF.out.at_).mono ?_; clear HTOP; rintro e wC ⟨rfl, hbC⟩; have HMT := Lib.hid (HMF.out.grow hbC); clear hbC)
          | (go_at_call 35; refine (HOPEN.out _ _ HMT.out.at_).mono ?_; clear HOPEN; rintro e wD ⟨g, vD, rfl, hgD, hrowD, hLD, hbD⟩; obtain ⟨pD, cD, rfl, _, _⟩ := hLD.len; have HMD := Lib.hid (HMT.out.grow hbD); have HGN := Lib.hid (show (boxW w x0 x1).heap.size ≤ g from Nat.le_trans HMT.out.below.size hgD); have HGR := Lib.hid (HMT.out.at_.off hgD); have HRG := Lib.hid hrowD; have CB0 := HMD.out.box.1; clear hgD hrowD hLD hbD)
          | (go_at_call 26; refine (fuse_any HMD.out.at_ x0 hx0).mono ?_; rintro e wE ⟨rfl, rE, hdE, hmE⟩; have HME := Lib.hid (HMD.out.moves hdE hmE); have HRGE := Lib.hid (show Row wE g (LogV.cells p ⟨2, 40, fl + 1⟩) 142 ∧ rE g = none from ⟨hmE.row HRG.out HGR.out, hmE.old g HRG.out.lt HGR.out⟩); clear hdE hmE CB0))
        have hst0 := log_start HME.out HRGE.out.1 HRGE.out.2 HGN.out
        have hkp0 := HKEEP.out x0
        generalize d'.setFuse x0 = dE at *
        generalize wE.alloc (.cells #[] 9) = wF at *
        have HST0 := Lib.hid hst0
        have HKP0 := Lib.hid hkp0
        clear hst0 hkp0 HKEEP HME HRGE HMF HMT HMD HGR HRG hmid
        go_cut [15, 16, 18, 19] from 95 to 118 (fun v tv _ _ W => KeepsOut (boxW w x0 x1) p g fl v tv W)
        case first =>
          go_wp2_with fail
          go_loopw [15, 95] (fun v k wr => ∃ (j : Nat) (r : Nat → Option Own) (d : DS) (a : Nat) (T : List (List UInt8)), j ≤ R.length ∧ T.length ≤ j ∧ k = .int .i64 j ∧ Hid (LogSt (boxW w x0 x1) wr p g r d ⟨a, 40, fl + 1 + T.length⟩ v T) ∧ Hid (KeepP 2 40 fl d a T))
            (fun _ k _ => R.length - (intOf k).toNat)
          case atStart => exact ⟨0, rE, dE, 2, [], by omega, by simp, rfl, HST0, HKP0⟩
          case round =>
            obtain ⟨j, r2, d2, a, T, hj2, hTj, rfl, hst, hkp⟩ := hrel
            clear HST0 HKP0
            obtain ⟨pv, cv, rfl, _, _⟩ := hst.out.strs.val
            by_cases hlt2 : j < R.length
            · obtain ⟨x, hx⟩ : ∃ x, R[j]? = some x := ⟨R[j], List.getElem?_eq_getElem hlt2⟩
              obtain ⟨ad, xa, xc, rfl, hc0, hs, hf, hm⟩ := HR.out j x hx
              have hc : wr.cell? (ad.add j) = some (.slice xa x.length xc) := by
                have := hst.out.mid.below.cell (block_lt_of_cell hc0)
                rw [this]; exact hc0
              have HS := Lib.hid hs
              clear hs hc0 hx
              by_cases c4 : (600 : Int) < x.length
              · go_wp2
                go_ret
                exact ⟨rfl, hst.out.mid.done⟩
              obtain ⟨X, hX⟩ : ∃ X, X = appendD d2 ⟨a, 40, fl + 1 + T.length⟩ x := ⟨_, rfl⟩
              have hap : Calls Try.prog 37 #[.pointer (some ⟨g, 0, none⟩), .slice xa x.length xc] wr (AppendPost p g r2 X wr) := by
                rw [hX]
                exact append_any hst.out.mid.at_ hst.out.row hst.out.rg hkp.out.fits (by rw [hkp.out.size]; exact Nat.le_refl _) (by show fl + 1 + T.length < _; have := HF62.out; omega) x xa xc (hst.out.mid.barg HS.out hf (by unfold maxLen at hm; omega)) (by omega) (by rw [hkp.out.queue]; simp)
              have hways := keeps_step hkp.out x (by omega) (by have := HF62.out; omega)
              rw [← hX] at hways
              have HAP := Lib.hid hap
              clear hap hX
              rcases hways with ⟨_, hX⟩ | ⟨d3, hX, hk3⟩ | ⟨d3, hX, ht3⟩
              · have HX := Lib.hid hX
                clear hX
                go_wp2_with (go_at_call 37; refine HAP.out.mono ?_; clear HAP; rintro e w2 ⟨rfl, r3, hd2, hrw2, hrg2, hm2⟩; rw [HX.out] at hd2 hrw2 ⊢; have HST2 := Lib.hid (hst.out.logged hd2 hrw2 hrg2 hm2); clear hd2 hrw2 hrg2 hm2)
                go_roundw
                case rel => exact ⟨j + 1, r3, d2, a, T, by omega, by omega, by go_num, HST2, hkp⟩
                case measure => simp [intOf]; omega
              · obtain ⟨T4, hT4⟩ : ∃ T4, T4 = T ++ [x] := ⟨_, rfl⟩
                have hT4l : T4.length = T.length + 1 := by rw [hT4]; simp
                rw [← hT4] at hk3
                rw [← hT4l] at hX
                have HX := Lib.hid hX
                have HK3 := Lib.hid hk3
                have HT4 := Lib.hid hT4
                have HT4L := Lib.hid hT4l
                clear hX hk3 hT4 hT4l
                go_wp2_with (first
                  | (go_at_call 37; refine HAP.out.mono ?_; clear HAP; rintro e w2 ⟨rfl, r3, hd2, hrw2, hrg2, hm2⟩; rw [HX.out] at hd2 hrw2 ⊢; have HST2 := Lib.hid (hst.out.logged hd2 hrw2 hrg2 hm2); clear hd2 hrw2 hrg2 hm2; have hcv : (convert 23 9 (.slice xa x.length xc)).run Try.prog w2 = .ok (.string (strL x)) w2 := run_toString (HS.out.below HST2.out.mid.below))
                  | (at_builtin; refine wpl_append_str (o := ⟨some 115, _, _, _, _, _⟩) rfl (.tmp 111) (.tmp 114) rfl (HST2.out.strs.below ((Below.refl _ _).alloc (Nat.le_refl _) (.cells #[Sv x] 9))) rfl w2.heap.size rfl x (Row.new w2 [Sv x] 9) (HST2.out.fresh (by simp)) (by have := HST2.out.mid.below.size; simp; omega) (by omega) ?_; intro v4 w4 hs4 hg4; rw [← HT4.out] at hs4; obtain ⟨p4, c4', rfl, _, _⟩ := hs4.val; have HST4 := Lib.hid ((HST2.out.grow ((Below.refl _ _).alloc (Nat.le_refl _) (.cells #[Sv x] 9))).said hs4 hg4); clear hs4 hg4 hcv))
                go_roundw
                case rel => exact ⟨j + 1, r3, d3, a + needN x.length, T4, by omega, by rw [HT4L.out]; omega, by go_num, HST4, HK3⟩
                case measure => simp [intOf]; omega
              · have HX := Lib.hid hX
                have HT3 := Lib.hid ht3
                clear hX ht3
                go_wp2_with (go_at_call 37; refine HAP.out.mono ?_; clear HAP; rintro e w2 ⟨rfl, r3, hd2, hrw2, hrg2, hm2⟩; rw [HX.out] at hd2 hrw2 ⊢; have HST2 := Lib.hid (hst.out.logged hd2 hrw2 hrg2 hm2); clear hd2 hrw2 hrg2 hm2; have hcv : (convert 23 9 (.slice xa x.length xc)).run Try.prog w2 = .ok (.string (strL x)) w2 := run_toString (HS.out.below HST2.out.mid.below))
                go_meet
                case rel => exact ⟨r3, d3, a, T, HST2.out, by omega, Or.inr ⟨x, rfl, HT3.out⟩⟩
            · obtain rfl : j = R.length := by omega
              go_wp2
              go_meet
              case rel => exact ⟨r2, d2, a, T, hst.out, by omega, Or.inl hkp.out⟩
        case rest =>
          obtain ⟨rK, dK, aK, T, hst, hT20, hend⟩ := hcut
          obtain ⟨pv, cv, rfl, _, _⟩ := hst.strs.val
          have hmk : (Instr.makeSlice 46 (.int .i64 40) (.int .i64 40)).run Try.prog wc = .ok (.slice (some ⟨wc.heap.size, 0, none⟩) 40 40) (wc.alloc (.cells ((List.replicate 40 (0 : Int)).map (Value.int .i64)).toArray 3)) := by kernel_rfl
          have hrk := Row.new wc ((List.replicate 40 (0 : Int)).map (Value.int .i64)) 3
          have hbk := (Below.refl wc.heap.size wc).alloc (Nat.le_refl _) (.cells ((List.replicate 40 (0 : Int)).map (Value.int .i64)).toArray 3)
          have hzl : (List.replicate 40 (0 : Int)).length = 40 := rfl
          generalize wc.alloc (.cells ((List.replicate 40 (0 : Int)).map (Value.int .i64)).toArray 3) = wk at *
          generalize List.replicate 40 (0 : Int) = z40 at *
          obtain ⟨bd, hbd⟩ : ∃ bd, bd = dK.dead := ⟨_, rfl⟩
          have hdead := disk_dead hst.mid.at_
          rw [← hbd] at hdead
          have HBD := Lib.hid hbd
          have HST := Lib.hid hst
          have HEND := Lib.hid hend
          have HRK := Lib.hid hrk
          have HBK := Lib.hid hbk
          have HZL := Lib.hid hzl
          have HDEAD := Lib.hid hdead
          clear hst hend hrk hbk hzl hdead hbd HST0 HKP0
          go_wp2_with (go_at_call 45; refine HDEAD.out.mono ?_; clear HDEAD; rintro e w' ⟨rfl, rfl⟩)
          clear hmk
          go_loopw [124] (fun k wr => ∃ (i : Nat) (ks : List Int), i ≤ 40 ∧ k = .int .i64 i ∧ Hid (ks.length = 40) ∧ Hid (Row wr wc.heap.size (ks.map (Value.int .i64)) 3) ∧ Hid (Below wc.heap.size wc wr))
            (fun k _ => 40 - (intOf k).toNat)
          case atStart => exact ⟨0, z40, by omega, rfl, HZL, HRK, HBK⟩
          case round =>
            obtain ⟨i, ks, hi, rfl, hkl, hrw, hbw⟩ := hrel
            clear HZL HRK HBK
            have hstr := Lib.hid (HST.out.grow hbw.out)
            by_cases hi40 : i < 40
            · have CX1 := (hstr.out.mid.box).2
              have FI : wr.frozen? ⟨wc.heap.size, i, none⟩ = false := hrw.out.thaw i
              have CI : ∃ z, wr.cell? ⟨wc.heap.size, i, none⟩ = some (.int .i64 z) := ⟨ks[i]'(by rw [hkl.out]; exact hi40), by rw [hrw.out.cell]; simp [hkl.out, hi40]⟩
              obtain ⟨z, CI⟩ := CI
              go_wp2
              go_roundw
              case rel => exact ⟨i + 1, ks.set i ((x1 / 2 ^ (i % 6)).tmod 65), by omega, by go_num, Lib.hid (by rw [List.length_set]; exact hkl.out), Lib.hid (by rw [List.map_set]; exact hrw.out.set i _), Lib.hid (hbw.out.setCell (p := ⟨wc.heap.size, i, none⟩) (Nat.le_refl _) _)⟩
              case measure => simp [intOf]; omega
            · obtain rfl : i = 40 := by omega
              have hrn : rK wc.heap.size = none := HST.out.mid.at_.fresh
              obtain ⟨dP, hdP⟩ : ∃ dP, dP = dK.power ks := ⟨_, rfl⟩
              have hql : dK.queue.length ≤ 1000 := by
                rcases HEND.out with h | ⟨x, _, h⟩
                · rw [h.queue]; simp
                · obtain ⟨d0, j, h0, hj, hq, _⟩ := h.was
                  rw [hq, h0.queue, List.nil_append, length_newQ]
                  have := spanN_le (sealedN x).length
                  omega
              have hP : Calls Try.prog 28 #[.pointer (some ⟨p, 0, none⟩), .slice (some ⟨wc.heap.size, 0, none⟩) 40 40] wr (FusePost p rK dP wr) := by
                have := power_any hstr.out.mid.at_ (by omega) ks (some ⟨wc.heap.size, 0, none⟩) 40 (Src.of_row hrw.out 0 _ fun j v hj => by rwa [Nat.zero_add]) (fun _ ad e => by cases e; exact hrn) (by rw [hkl.out]; omega)
                rw [hkl.out, ← hdP] at this
                exact this
              have hsz : dP.size = 40 := by
                rw [hdP]
                rcases HEND.out with h | ⟨x, _, h⟩
                · exact h.size
                · exact h.size
              have hopen : ∀ W r (L : List (List UInt8)), DiskAt W p r dP → (dP.recs 2 40 fl).1 = L → Calls Try.prog 35 #[.pointer (some ⟨p, 0, none⟩), .int .i64 2, .int .i64 40, .int .u64 fl] W (LogOpenPost W p (dP.logV 2 40 fl) L) := fun W r L hd e => by
                have := logopen_any hd 2 40 fl (by omega) (by rw [hsz]; omega) (by have := HF62.out; omega)
                rw [e] at this; exact this
              have HP := Lib.hid hP
              have HOPEN := Lib.hid hopen
              have hways : (dP.recs 2 40 fl).1 = T ∨ (bd = true ∧ ∃ x, u16 = Sv x ∧ (dP.recs 2 40 fl).1 = T ++ [x]) := by
                rw [hdP]
                rcases HEND.out with h | ⟨x, e, h⟩
                · left; rw [h.power ks]
                · rcases torn_recs h ks (by have := HF62.out; omega) with h1 | ⟨h1, _⟩
                  · left; rw [h1]
                  · right; exact ⟨by rw [HBD.out]; exact h.dead, x, e, by rw [h1]⟩
              clear hP hopen hsz hql hdP HEND hrw hbw hkl hrn
              clear HBD
              rcases hways with hrec | ⟨rfl, x, rfl, hrec⟩
              · have HREC := Lib.hid hrec
                have HT20 := Lib.hid hT20
                clear hrec
                go_wp2_with (first
                  | (go_at_call 28; refine HP.out.mono ?_; clear HP; rintro e wP ⟨rfl, rP, hdP, hmP⟩; have HSP := Lib.hid (hstr.out.moved hdP hmP); clear hdP hmP)
                  | (go_at_call 35; refine (HOPEN.out _ _ T HSP.out.mid.at_ HREC.out).mono ?_; clear HOPEN; rintro e wQ ⟨gQ, vQ, rfl, _, _, hLQ, hbQ⟩; obtain ⟨pQ, cQ, rfl, _, _⟩ := hLQ.len; have HSQ := Lib.hid (HSP.out.grow hbQ); have HLQ := Lib.hid hLQ.reads; clear hLQ hbQ)
                  | (go_at_call 40; refine (same_any _ pQ pv T T cQ cv HLQ.out HSQ.out.strs.src (by have := HT20.out; omega)).mono ?_; rintro e wS ⟨rfl, hbS⟩; have HSS := Lib.hid (HSQ.out.grow hbS); clear hbS))
                all_goals (go_ret; exact ⟨rfl, HSS.out.mid.done⟩)
              · have HREC := Lib.hid hrec
                have HT20 := Lib.hid hT20
                obtain ⟨T4, hT4⟩ : ∃ T4, T4 = T ++ [x] := ⟨_, rfl⟩
                have hT4l : T4.length ≤ 21 := by rw [hT4]; simp; omega
                have hne : (T4 == T) = false := by
                  rw [beq_eq_false_iff_ne]
                  intro e
                  have := congrArg List.length e
                  rw [hT4] at this
                  simp at this
                have HT4 := Lib.hid hT4
                have HNE := Lib.hid hne
                clear hrec hT4 hne
                go_upto_region 46 with (first
                  | (go_at_call 28; refine HP.out.mono ?_; clear HP; rintro e wP ⟨rfl, rP, hdP, hmP⟩; have HSP := Lib.hid (hstr.out.moved hdP hmP); clear hdP hmP)
                  | (go_at_call 35; refine (HOPEN.out _ _ T4 HSP.out.mid.at_ (by rw [HREC.out, HT4.out])).mono ?_; clear HOPEN; rintro e wQ ⟨gQ, vQ, rfl, _, _, hLQ, hbQ⟩; obtain ⟨pQ, cQ, rfl, _, _⟩ := hLQ.len; have HSQ := Lib.hid (HSP.out.grow hbQ); have HLQ := Lib.hid hLQ; have HVP := Lib.hid (fun k hk => (HSP.out.strs.own.lt k hk).2); clear hLQ hbQ)
                  | (go_at_call 40; refine (same_any _ pQ pv T4 T cQ cv HLQ.out.reads HSQ.out.strs.src (by omega)).mono ?_; rintro e wS ⟨rfl, hbS⟩; rw [HNE.out]; have HSS := Lib.hid (HSQ.out.grow hbS); have HLS := Lib.hid (HLQ.out.below hbS); clear hbS))
                go_wp2_with (first
                  | (at_builtin; refine wpl_append_str_g (o := ⟨some 158, _, _, _, _, _⟩) (by simp [Region.wanted, yielded]) (.tmp 155) (.tmp 157) rfl (HSS.out.strs.below ((Below.refl _ _).alloc (Nat.le_refl _) (.cells #[Sv x] 9))) rfl wS.heap.size rfl x (Row.new wS [Sv x] 9) (HSS.out.fresh (by simp)) (by have := HSS.out.mid.below.size; simp; omega) (by have := HT20.out; omega) ?_; intro v4 w4 hs4 hg4; rw [← HT4.out] at hs4; obtain ⟨p4, c4', rfl, _, _⟩ := hs4.val; have HST4 := Lib.hid ((HSS.out.grow ((Below.refl _ _).alloc (Nat.le_refl _) (.cells #[Sv x] 9))).said hs4 hg4); have HLZ := Lib.hid (((HLS.out.below ((Below.refl _ _).alloc (Nat.le_refl _) (.cells #[Sv x] 9))).of_block (fun k hk hlt => hg4.block k hlt (fun e => Nat.lt_irrefl k (Nat.lt_of_lt_of_le (HVP.out k e.symm) hk.1)))).reads); clear hs4 hg4)
                  | (go_at_call 40; refine (same_any _ pQ p4 T4 T4 cQ c4' HLZ.out HST4.out.strs.src (by omega)).mono ?_; rintro e wU ⟨rfl, hbU⟩; have HSU := Lib.hid (HST4.out.grow hbU); clear hbU))
                go_ret
                exact ⟨congrArg (fun q => Ending.returned (.bool q)) (by simp), HSU.out.mid.done⟩

end Go.Proofs.Ytpddbffamejgeaa
