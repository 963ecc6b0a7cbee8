/- A law's own disk, log and strings, in the middle of it; logAlive. -/
import Derived.Test.YtpddbffamejgeaaAr
import Derived.Test.YtpddbffamejgeaaAs
import Derived.Lib.SlBytesConst
namespace Go.Proofs.Ytpddbffamejgeaa
open Go.RowKit Go.Proofs.YtpddbffamejgeaaW.PrintLast

theorem info9 : (Try.prog.info? 9).map (fun i => (i.zero, i.size, i.bytes)) = some (some (.string ⟨#[]⟩), 1, 16) := by kernel_rfl
/-- Strings of the call's own, off the disk and off the log. -/
structure StrsAt (w0 W : World) (role : Nat → Option Own) (v : Value) (T : List (List UInt8)) : Prop where
  own : W.ownsRow w0.heap.size 9 1 v T.length (T.map Sv)
  off : ∀ b, v.ownBlock = some b → role b = none
theorem StrsAt.nil (w0 W : World) (role : Nat → Option Own) : StrsAt w0 W role (.slice none 0 0) [] := ⟨World.ownsRow_nil _ _ _ _, fun b hb => by cases hb⟩
theorem StrsAt.moves {w0 W W' : World} {role role' : Nat → Option Own} {v : Value} {T : List (List UInt8)} (h : StrsAt w0 W role v T) (hm : Moves W role W' role') : StrsAt w0 W' role' v T where
  own := ownsRow_of_block h.own fun g hg => hm.block g (h.own.lt g hg).2 (h.off g hg)
  off := fun b hb => hm.old b (h.own.lt b hb).2 (h.off b hb)
theorem StrsAt.below {w0 W W' : World} {role : Nat → Option Own} {v : Value} {T : List (List UInt8)} (h : StrsAt w0 W role v T) (hb : Below W.heap.size W W') : StrsAt w0 W' role v T := h.moves (Moves.of_below hb)
theorem StrsAt.val {w0 W : World} {role : Nat → Option Own} {v : Value} {T : List (List UInt8)} (h : StrsAt w0 W role v T) : ∃ pa c, v = .slice pa T.length c ∧ Src W pa (T.map Sv) ∧ T.length ≤ c ∧ c ≤ maxLen := by
  rcases h.own.2 with ⟨rfl, h0⟩ | ⟨g, cap, cur, rfl, _, hg, h2, h3, h4, h5⟩
  · have : T = [] := List.eq_nil_of_length_eq_zero h0
    subst this
    exact ⟨none, 0, rfl, Src.nil _ _, by simp, by unfold maxLen; omega⟩
  · refine ⟨_, _, rfl, ?_, h2, h3⟩
    have hr : Row W g cur.toList 9 := by simpa [Row] using hg
    exact Src.of_row hr 0 _ fun j v hj => by rw [Nat.zero_add]; exact take_get h5 hj
/-- A string more. -/
theorem wpl_append_str {ops : Array Oper} {rest : List Oper} {o : Oper} {a : Act} {w0 w : World} {Q : Exit → Act → World → Prop} (hgd : o.guard = none) (s x : Operand)
    (ho : o.op = .call { callee := .builtin .append, args := #[s, x], argTypes := #[68, 68] }) {role : Nat → Option Own} {v : Value} {T : List (List UInt8)} (hT : StrsAt w0 w role v T) (hs : a.eval s = v)
    (g : Nat) (hx : a.eval x = .slice (some ⟨g, 0, none⟩) 1 1) (l : List UInt8) (hg : Row w g [Sv l] 9) (hnew : role w.heap.size = none) (h0 : w0.heap.size ≤ w.heap.size) (h63 : T.length ≤ 1000000)
    (h : ∀ v' w', StrsAt w0 w' role v' (T ++ [l]) → w.grownBy w' v.ownBlock → wpList Try.prog ops Q rest (a.put o.dst v') w') : wpList Try.prog ops Q (o :: rest) a w := by
  obtain ⟨i5, hi5, hz5, hs5, hb5⟩ := info_parts info9
  refine wpList_plain hgd fun _ hK => ?_
  obtain ⟨v', w', hr, hown, hgr, _, hat⟩ := run_append_own_at (P := Try.prog) w w0.heap.size 68 o.type 9 i5 _ 1 16 Try.underlying68 hi5 hz5 hs5 hb5 rfl (by omega) v T.length (T.map Sv) hT.own ⟨g, 0, none⟩ 1 1 [Sv l] rfl
    (fun j y hj => by
      have hj0 : j = 0 := by
        rcases Nat.eq_zero_or_pos j with h | h
        · exact h
        · rw [List.getElem?_eq_none (by simp; omega)] at hj; cases hj
      subst hj0
      rw [add_zero_addr _ rfl, hg.cell]; exact hj) (by intro y hy; simp at hy; subst hy; rfl) (by unfold maxLen; omega) (by omega) h0
  unfold Oper.wp execOp
  simp only [ho, resolve, invoke, builtin, Sem.run_bind, Sem.run_pure, Result.andThen_ok, List.map_toArray, List.map_cons, List.map_nil, hs, hx, hr]
  refine hK _ _ (h v' w' ⟨by simpa using hown, fun b hb => ?_⟩ hgr)
  rcases hat with e | e
  · exact hT.off b (by rw [← e]; exact hb)
  · rw [e] at hb; cases hb; exact hnew
/-- A disk of the call's own, behind a row of the call's own was written. -/
theorem Mid.grown {w W W' : World} {p : Nat} {role : Nat → Option Own} {d : DS} {row : Option Nat} (h : Mid w p role d W) (hg : W.grownBy W' row) (hr : ∀ k, row = some k → role k = none ∧ w.heap.size ≤ k) : Mid w p role d W' where
  at_ := h.at_.keep (fun k hk => by
      refine hg.block k (h.at_.inn k hk) fun e => hk (hr k e.symm).1) hg.size
  below := h.below.grown hg h.below.size fun k hk => (hr k hk).2
  old := h.old

theorem roleSet_ne {role : Nat → Option Own} {g k : Nat} {o : Own} (h : k ≠ g) : roleSet role g o k = role k := by unfold roleSet; rw [if_neg h]
theorem Mid.logged {w W W' : World} {p g : Nat} {role role' : Nat → Option Own} {d d' : DS} (h : Mid w p role d W) (hg : w.heap.size ≤ g) (hd : DiskAt W' p role' d') (hm : Moves W (roleSet role g .fuse) W' (roleSet role' g .fuse)) : Mid w p role' d' W' where
  at_ := hd
  below := h.below.trans (hm.below fun k hk => ⟨Nat.lt_of_lt_of_le hk h.below.size, by rw [roleSet_ne (by omega)]; exact h.old k hk⟩)
  old := fun k hk => by
    have := hm.old k (Nat.lt_of_lt_of_le hk h.below.size) (by rw [roleSet_ne (by omega)]; exact h.old k hk)
    rwa [roleSet_ne (by omega)] at this
theorem blank_open (n a e floor : Nat) (hae : a ≤ e) (hf : floor < 18446744073709551615) : (DS.blank n).recs a e floor = ([], a) ∧ (DS.blank n).logV a e floor = ⟨a, e, floor + 1⟩ := by
  have h1 : (DS.blank n).recs a e floor = ([], a) := by
    unfold DS.recs
    rw [show e + 1 - a = (e - a) + 1 by omega]
    simp only [recsFrom]
    rw [if_neg]
    rintro ⟨h, _⟩
    exact read_zero (get_blank n a) h
  refine ⟨h1, ?_⟩
  unfold DS.logV DS.logStamp
  rw [h1, top_zero (fun k => by rw [get_blank]; exact numS_zeros)]
  simp only [LogV.mk.injEq, true_and]
  omega

theorem src_alloc (w : World) (l : List Value) (t : TypeId) (fr : Nat × Nat) : Src (w.alloc (.cells l.toArray t fr)) (some ⟨w.heap.size, 0, none⟩) l := fun _ => ⟨_, rfl, fun j v hj => by
  have h1 : (w.alloc (.cells l.toArray t fr)).heap[w.heap.size]? = some (.cells l.toArray t fr) := heap_alloc_new w _
  have h2 : (⟨w.heap.size, 0, none⟩ : Addr).add j = ⟨w.heap.size, j, none⟩ := by
    unfold Addr.add
    split
    all_goals (first | rfl | (simp; done) | (congr 1; omega) | (simp_all; done))
  rw [h2]
  unfold World.cell?
  rw [h1]
  simpa using hj⟩
/-- A literal's bytes. -/
theorem barg_lit {w : World} {p : Nat} {role : Nat → Option Own} {d : DS} (h : DiskAt w p role d) (l : List UInt8) (hl : l.length ≤ 9223372036854775807) {t : TypeId} {fr : Nat × Nat} : BArg (w.alloc (.cells (l.map Bv).toArray t fr)) role (some ⟨w.heap.size, 0, none⟩) l l.length where
  src := src_alloc w _ t fr
  off := fun _ ad e => by cases e; exact h.fresh
  fits := Nat.le_refl _
  small := hl
theorem alive_pure : ∃ d1, appendD (DS.blank 6) ⟨1, 6, 1⟩ [97, 98] = (d1, ⟨2, 6, 2⟩, 0) ∧ d1.size = 6 ∧ d1.recs 1 6 0 = ([[97, 98]], 2) ∧ d1.queue = [] := by
  have hn : needN ([97, 98] : List UInt8).length = 1 := by decide
  obtain ⟨d1, e1, _, _, s1, q1, _, st1, o1⟩ := append_live (x := [97, 98]) (whole_blank 6) rfl rfl (by decide) (a := 1) (z := 6) (st := 1) (by rw [hn]; omega) (by decide) (by omega) (by omega)
  rw [hn] at e1 o1
  refine ⟨d1, e1, s1, ?_, q1⟩
  have hs6 : d1.size = 6 := s1
  have := recs_chain (d := d1) (e := 6) (by omega) [[97, 98]] 1 1 0 6 ⟨st1, trivial⟩ (by decide) (by omega) (by decide) (by decide) (by omega)
    (fun h _ => absurd h (read_zero (by
      show d1.get (1 + needN ([97, 98] : List UInt8).length) = zeros
      rw [hn, o1 _ (by omega)]; rfl)))
  exact this

set_option maxRecDepth 100000 in
set_option maxHeartbeats 800000 in
theorem logalive_any (w : World) : Calls Try.prog 34 #[] w (BoolPost w true) := by
  obtain ⟨d1, e1, s1, r1, q1⟩ := alive_pure
  obtain ⟨b1, b2⟩ := blank_open 6 1 6 0 (by omega) (by omega)
  have hO : ∀ W p role, DiskAt W p role (DS.blank 6) → Calls Try.prog 35 #[.pointer (some ⟨p, 0, none⟩), .int .i64 1, .int .i64 6, .int .u64 0] W (LogOpenPost W p ⟨1, 6, 1⟩ []) := fun W p role h => by
    have := logopen_any h 1 6 0 (by omega) (by decide) (by omega)
    rw [b1, b2] at this
    exact this
  obtain ⟨l2, hl2⟩ : ∃ l2, l2 = d1.logV 1 6 0 := ⟨_, rfl⟩
  have hO2 : ∀ W p role, DiskAt W p role d1 → Calls Try.prog 35 #[.pointer (some ⟨p, 0, none⟩), .int .i64 1, .int .i64 6, .int .u64 0] W (LogOpenPost W p l2 [[97, 98]]) := fun W p role h => by
    have := logopen_any h 1 6 0 (by omega) (by omega) (by omega)
    rw [r1, ← hl2] at this
    exact this
  have hA : ∀ W p g role ba, DiskAt W p role (DS.blank 6) → Row W g (LogV.cells p ⟨1, 6, 1⟩) 142 → role g = none → BArg W role ba [97, 98] 2 → Calls Try.prog 37 #[.pointer (some ⟨g, 0, none⟩), .slice ba 2 2] W (AppendPost p g role (d1, ⟨2, 6, 2⟩, 0) W) := fun W p g role ba h1 h2 h3 h4 => by
    have := append_any h1 h2 h3 (by decide) (by decide) (by decide) [97, 98] ba 2 h4 (by decide) (by simp [DS.blank])
    rw [e1] at this
    exact this
  have hR : ∀ W p g, Row W g (LogV.cells p ⟨2, 6, 2⟩) 142 → Calls Try.prog 38 #[.pointer (some ⟨g, 0, none⟩)] W fun e w' => e = .returned (.int .i64 4) ∧ Below W.heap.size W w' := fun W p g h => logroom_any h (by decide) (by decide)
  have kc := fun (w : World) (C : Array Value) (n c : Nat) => Lib.run_convert_bytes_const (P := Try.prog) w 23 5 C n c Try.underlying23 Try.underlying5
  have HO := Lib.hid hO
  have HO2 := Lib.hid hO2
  have HA := Lib.hid hA
  have HRM := Lib.hid hR
  clear hO hO2 hA hR e1 s1 r1 q1 b1 b2 hl2
  go_enter Try.func34, Try.ntmps34
  go_wp2_with (first
    | (go_at_call 16; refine (disk_blank _ 6 6 (by omega)).mono ?_; rintro e wA ⟨p, role, rfl, hdA, hbA, hrA⟩; have hmid : Mid w p role (DS.blank 6) wA := ⟨hdA, hbA, hrA⟩; have HM := Lib.hid hmid; clear hdA hbA hrA hmid)
    | (go_at_call 35; refine (HO.out _ p role HM.out.at_).mono ?_; clear HO; rintro e wB ⟨g, vB, rfl, hgB, hrowB, hLB, hbB⟩; obtain ⟨pB, cB, rfl, _, _⟩ := hLB.len; have HMB := Lib.hid (HM.out.grow hbB); have HG := Lib.hid (show w.heap.size ≤ g from Nat.le_trans HM.out.below.size hgB); have HRG := Lib.hid (HM.out.at_.off hgB); have HRW := Lib.hid hrowB; clear hgB hrowB hLB hbB)
    | (go_at_call 37; refine (HA.out _ p g role _ (HMB.out.at_.below ((Below.refl _ _).alloc (Nat.le_refl _) _)) (HRW.out.alloc _) HRG.out (barg_lit HMB.out.at_ [97, 98] (by decide) (t := 5))).mono ?_; clear HA; rintro e wC ⟨rfl, r3, hdC, hrwC, hrgC, hmC⟩; have HMC := Lib.hid ((HMB.out.grow ((Below.refl _ _).alloc (Nat.le_refl _) _)).logged HG.out hdC hmC); have HRWC := Lib.hid hrwC; clear hdC hrwC hrgC hmC)
    | (go_at_call 38; refine (HRM.out _ p g HRWC.out).mono ?_; clear HRM; rintro e wD ⟨rfl, hbD⟩; have HMD := Lib.hid (HMC.out.grow hbD); clear hbD)
    | (go_at_call 35; refine (HO2.out _ p r3 HMD.out.at_).mono ?_; clear HO2; rintro e wE ⟨g2, vE, rfl, hgE, hrowE, hLE, hbE⟩; obtain ⟨pE, cE, rfl, _, _⟩ := hLE.len; have HME := Lib.hid (HMD.out.grow hbE); have HLE := Lib.hid hLE.reads; clear hgE hrowE hLE hbE)
    | (go_at_call 40; refine (same_any _ pE (some ⟨wE.heap.size, 0, none⟩) [[97, 98]] [[97, 98]] cE 1 (HLE.out.below ((Below.refl _ _).alloc (Nat.le_refl _) _)) (src_alloc wE [Sv [97, 98]] 9 (0, 0)) (by decide)).mono ?_; rintro e wF ⟨rfl, hbF⟩; have HMF := Lib.hid ((HME.out.grow ((Below.refl _ _).alloc (Nat.le_refl _) _)).grow hbF); clear hbF))
  go_ret
  exact ⟨rfl, HMF.out.below⟩

end Go.Proofs.Ytpddbffamejgeaa
