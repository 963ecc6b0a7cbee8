/- LogRoom's walk. -/
import Derived.Test.YtpddbffamejgeaaAu
namespace Go.Proofs.Ytpddbffamejgeaa
open Go.RowKit Go.Proofs.YtpddbffamejgeaaW.PrintLast

theorem StrsAt.src {w0 W : World} {role : Nat → Option Own} {pa : Option Addr} {n c : Nat} {T : List (List UInt8)} (h : StrsAt w0 W role (.slice pa n c) T) : Src W pa (T.map Sv) := by
  obtain ⟨pb, c', e, hs, _⟩ := h.val
  cases e; exact hs
theorem StrsAt.empty (w0 W : World) (role : Nat → Option Own) (h : w0.heap.size ≤ W.heap.size) (hr : role W.heap.size = none) : StrsAt w0 (W.alloc (.cells #[] 9)) role (.slice (some ⟨W.heap.size, 0, none⟩) 0 0) [] :=
  ⟨World.ownsRow_made W #[] 0 h (Nat.zero_le _) rfl, fun b hb => by cases hb; exact hr⟩
/-- In the middle of LogRoom: T are the strings, R the records on the disk. -/
structure RoomSt (w W : World) (p g S : Nat) (role : Nat → Option Own) (d : DS) (a : Nat) (v : Value) (T R : List (List UInt8)) : Prop where
  mid : Mid w p role d W
  row : Row W g (LogV.cells p ⟨a, S, 6 + R.length⟩) 142
  rg : role g = none
  og : w.heap.size ≤ g
  strs : StrsAt w W (roleSet role g .fuse) v T
  pure_ : RoomP S d a R
theorem RoomSt.grow {w W W' : World} {p g S : Nat} {role : Nat → Option Own} {d : DS} {a : Nat} {v : Value} {T R : List (List UInt8)} (h : RoomSt w W p g S role d a v T R) (hb : Below W.heap.size W W') : RoomSt w W' p g S role d a v T R :=
  ⟨h.mid.grow hb, h.row.below hb h.row.lt, h.rg, h.og, h.strs.below hb, h.pure_⟩
theorem room_start {w W : World} {p g S : Nat} {role : Nat → Option Own} (hm : Mid w p role (DS.blank S) W) (hr : Row W g (LogV.cells p ⟨0, S, 6⟩) 142) (hg : role g = none) (ho : w.heap.size ≤ g) : RoomSt w (W.alloc (.cells #[] 9)) p g S role (DS.blank S) 0 (.slice (some ⟨W.heap.size, 0, none⟩) 0 0) [] [] :=
  ⟨hm.grow ((Below.refl _ _).alloc (Nat.le_refl _) _), hr.alloc _, hg, ho, StrsAt.empty w W _ hm.below.size (by rw [roleSet_ne (by have := hr.lt; omega)]; exact hm.at_.fresh), room_blank S⟩
theorem RoomSt.logged {w W W' : World} {p g S : Nat} {role role' : Nat → Option Own} {d d' : DS} {a a' : Nat} {v : Value} {T R R' : List (List UInt8)} (h : RoomSt w W p g S role d a v T R) (hd : DiskAt W' p role' d') (hr : Row W' g (LogV.cells p ⟨a', S, 6 + R'.length⟩) 142) (hg : role' g = none)
    (hm : Moves W (roleSet role g .fuse) W' (roleSet role' g .fuse)) (hp : RoomP S d' a' R') : RoomSt w W' p g S role' d' a' v T R' :=
  ⟨h.mid.logged h.og hd hm, hr, hg, h.og, h.strs.moves hm, hp⟩
/-- A string more. -/
theorem RoomSt.said {w W W' : World} {p g S : Nat} {role : Nat → Option Own} {d : DS} {a : Nat} {v v' : Value} {T T' R : List (List UInt8)} (h : RoomSt w W p g S role d a v T R) (hs : StrsAt w W' (roleSet role g .fuse) v' T') (hg : W.grownBy W' v.ownBlock) : RoomSt w W' p g S role d a v' T' R := by
  have hv : ∀ k, v.ownBlock = some k → k ≠ g ∧ role k = none ∧ w.heap.size ≤ k := fun k hk => by
    have h1 := h.strs.off k hk
    have h2 : k ≠ g := by rintro rfl; simp [roleSet] at h1
    rw [roleSet_ne h2] at h1
    exact ⟨h2, h1, (h.strs.own.lt k hk).1⟩
  exact ⟨h.mid.grown hg fun k hk => ⟨(hv k hk).2.1, (hv k hk).2.2⟩, h.row.of_block (hg.block g h.row.lt fun e => (hv g e.symm).1 rfl), h.rg, h.og, hs, h.pure_⟩

set_option maxRecDepth 100000 in
set_option maxHeartbeats 1600000 in
theorem room_any (w : World) (n : Int) (pa : Option Addr) (L : List (List UInt8)) (cap : Nat) (hL : ListsIn w pa L) :
    Calls Try.prog 6 #[.int .i64 n, .slice pa L.length cap] w (BoolPost w true) := by
  have HAL := Lib.hid (logalive_any w)
  have HL := Lib.hid hL
  clear hL
  by_cases c1 : n < 1
  · go_enter Try.func6, Try.ntmps6
    go_wp2_with (go_at_call 34; refine HAL.out.mono ?_; rintro e w1 ⟨rfl, hb1⟩; have HB1 := Lib.hid hb1; clear hb1)
    go_ret
    exact ⟨rfl, HB1.out⟩
  by_cases c2 : 60 < n
  · go_enter Try.func6, Try.ntmps6
    go_wp2_with (go_at_call 34; refine HAL.out.mono ?_; rintro e w1 ⟨rfl, hb1⟩; have HB1 := Lib.hid hb1; clear hb1)
    go_ret
    exact ⟨rfl, HB1.out⟩
  by_cases c3 : (40 : Int) < L.length
  · go_enter Try.func6, Try.ntmps6
    go_wp2_with (go_at_call 34; refine HAL.out.mono ?_; rintro e w1 ⟨rfl, hb1⟩; have HB1 := Lib.hid hb1; clear hb1)
    go_ret
    exact ⟨rfl, HB1.out⟩
  obtain ⟨S, rfl⟩ : ∃ S : Nat, n = S := ⟨n.toNat, by omega⟩
  have hO : ∀ W p role, DiskAt W p role (DS.blank S) → Calls Try.prog 35 #[.pointer (some ⟨p, 0, none⟩), .int .i64 0, .int .i64 S, .int .u64 5] W (LogOpenPost W p ⟨0, S, 6⟩ []) := fun W p role h => by
    obtain ⟨b1, b2⟩ := blank_open S 0 S 5 (by omega) (by omega)
    have := logopen_any h 0 S 5 (by omega) (Nat.le_refl _) (by omega)
    rw [b1, b2] at this
    exact this
  have hBL : ∀ W, Calls Try.prog 16 #[.int .i64 S] W (NewPost W S) := fun W => disk_blank W S S (by omega)
  have HO := Lib.hid hO
  have HBL := Lib.hid hBL
  clear hO hBL
  go_enter Try.func6, Try.ntmps6
  go_wp2_with (first
    | (go_at_call 34; refine HAL.out.mono ?_; clear HAL; rintro e w1 ⟨rfl, hb1⟩; have HB1 := Lib.hid hb1; clear hb1)
    | (go_at_call 16; refine (HBL.out _).mono ?_; clear HBL; rintro e wA ⟨p, role, rfl, hdA, hbA, hrA⟩; have hmid : Mid w p role (DS.blank S) wA := ⟨hdA, HB1.out.trans (hbA.mono HB1.out.size), fun k hk => hrA k (Nat.lt_of_lt_of_le hk HB1.out.size)⟩; have HM := Lib.hid hmid; clear hdA hbA hrA hmid)
    | (go_at_call 35; refine (HO.out _ p role HM.out.at_).mono ?_; clear HO; rintro e wB ⟨g, vB, rfl, hgB, hrowB, hLB, hbB⟩; have hst := room_start (HM.out.grow hbB) hrowB (HM.out.at_.off hgB) (Nat.le_trans HM.out.below.size hgB); have HST := Lib.hid hst; clear hgB hrowB hLB hbB hst))
  go_loopw [9, 10, 53] (fun rm v k wr => ∃ (j : Nat) (r : Nat → Option Own) (d : DS) (a q : Nat) (T : List (List UInt8)), j ≤ L.length ∧ T.length ≤ j ∧ a + q = S ∧ k = .int .i64 j ∧ rm = .int .i64 q ∧ Hid (RoomSt w wr p g S r d a v T T))
    (fun _ _ k _ => L.length - (intOf k).toNat)
  case atStart => exact ⟨0, role, DS.blank S, 0, S, [], by omega, by simp, by omega, rfl, rfl, HST⟩
  case round =>
    obtain ⟨j, r, d, a, q, T, hj, hTj, haq, rfl, rfl, hst⟩ := hrel
    clear HST HB1 HM
    obtain ⟨pv, cv, rfl, _, _⟩ := hst.out.strs.val
    have HAQ := Lib.hid haq
    have hq60 : q ≤ 60 := by omega
    clear haq
    by_cases hlt : j < L.length
    · obtain ⟨x, hx⟩ : ∃ x, L[j]? = some x := ⟨L[j], List.getElem?_eq_getElem hlt⟩
      obtain ⟨ad, xa, xc, rfl, hc0, hs, hf, hm⟩ := HL.out j x hx
      have hc : wr.cell? (ad.add j) = some (.slice xa x.length xc) := by
        have := hst.out.mid.below.cell (block_lt_of_cell hc0)
        rw [this]; exact hc0
      have HS := Lib.hid hs
      have HC0 := Lib.hid hc0
      have HX := Lib.hid hx
      clear hs hc0 hx
      by_cases c4 : (5000 : Int) < x.length
      · go_wp2
        go_ret
        exact ⟨rfl, hst.out.mid.below⟩
      obtain ⟨N, hN⟩ : ∃ N, N = needN x.length := ⟨_, rfl⟩
      have hneed := fun W => need_any x.length (by omega) W
      rw [← hN] at hneed
      have HN := Lib.hid hneed
      have hN2 : N ≤ 255 := by rw [hN]; unfold needN; split; omega; exact spanN_le _
      clear hneed
      obtain ⟨X, hX⟩ : ∃ X, X = appendD d ⟨a, S, 6 + T.length⟩ x := ⟨_, rfl⟩
      have hap : Calls Try.prog 37 #[.pointer (some ⟨g, 0, none⟩), .slice xa x.length xc] wr (AppendPost p g r X wr) := by
        rw [hX]
        exact append_any hst.out.mid.at_ hst.out.row hst.out.rg hst.out.pure_.fits (by rw [hst.out.pure_.size]; exact Nat.le_refl _) (by show 6 + T.length < _; omega) x xa xc (hst.out.mid.barg HS.out hf (by unfold maxLen at hm; omega)) (by omega) (by rw [hst.out.pure_.queue]; simp)
      have hroom : ∀ (W : World) (a' q' : Nat) (R : List (List UInt8)), a' + q' = S → Row W g (LogV.cells p ⟨a', S, 6 + R.length⟩) 142 → Calls Try.prog 38 #[.pointer (some ⟨g, 0, none⟩)] W fun e w' => e = .returned (.int .i64 (q' : Nat)) ∧ Below W.heap.size W w' := fun W a' q' R h1 h2 => by
        have := logroom_any h2 (by show a' ≤ S; omega) (by show S ≤ 2048; omega)
        have e : S - a' = q' := by omega
        rw [show (LogV.end_ ⟨a', S, 6 + R.length⟩) - (LogV.at_ ⟨a', S, 6 + R.length⟩) = q' from e] at this
        exact this
      have hstamp : ∀ (W : World) (a' : Nat) (R : List (List UInt8)), Row W g (LogV.cells p ⟨a', S, 6 + R.length⟩) 142 → Calls Try.prog 39 #[.pointer (some ⟨g, 0, none⟩)] W fun e w' => e = .returned (.int .u64 (6 + (R.length : Int))) ∧ W = w' := fun W a' R h2 => by
        have := logstamp_any h2
        rw [show (((LogV.stamp ⟨a', S, 6 + R.length⟩ : Nat)) : Int) = 6 + (R.length : Int) by show ((6 + R.length : Nat) : Int) = _; omega] at this
        exact this
      have HAP := Lib.hid hap
      have HROOM := Lib.hid hroom
      have HSTAMP := Lib.hid hstamp
      clear hap hroom hstamp
      by_cases c5 : (4096 : Int) < x.length
      · have hN0 : N = 0 := by rw [hN]; unfold needN; rw [if_pos (by omega)]
        have hX2 : X = (d, ⟨a, S, 6 + T.length⟩, 101) := by rw [hX]; unfold appendD; rw [if_pos (by rw [← hN]; exact hN0)]
        have HX2 := Lib.hid hX2
        subst hN0
        clear hN hX hX2
        go_wp2_with (first
          | (go_at_call 36; refine (HN.out _).mono ?_; rintro e w' ⟨rfl, rfl⟩)
          | (go_at_call 37; refine HAP.out.mono ?_; clear HAP; rintro e w2 ⟨rfl, r2, hd2, hrw2, hrg2, hm2⟩; rw [HX2.out] at hd2 hrw2 ⊢; have HST2 := Lib.hid (hst.out.logged hd2 hrw2 hrg2 hm2 hst.out.pure_); clear hd2 hrw2 hrg2 hm2)
          | (go_at_call 38; refine (HROOM.out _ a q T HAQ.out HST2.out.row).mono ?_; rintro e w3 ⟨rfl, hb3⟩; have HST3 := Lib.hid (HST2.out.grow hb3); clear hb3)
          | (go_at_call 39; refine (HSTAMP.out _ a T HST3.out.row).mono ?_; rintro e w' ⟨rfl, rfl⟩))
        exact ⟨⟨j + 1, r2, d, a, q, T, by omega, by omega, HAQ.out, by go_num, rfl, HST3⟩, by simp [intOf]; omega⟩
      have hN0 : N ≠ 0 := by rw [hN]; unfold needN; rw [if_neg (by omega)]; have := spanN_pos (n := x.length + 4) (by omega); omega
      by_cases c6 : q < N
      · have c6' : (q : Int) < N := by omega
        have hX2 : X = (d, ⟨a, S, 6 + T.length⟩, 102) := by
          have := HAQ.out
          rw [hX]; unfold appendD
          rw [if_neg (by rw [← hN]; exact hN0), if_pos (by show _ > S - a; omega)]
        have HX2 := Lib.hid hX2
        clear hN hX hX2
        go_wp2_with (first
          | (go_at_call 36; refine (HN.out _).mono ?_; rintro e w' ⟨rfl, rfl⟩)
          | (go_at_call 37; refine HAP.out.mono ?_; clear HAP; rintro e w2 ⟨rfl, r2, hd2, hrw2, hrg2, hm2⟩; rw [HX2.out] at hd2 hrw2 ⊢; have HST2 := Lib.hid (hst.out.logged hd2 hrw2 hrg2 hm2 hst.out.pure_); clear hd2 hrw2 hrg2 hm2)
          | (go_at_call 38; refine (HROOM.out _ a q T HAQ.out HST2.out.row).mono ?_; rintro e w3 ⟨rfl, hb3⟩; have HST3 := Lib.hid (HST2.out.grow hb3); clear hb3)
          | (go_at_call 39; refine (HSTAMP.out _ a T HST3.out.row).mono ?_; rintro e w' ⟨rfl, rfl⟩))
        exact ⟨⟨j + 1, r2, d, a, q, T, by omega, by omega, HAQ.out, by go_num, rfl, HST3⟩, by simp [intOf]; omega⟩
      · obtain ⟨d', e', hp'⟩ := room_step hst.out.pure_ x (by omega) (by have := HAQ.out; omega) (by omega)
        obtain ⟨T4, hT4⟩ : ∃ T4, T4 = T ++ [x] := ⟨_, rfl⟩
        have hT4l : T4.length = T.length + 1 := by rw [hT4]; simp
        rw [← hT4, ← hN] at hp'
        have hX2 : X = (d', ⟨a + N, S, 6 + T4.length⟩, 0) := by rw [hX, e', hT4l, ← hN]
        have c6' : ¬ (q : Int) < N := by omega
        have c6'' : (N : Int) ≤ q := by omega
        have haq2 : Hid (a + N + (q - N) = S) := Lib.hid (by have := HAQ.out; omega)
        have hqn : ((q - N : Nat) : Int) = (q : Int) - (N : Int) := by omega
        have hroom2 : ∀ (W : World), Row W g (LogV.cells p ⟨a + N, S, 6 + T4.length⟩) 142 → Calls Try.prog 38 #[.pointer (some ⟨g, 0, none⟩)] W fun e w' => e = .returned (.int .i64 ((q : Int) - (N : Int))) ∧ Below W.heap.size W w' := fun W h2 => by
          rw [← hqn]; exact HROOM.out W (a + N) (q - N) T4 haq2.out h2
        have hT4b : T4.length ≤ 41 := by omega
        have HQN := Lib.hid hqn
        have HX2 := Lib.hid hX2
        have HP := Lib.hid hp'
        have HT4 := Lib.hid hT4
        have HT4L := Lib.hid hT4l
        have HROOM2 := Lib.hid hroom2
        clear hN hX hX2 hp' hT4 hT4l e' hqn hroom2 HROOM
        go_wp2_with (first
          | (go_at_call 36; refine (HN.out _).mono ?_; rintro e w' ⟨rfl, rfl⟩)
          | (go_at_call 37; refine HAP.out.mono ?_; clear HAP; rintro e w2 ⟨rfl, r2, hd2, hrw2, hrg2, hm2⟩; rw [HX2.out] at hd2 hrw2 ⊢; have HST2 := Lib.hid (hst.out.logged hd2 hrw2 hrg2 hm2 HP.out); clear hd2 hrw2 hrg2 hm2; have hcv : (convert 23 9 (.slice xa x.length xc)).run Try.prog w2 = .ok (.string (strL x)) w2 := run_toString (HS.out.below HST2.out.mid.below))
          | (at_builtin; refine wpl_append_str (o := ⟨some 75, _, _, _, _, _⟩) rfl (.tmp 71) (.tmp 74) rfl (HST2.out.strs.below ((Below.refl _ _).alloc (Nat.le_refl _) (.cells #[Sv x] 9))) rfl w2.heap.size rfl x (Row.new w2 [Sv x] 9) (by have := HST2.out.row.lt; rw [roleSet_ne (by simp; omega)]; exact HST2.out.mid.at_.off (by simp)) (by have := HST2.out.mid.below.size; simp; omega) (by omega) ?_; intro v4 w4 hs4 hg4; rw [← HT4.out] at hs4; obtain ⟨p4, c4, rfl, _, _⟩ := hs4.val; have HST4 := Lib.hid ((HST2.out.grow ((Below.refl _ _).alloc (Nat.le_refl _) (.cells #[Sv x] 9))).said hs4 hg4); clear hs4 hg4 hcv)
          | (go_at_call 38; refine (HROOM2.out _ HST4.out.row).mono ?_; rintro e w5 ⟨rfl, hb5⟩; have HST5 := Lib.hid (HST4.out.grow hb5); clear hb5)
          | (go_at_call 39; refine (HSTAMP.out _ (a + N) T4 HST5.out.row).mono ?_; rintro e w' ⟨rfl, rfl⟩))
        exact ⟨⟨j + 1, r2, d', a + N, q - N, T4, by omega, by rw [HT4L.out]; omega, haq2.out, by go_num, by rw [HQN.out], HST5⟩, by simp [intOf]; omega⟩
    · obtain rfl : j = L.length := by omega
      obtain ⟨o1, o2⟩ := room_open hst.out.pure_
      have hO1 : ∀ W, RoomSt w W p g S r d a (.slice pv T.length cv) T T → Calls Try.prog 35 #[.pointer (some ⟨p, 0, none⟩), .int .i64 0, .int .i64 S, .int .u64 5] W (LogOpenPost W p (d.logV 0 S 5) T) := fun W h => by
        have := logopen_any h.mid.at_ 0 S 5 (by omega) (by rw [h.pure_.size]; exact Nat.le_refl _) (by omega)
        rw [o1] at this; exact this
      have hO2 : ∀ W, RoomSt w W p g S r d a (.slice pv T.length cv) T T → Calls Try.prog 35 #[.pointer (some ⟨p, 0, none⟩), .int .i64 0, .int .i64 S, .int .u64 (5 + (T.length : Int))] W (LogOpenPost W p (d.logV 0 S (5 + T.length)) []) := fun W h => by
        have := logopen_any h.mid.at_ 0 S (5 + T.length) (by omega) (by rw [h.pure_.size]; exact Nat.le_refl _) (by omega)
        rw [o2, show ((5 + T.length : Nat) : Int) = 5 + (T.length : Int) by omega] at this; exact this
      have HO1 := Lib.hid hO1
      have HO2 := Lib.hid hO2
      have HTL : Hid (T.length ≤ 40) := Lib.hid (by omega)
      clear hO1 hO2 o1 o2
      go_wp2_with (first
        | (go_at_call 35; refine (HO1.out _ hst.out).mono ?_; clear HO1; rintro e w2 ⟨g2, v2, rfl, hg2, hrow2, hL2, hb2⟩; obtain ⟨p2, c2', rfl, _, _⟩ := hL2.len; have HST2 := Lib.hid (hst.out.grow hb2); have HL2 := Lib.hid hL2.reads; clear hg2 hrow2 hL2 hb2)
        | (go_at_call 35; refine (HO2.out _ HST2.out).mono ?_; clear HO2; rintro e w3 ⟨g3, v3, rfl, hg3, hrow3, hL3, hb3⟩; obtain ⟨p3, c3', rfl, _, _⟩ := hL3.len; have HST3 := Lib.hid (HST2.out.grow hb3); have HL3 := Lib.hid (HL2.out.below hb3); clear hg3 hrow3 hL3 hb3)
        | (go_at_call 40; refine (same_any _ p2 pv T T c2' cv HL3.out HST3.out.strs.src (by have := HTL.out; omega)).mono ?_; rintro e w4 ⟨rfl, hb4⟩; have HST4 := Lib.hid (HST3.out.grow hb4); clear hb4))
      go_ret
      exact ⟨rfl, HST4.out.mid.below⟩

end Go.Proofs.Ytpddbffamejgeaa
