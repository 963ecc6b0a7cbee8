import Derived.Test.YtpddbffamejgeaaP
import Derived.Test.YtpddbffamejgeaaR
namespace Go.Proofs.Ytpddbffamejgeaa
open Go.RowKit

def FlushPost (p : Nat) (role : Nat → Option Own) (d : DS) (w : World) (e : Ending) (w' : World) : Prop :=
  e = .returned (.int .i64 (d.flush.2 : Nat)) ∧ DiskAt w' p role d.flush.1 ∧ Moves w role w' role

theorem flush_calls : ∀ (args : Array Value) (w : World), (callFunc 73 args).run Try.prog w = .ok (.enter 73 args) w := fun args w =>
  Go.Proofs.YtpddbffamejgeaaW.PrintLast.enters_ Try.func73 (by kernel_rfl) rfl args w
theorem power_calls : ∀ (args : Array Value) (w : World), (callFunc 76 args).run Try.prog w = .ok (.enter 76 args) w := fun args w =>
  Go.Proofs.YtpddbffamejgeaaW.PrintLast.enters_ Try.func76 (by kernel_rfl) rfl args w
theorem all64 (k : Int) (w : World) : Calls Try.prog 73 #[.int .i64 k] w fun e w' => e = .returned (.int .i64 64) ∧ w = w' := by
  go_enter Try.func73, Try.ntmps73
  go_wp2
  go_ret
  exact ⟨rfl, rfl⟩

set_option maxRecDepth 100000 in
set_option maxHeartbeats 800000 in
theorem flush_any {w : World} {p : Nat} {role : Nat → Option Own} {d : DS} (h : DiskAt w p role d) (hq : d.queue.length ≤ 1000000) :
    Calls Try.prog 24 #[.pointer (some ⟨p, 0, none⟩)] w (FlushPost p role d w) := by
  obtain ⟨M, wayV, actsV, f, h⟩ := h
  have HA := Lib.hid (act_any h)
  clear h
  cases hd : actD d.fuse d.dead with
  | true =>
    rw [hd] at HA
    have hfl : d.flush = (d.act, 82) := by simp [DS.flush, DS.act, hd]
    have HD := Lib.hid hd
    have HFl := Lib.hid hfl
    clear hd hfl
    go_enter Try.func24, Try.ntmps24
    go_wp2_with (go_at_call 69; refine HA.out.mono ?_; clear HA; rintro e w1 ⟨rfl, hrep, hmv, hsz1⟩; have HR := Lib.hid hrep; have HM := Lib.hid hmv; clear hrep hmv hsz1)
    go_ret
    unfold FlushPost
    rw [HFl.out]
    exact ⟨rfl, ⟨M, wayV, actsV, f, by simpa [DS.act, HD.out] using HR.out⟩, HM.out⟩
  | false =>
    rw [hd] at HA
    have hfl : d.flush = ({ d.act with base := landQ (fun _ => 64) d.queue d.base, queue := [] }, 0) := by simp [DS.flush, DS.act, hd]
    have HD := Lib.hid hd
    have HFl := Lib.hid hfl
    clear hd hfl
    go_enter Try.func24, Try.ntmps24
    go_wp2_with (first | (go_at_call 69; refine HA.out.mono ?_; clear HA; rintro e w1 ⟨rfl, hrep, hmv, hsz1⟩; have HR := Lib.hid hrep; have HM := Lib.hid hmv; clear hrep hmv hsz1) | (go_at_call 72; refine (arrive_any HR.out 73 flush_calls #[] (fun _ => 64) (fun _ => 64) (fun _ => by omega) (tickOK_of _) (by rw [length_tickOf]; exact hq) (fun W _ k _ => all64 k W)).mono ?_; rintro e w2 ⟨rfl, wayV', f', hrep2, hmv2⟩; have HR2 := Lib.hid hrep2; have HM2 := Lib.hid hmv2; clear hrep2 hmv2))
    go_ret
    unfold FlushPost
    rw [HFl.out]
    refine ⟨rfl, ⟨M, wayV', actsV, f', ?_⟩, HM.out.trans HM2.out⟩
    have := HR2.out
    rw [landed_eq, cleared_all, length_tickOf] at this
    simpa [DS.act, HD.out, landQ, tickOf, tickFrom] using this


def FusePost (p : Nat) (role : Nat → Option Own) (d : DS) (w : World) (e : Ending) (w' : World) : Prop :=
  e = .returned (.tuple #[]) ∧ ∃ role', DiskAt w' p role' d ∧ Moves w role w' role'

theorem RepX.noFuse {w : World} {p : Nat} {role : Nat → Option Own} {M : Nat} {wayV actsV : Value} {f : Int → Option Value} {size : Nat} {base : Nat → Sec} {rest : Nat → List Sec} {tick : List (Nat × Nat)} {fuse : Option Nat} {dead : Bool}
    (h : RepX w p role M wayV actsV f size base rest tick fuse dead) : RepX (w.setCell ⟨p, 3, none⟩ (.pointer none)) p role M wayV (.pointer none) f size base rest tick none dead :=
  h.field (h.row.set 3 (.pointer none)) (fun k _ hne _ => heap_setCell_other _ _ _ _ hne) (by simp [World.setCell]) rfl
theorem RepX.newFuse {w : World} {p : Nat} {role : Nat → Option Own} {M : Nat} {wayV actsV : Value} {f : Int → Option Value} {size : Nat} {base : Nat → Sec} {rest : Nat → List Sec} {tick : List (Nat × Nat)} {dead : Bool}
    (h : RepX w p role M wayV actsV f size base rest tick none dead) {b n : Nat} (hn : n ≤ 9223372036854775807) {t : TypeId} (hb : Row w b [.int .i64 (n : Int)] t) (hr : role b = none) :
    RepX (w.setCell ⟨p, 3, none⟩ (.pointer (some ⟨b, 0, none⟩))) p (roleSet role b .fuse) M wayV (.pointer (some ⟨b, 0, none⟩)) f size base rest tick (some n) dead ∧ Moves w role (w.setCell ⟨p, 3, none⟩ (.pointer (some ⟨b, 0, none⟩))) role := by
  have hbp : b ≠ p := by rintro rfl; rw [h.rp] at hr; cases hr
  have h1 := h.field (actsV' := .pointer none) (fuse' := none) (dead' := dead) (w' := w) (by have := h.fuse; have e : actsV = .pointer none := this; subst e; exact h.row) (fun _ _ _ _ => rfl) (Nat.le_refl _) rfl
  have hne : ∀ k, role k ≠ none → k ≠ b := fun k hk e => hk (by rw [e]; exact hr)
  have h2 : RepX w p (roleSet role b .fuse) M wayV actsV f size base rest tick none dead := by
    refine ⟨by simp [roleSet, hbp.symm, h.rp], h.row, by simp [roleSet, hne M (by rw [h.rM]; simp), h.rM], h.map, h.way, fun g hg => by simp [roleSet, hne g (by rw [h.rway g hg]; simp), h.rway g hg], h.fuse, fun k => ?_, h.len, h.sz, fun k hk => ?_⟩
    · have hs := h.shape k
      cases hf : f k with
      | none => rw [hf] at hs; exact hs
      | some v => rw [hf] at hs; exact ⟨hs.1, fun g hg => by simp [roleSet, hne g (by rw [hs.2 g hg]; simp), hs.2 g hg]⟩
    · by_cases hkb : k = b
      · subst hkb; exact hb.lt
      · simp only [roleSet, hkb, if_false] at hk; exact h.inn k hk
  refine ⟨h2.field (h2.row.set 3 (.pointer (some ⟨b, 0, none⟩))) (fun k _ hk _ => heap_setCell_other _ _ _ _ hk) (by simp [World.setCell]) ⟨hn, b, rfl, by simp [roleSet], t, hb.other _ _ hbp⟩, Moves.setCell _ _ (by rw [h.rp]; simp)⟩

set_option maxRecDepth 100000 in
set_option maxHeartbeats 800000 in
theorem fuse_any {w : World} {p : Nat} {role : Nat → Option Own} {d : DS} (h : DiskAt w p role d) (n : Int) (hn : n ≤ 9223372036854775807) :
    Calls Try.prog 26 #[.pointer (some ⟨p, 0, none⟩), .int .i64 n] w (FusePost p role (d.setFuse n) w) := by
  obtain ⟨M, wayV, actsV, f, h⟩ := h
  have hbe := (Below.refl w.heap.size w).alloc (Nat.le_refl _) (.cells #[.int .i64 n] 3)
  have hr0 := h.fresh
  have h1 := h.below hbe
  have hb := Row.new w [.int .i64 n] 3
  have hpb : p ≠ w.heap.size := by rintro rfl; rw [h.rp] at hr0; cases hr0
  have C3 : (w.alloc (.cells #[.int .i64 n] 3)).cell? ⟨p, 3, none⟩ = some actsV := by rw [h1.row.cell]; rfl
  have F3 : (w.alloc (.cells #[.int .i64 n] 3)).frozen? ⟨p, 3, none⟩ = false := h1.row.thaw 3
  have C3w : w.cell? ⟨p, 3, none⟩ = some actsV := by rw [h.row.cell]; rfl
  have F3w : w.frozen? ⟨p, 3, none⟩ = false := h.row.thaw 3
  have H1 := Lib.hid h1
  have HB := Lib.hid hb
  have HBe := Lib.hid hbe
  have HR0 := Lib.hid hr0
  clear h h1 hb hbe hr0
  by_cases h0 : 0 ≤ n
  · go_enter Try.func26, Try.ntmps26
    go_wp2
    go_end0
    have h2 := H1.out.noFuse
    have hb2 := HB.out.other ⟨p, 3, none⟩ (.pointer none) (fun e => hpb e.symm)
    have h3 := h2.newFuse (n := n.toNat) (by omega) (by rw [Int.toNat_of_nonneg h0]; exact hb2) HR0.out
    refine ⟨rfl, roleSet role w.heap.size .fuse, ⟨M, wayV, .pointer (some ⟨w.heap.size, 0, none⟩), f, ?_⟩, ?_⟩
    · have e : (d.setFuse n).fuse = some n.toNat := by simp [DS.setFuse, h0]
      rw [e]; exact h3.1
    · have hm := ((Moves.of_below (role := role) HBe.out).trans (Moves.setCell ⟨p, 3, none⟩ (.pointer none) (by rw [H1.out.rp]; simp))).trans h3.2
      exact ⟨hm.os, hm.tape, hm.output, hm.size, hm.block, fun k hk hn => by simp [roleSet, Nat.ne_of_lt hk, hn]⟩
  · go_enter Try.func26, Try.ntmps26
    go_wp2
    go_end0
    refine ⟨rfl, role, ⟨M, wayV, .pointer none, f, ?_⟩, (Moves.of_below (role := role) HBe.out).trans (Moves.setCell ⟨p, 3, none⟩ (.pointer none) (by rw [H1.out.rp]; simp))⟩
    have e : (d.setFuse n).fuse = none := by simp [DS.setFuse]; omega
    rw [e]; exact H1.out.noFuse

/-- What the closure of Power reads. -/
theorem kept_any (keep : List Int) (W : World) (b : Nat) (ka : Option Addr) (kc : Nat) (hb : W.cell? ⟨b, 0, none⟩ = some (.slice ka keep.length kc)) (hk : Src W ka (keep.map (Value.int .i64))) (hkl : keep.length ≤ 140737488355328) (k : Nat) :
    Calls Try.prog 76 #[.int .i64 k, .pointer (some ⟨b, 0, none⟩)] W fun e W' => e = .returned (.int .i64 (keep[k]?.getD 0)) ∧ W = W' := by
  by_cases hlt : k < keep.length
  · obtain ⟨ad, rfl, hc⟩ := hk (by simp; omega)
    have hck : W.cell? (ad.add k) = some (.int .i64 keep[k]) := hc k _ (by simp [hlt])
    have e : keep[k]?.getD 0 = keep[k] := by simp [hlt]
    rw [e]
    generalize keep[k] = z at *
    clear hc hk e
    go_enter Try.func76, Try.ntmps76
    go_wp2
    go_ret
    exact ⟨rfl, rfl⟩
  · have e : keep[k]?.getD 0 = 0 := by rw [List.getElem?_eq_none (by omega)]; rfl
    rw [e]
    clear hk e
    go_enter Try.func76, Try.ntmps76
    go_wp2
    go_ret
    exact ⟨rfl, rfl⟩

set_option maxRecDepth 100000 in
set_option maxHeartbeats 800000 in
theorem power_any {w : World} {p : Nat} {role : Nat → Option Own} {d : DS} (h : DiskAt w p role d) (hq : d.queue.length ≤ 1000000) (keep : List Int) (ka : Option Addr) (kc : Nat) (hk : Src w ka (keep.map (Value.int .i64))) (hkr : 0 < keep.length → ∀ ad, ka = some ad → role ad.block = none) (hkl : keep.length ≤ 140737488355328) :
    Calls Try.prog 28 #[.pointer (some ⟨p, 0, none⟩), .slice ka keep.length kc] w (FusePost p role (d.power keep) w) := by
  obtain ⟨M, wayV, actsV, f, h⟩ := h
  have hbe := (Below.refl w.heap.size w).alloc (Nat.le_refl _) (.cells #[.slice ka keep.length kc] 46)
  have hr0 := h.fresh
  have h1 := h.below hbe
  have hb := Row.new w [.slice ka keep.length kc] 46
  have hk1 := hk.below hbe
  have HK := Lib.hid (p := ∀ W, Moves (w.alloc (.cells #[.slice ka keep.length kc] 46)) role W role → ∀ k, k < (tickOf d.queue).length → Calls Try.prog 76 (#[.int .i64 k] ++ #[.pointer (some ⟨w.heap.size, 0, none⟩)]) W fun e W' => e = .returned (.int .i64 (keep[k]?.getD 0)) ∧ W = W')
    (fun W hW k _ => by
      rw [show (#[Value.int .i64 (k : Int)] ++ #[Value.pointer (some ⟨w.heap.size, 0, none⟩)] : Array Value) = #[.int .i64 k, .pointer (some ⟨w.heap.size, 0, none⟩)] from rfl]
      have hs : Src W ka (keep.map (Value.int .i64)) := by
        by_cases hl : 0 < keep.length
        · exact hW.src hk1 (hkr hl)
        · have : keep = [] := List.eq_nil_of_length_eq_zero (by omega)
          subst this; exact Src.nil _ _
      exact kept_any keep W w.heap.size ka kc (by rw [(hW.row hb hr0).cell]; rfl) hs hkl k)
  have hkn : ∀ k, (keptOf keep k : Int) = min (max (keep[k]?.getD 0) 0) 64 := fun k => by unfold keptOf; omega
  have HARR := Lib.hid (arrive_any h1 76 power_calls #[.pointer (some ⟨w.heap.size, 0, none⟩)] (fun k => keep[k]?.getD 0) (keptOf keep) hkn (tickOK_of _) (by rw [length_tickOf]; exact hq) HK.out)
  have HBe := Lib.hid hbe
  clear h h1 hb hbe hr0 hk hk1 hkr HK hkn
  go_enter Try.func28, Try.ntmps28
  obtain ⟨d1, hd1⟩ : ∃ d1 : DS, d1 = { d with base := landQ (keptOf keep) d.queue d.base, queue := [] } := ⟨_, rfl⟩
  have hdp : d.power keep = { d1.setFuse (-1) with dead := false } := by rw [hd1]; simp [DS.power, DS.setFuse]
  have HD1 := Lib.hid hd1
  have HDP := Lib.hid hdp
  clear hd1 hdp
  go_wp2_with (first | (go_at_call 72; refine HARR.out.mono ?_; clear HARR; rintro e w2 ⟨rfl, wayV', f', hrep2, hmv2⟩; rw [landed_eq, cleared_all, length_tickOf] at hrep2; have HD2 := Lib.hid (p := DiskAt w2 p role d1) (by rw [HD1.out]; exact ⟨M, wayV', actsV, f', hrep2⟩); have HM2 := Lib.hid hmv2; clear hrep2 hmv2) | (go_at_call 26; refine (fuse_any HD2.out (-1) (by omega)).mono ?_; rintro e w3 ⟨rfl, role3, ⟨M3, way3, acts3, f3, hr3⟩, hm3⟩; have C4 : w3.cell? ⟨p, 4, none⟩ = some (.bool d1.dead) := (by rw [hr3.row.cell]; rfl); have F4 : w3.frozen? ⟨p, 4, none⟩ = false := hr3.row.thaw 4; have HR3 := Lib.hid hr3; have HM3 := Lib.hid hm3; clear hr3 hm3))
  go_end0
  refine ⟨rfl, role3, ?_, (((Moves.of_below (role := role) HBe.out).trans HM2.out).trans HM3.out).trans (Moves.setCell _ _ (by rw [HR3.out.rp]; simp))⟩
  rw [HDP.out]
  exact ⟨M3, way3, acts3, f3, HR3.out.setDead false⟩

/-- A sector that is read. -/
theorem disk_get {w : World} {p : Nat} {role : Nat → Option Own} {d : DS} (h : DiskAt w p role d) (k : Nat) (hk : k < d.size) :
    Calls Try.prog 19 #[.pointer (some ⟨p, 0, none⟩), .int .i64 k] w fun e w' => e = .returned (.tuple #[.agg ((d.get k).map Bv).toArray, .int .i64 0]) ∧ Below w.heap.size w w' := by
  obtain ⟨M, wayV, actsV, f, h⟩ := h
  exact get_in h k hk
theorem disk_get_out {w : World} {p : Nat} {role : Nat → Option Own} {d : DS} (h : DiskAt w p role d) (i : Int) (hi : ¬ (0 ≤ i ∧ i < d.size)) :
    Calls Try.prog 19 #[.pointer (some ⟨p, 0, none⟩), .int .i64 i] w fun e w' => e = .returned (.tuple #[.agg (zeros.map Bv).toArray, .int .i64 81]) ∧ Below w.heap.size w w' := by
  obtain ⟨M, wayV, actsV, f, h⟩ := h
  exact get_out h i hi
def PutPost (p : Nat) (role : Nat → Option Own) (x : DS × Nat) (w : World) (e : Ending) (w' : World) : Prop :=
  e = .returned (.int .i64 (x.2 : Nat)) ∧ ∃ role', DiskAt w' p role' x.1 ∧ Moves w role w' role'
theorem disk_put {w : World} {p : Nat} {role : Nat → Option Own} {d : DS} (h : DiskAt w p role d) (k : Nat) (hk : k < d.size) (s : Sec) (hs : s.length = 64) (hq : d.queue.length ≤ 1000000) :
    Calls Try.prog 20 #[.pointer (some ⟨p, 0, none⟩), .int .i64 k, .agg (s.map Bv).toArray] w (PutPost p role (d.put k s) w) := by
  obtain ⟨M, wayV, actsV, f, h⟩ := h
  cases hd : actD d.fuse d.dead with
  | true =>
    have e : d.put k s = (d.act, 82) := by simp [DS.put, DS.act, hd]
    rw [e]
    refine (put_dead h k hk s hd).mono fun _ _ ⟨he, hr, hm⟩ => ⟨he, role, ⟨M, wayV, actsV, f, ?_⟩, hm⟩
    simpa [DS.act, hd] using hr
  | false =>
    have e : d.put k s = ({ d.act with queue := d.queue ++ [(k, s)] }, 0) := by simp [DS.put, DS.act, hd]
    rw [e]
    refine (put_in h k hk s hs hd (by rw [length_tickOf]; exact hq) (Nat.le_trans (length_restOf_le _ _) hq)).mono fun _ _ ⟨he, role', wayV', f', hr, hm⟩ => ⟨he, role', ⟨M, wayV', actsV, f', ?_⟩, hm⟩
    rw [restOf_snoc, tickOf_snoc]
    simpa [DS.act, hd] using hr
theorem disk_size {w : World} {p : Nat} {role : Nat → Option Own} {d : DS} (h : DiskAt w p role d) :
    Calls Try.prog 65 #[.pointer (some ⟨p, 0, none⟩)] w fun e w' => e = .returned (.int .i64 d.size) ∧ w = w' := by
  obtain ⟨M, wayV, actsV, f, h⟩ := h
  exact size_any h
theorem disk_dead {w : World} {p : Nat} {role : Nat → Option Own} {d : DS} (h : DiskAt w p role d) :
    Calls Try.prog 45 #[.pointer (some ⟨p, 0, none⟩)] w fun e w' => e = .returned (.bool d.dead) ∧ w = w' := by
  obtain ⟨M, wayV, actsV, f, h⟩ := h
  exact dead_any h
def NewPost (w : World) (s : Nat) (e : Ending) (w' : World) : Prop :=
  ∃ p role, e = .returned (.pointer (some ⟨p, 0, none⟩)) ∧ DiskAt w' p role (DS.blank s) ∧ Below w.heap.size w w' ∧ (∀ k, k < w.heap.size → role k = none)
theorem disk_blank (w : World) (n : Int) (s : Nat) (hs : (s : Int) = max 0 (min n 2048)) : Calls Try.prog 16 #[.int .i64 n] w (NewPost w s) :=
  (blank_any w n s hs).mono fun _ _ ⟨p, role, M, he, hr, hb, hk⟩ => ⟨p, role, he, ⟨M, _, _, _, hr⟩, hb, hk⟩

end Go.Proofs.Ytpddbffamejgeaa
