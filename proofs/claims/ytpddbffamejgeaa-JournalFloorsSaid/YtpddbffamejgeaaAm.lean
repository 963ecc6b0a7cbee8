/- crc: Open. -/
import Derived.Test.YtpddbffamejgeaaAl
namespace Go.Proofs.Ytpddbffamejgeaa
open Go.RowKit Go.Proofs.YtpddbffamejgeaaW.PrintLast

theorem add_zero_addr (a : Addr) (h : a.spot = none) : a.add 0 = a := by
  obtain ⟨b, o, s⟩ := a
  simp at h; subst h
  simp [Addr.add]
theorem runs_sl_hi {P : Program} {o : Oper} {a : Act} {T E : TypeId} (x h : Operand) (ho : o.op = .slice T x none (some h) none) (hT : P.underlying T = some (.slice E)) (hE : (P.info? E).map (·.size) = some 1) (ba : Option Addr) (len cap n : Nat)
    (hs : ∀ ad, ba = some ad → ad.spot = none) (hx : a.eval x = .slice ba len cap) (hh : a.eval h = .int .i64 n) (hn : n ≤ cap) (w : World) : (execOp a.eval o).run P w = .ok (.value (.slice ba n cap)) w := by
  obtain ⟨i, hi, hsz⟩ := size_info hE
  have e : (if cap = 0 then ba else ba.map (·.add 0)) = ba := by
    split
    · rfl
    · cases ba with
      | none => rfl
      | some ad => simp [add_zero_addr ad (hs ad rfl)]
  unfold execOp
  simp [ho, hx, hh, Instr.sliceAt, Instr.slice, Instr.sliceBounds, Instr.sliceBound, asIntOf, sizeOf, typeInfo, underlying, program, Sem.run, hi, hT, Bind.bind, Sem.bind, pure, hn, hsz]
  intro hne
  rw [if_neg hne] at e
  exact e
theorem runs_sl_lo {P : Program} {o : Oper} {a : Act} {T E : TypeId} (x l : Operand) (ho : o.op = .slice T x (some l) none none) (hT : P.underlying T = some (.slice E)) (hE : (P.info? E).map (·.size) = some 1) (ba : Option Addr) (len cap n : Nat)
    (hx : a.eval x = .slice ba len cap) (hh : a.eval l = .int .i64 n) (hn : n ≤ len) (hc : len ≤ cap) (w : World) : (execOp a.eval o).run P w = .ok (.value (.slice (if cap = n then ba else ba.map (·.add n)) (len - n) (cap - n))) w := by
  obtain ⟨i, hi, hsz⟩ := size_info hE
  have e0 : (0 : Int) ≤ (len : Int) ∧ (len : Int) ≤ (cap : Int) := by omega
  have e1 : (0 : Int) ≤ (n : Int) ∧ (n : Int) ≤ (len : Int) := by omega
  unfold execOp
  simp [ho, hx, hh, Instr.sliceAt, Instr.slice, Instr.sliceBounds, Instr.sliceBound, asIntOf, sizeOf, typeInfo, underlying, program, Sem.run, hi, hT, Bind.bind, Sem.bind, pure, hn, hsz]
theorem runs_sl_lo_at {P : Program} {o : Oper} {a : Act} {T E : TypeId} (x l : Operand) (ho : o.op = .slice T x (some l) none none) (hT : P.underlying T = some (.slice E)) (hE : (P.info? E).map (·.size) = some 1) (ad : Addr) (len cap n m : Nat)
    (hx : a.eval x = .slice (some ad) len cap) (hh : a.eval l = .int .i64 n) (hn : n + m = len) (hm : 0 < m) (hc : len ≤ cap) (w : World) : (execOp a.eval o).run P w = .ok (.value (.slice (some (ad.add n)) m (cap - n))) w := by
  have h := runs_sl_lo x l ho hT hE (some ad) len cap n hx hh (by omega) hc w
  rw [if_neg (by omega), show len - n = m by omega] at h
  exact h
theorem Src.spot {w : World} {ad : Addr} {l : List Value} (h : Src w (some ad) l) (hl : 0 < l.length) : ad.spot = none := by
  obtain ⟨_, e, hc⟩ := h hl
  cases e
  obtain ⟨b, of, s⟩ := ad
  cases s with
  | none => rfl
  | some s =>
    exfalso
    have h1 := hc 0 l[0] (by simp)
    simp [Addr.add, World.cell?] at h1
    split at h1 <;> simp at h1
def OpenPost (w : World) (b : List UInt8) (e : Ending) (w' : World) : Prop :=
  ∃ v, e = .returned (.tuple #[v, .bool (unsealN b).isSome]) ∧ w'.ownsRow w.heap.size 5 1 v ((unsealN b).getD []).length (((unsealN b).getD []).map Bv) ∧ Below w.heap.size w w'
theorem size177 : (Try.prog.info? 177).map (·.size) = some 4 := by kernel_rfl

set_option maxRecDepth 100000 in
set_option maxHeartbeats 1600000 in
theorem open_any (w : World) (b : List UInt8) (ba : Option Addr) (bc : Nat) (hsrc : Src w ba (b.map Bv)) (hf : b.length ≤ bc) (hl : b.length ≤ 1000000) :
    Calls Try.prog 84 #[.slice ba b.length bc] w (OpenPost w b) := by
  by_cases h4 : b.length < 4
  · have hu : unsealN b = none := by unfold unsealN; rw [if_pos h4]
    have hlt : (b.length : Int) - 4 < 0 := by omega
    have hlt' : decide ((b.length : Int) - 4 < 0) = true := by simpa using hlt
    have HU := Lib.hid hu
    clear hu hsrc
    go_enter Try.func84, Try.ntmps84
    go_upto_region 2 with fail
--B2f
    refine start_ (n := 19) (S := fun w' => True) (ds := []) #[false, false, false, false, false, false, false, false, false, false, false, false, false, false, false, false, false, false, false] (by kernel_rfl) rfl rfl trivial (fun hHeld => ?_)
    refine pure_ (i := 0) (N := some 8) (v := ?_) (a' := ?_) #[true, false, false, false, false, false, false, false, false, false, false, false, false, false, false, false, false, false, false] rfl rfl (by kernel_rfl) (fun _ _ _ h => h) (Or.inl ⟨by rfl, ?_⟩) ?_ ?_
    rotate_left
    · intro w'
      go_simp
      with_reducible rfl
    rotate_left
    · simp only [Act.put, List.setIfInBounds_toArray, List.set_cons_zero, List.set_cons_succ]
      rfl
    refine pure_ (i := 1) (N := some 9) (v := ?_) (a' := ?_) #[true, true, false, false, false, false, false, false, false, false, false, false, false, false, false, false, false, false, false] rfl rfl (by kernel_rfl) (fun _ _ _ h => h) (Or.inl ⟨by rfl, ?_⟩) ?_ ?_
    rotate_left
    · intro w'
      go_simp
      with_reducible rfl
    rotate_left
    · simp only [Act.put, List.setIfInBounds_toArray, List.set_cons_zero, List.set_cons_succ]
      rfl
    refine pure_ (i := 2) (N := some 10) (v := ?_) (a' := ?_) #[true, true, true, false, false, false, false, false, false, false, false, false, false, false, false, false, false, false, false] rfl rfl (by kernel_rfl) (fun _ _ _ h => h) (Or.inl ⟨by rfl, ?_⟩) ?_ ?_
    rotate_left
    · intro w'
      go_simp
      with_reducible rfl
    rotate_left
    · simp only [Act.put, List.setIfInBounds_toArray, List.set_cons_zero, List.set_cons_succ]
      rfl
    refine pure_ (i := 3) (N := some 11) (v := undef) (a' := ?_) #[true, true, true, true, false, false, false, false, false, false, false, false, false, false, false, false, false, false, false] rfl rfl (by kernel_rfl) (fun _ _ _ h => h) (Or.inr ⟨by rfl, rfl⟩) ?_ ?_
    rotate_left
    · simp only [Act.put, List.setIfInBounds_toArray, List.set_cons_zero, List.set_cons_succ]
      rfl
    refine pure_ (i := 4) (N := some 12) (v := undef) (a' := ?_) #[true, true, true, true, true, false, false, false, false, false, false, false, false, false, false, false, false, false, false] rfl rfl (by kernel_rfl) (fun _ _ _ h => h) (Or.inr ⟨by rfl, rfl⟩) ?_ ?_
    rotate_left
    · simp only [Act.put, List.setIfInBounds_toArray, List.set_cons_zero, List.set_cons_succ]
      rfl
    refine pure_ (i := 5) (N := some 13) (v := undef) (a' := ?_) #[true, true, true, true, true, true, false, false, false, false, false, false, false, false, false, false, false, false, false] rfl rfl (by kernel_rfl) (fun _ _ _ h => h) (Or.inr ⟨by rfl, rfl⟩) ?_ ?_
    rotate_left
    · simp only [Act.put, List.setIfInBounds_toArray, List.set_cons_zero, List.set_cons_succ]
      rfl
    refine pure_ (i := 6) (N := some 14) (v := undef) (a' := ?_) #[true, true, true, true, true, true, true, false, false, false, false, false, false, false, false, false, false, false, false] rfl rfl (by kernel_rfl) (fun _ _ _ h => h) (Or.inr ⟨by rfl, rfl⟩) ?_ ?_
    rotate_left
    · simp only [Act.put, List.setIfInBounds_toArray, List.set_cons_zero, List.set_cons_succ]
      rfl
    refine pure_ (i := 7) (N := some 15) (v := undef) (a' := ?_) #[true, true, true, true, true, true, true, true, false, false, false, false, false, false, false, false, false, false, false] rfl rfl (by kernel_rfl) (fun _ _ _ h => h) (Or.inr ⟨by rfl, rfl⟩) ?_ ?_
    rotate_left
    · simp only [Act.put, List.setIfInBounds_toArray, List.set_cons_zero, List.set_cons_succ]
      rfl
    refine pure_ (i := 8) (N := some 16) (v := undef) (a' := ?_) #[true, true, true, true, true, true, true, true, true, false, false, false, false, false, false, false, false, false, false] rfl rfl (by kernel_rfl) (fun _ _ _ h => h) (Or.inr ⟨by rfl, rfl⟩) ?_ ?_
    rotate_left
    · simp only [Act.put, List.setIfInBounds_toArray, List.set_cons_zero, List.set_cons_succ]
      rfl
    refine pure_ (i := 9) (N := some 17) (v := undef) (a' := ?_) #[true, true, true, true, true, true, true, true, true, true, false, false, false, false, false, false, false, false, false] rfl rfl (by kernel_rfl) (fun _ _ _ h => h) (Or.inr ⟨by rfl, rfl⟩) ?_ ?_
    rotate_left
    · simp only [Act.put, List.setIfInBounds_toArray, List.set_cons_zero, List.set_cons_succ]
      rfl
    refine pure_ (i := 10) (N := some 18) (v := undef) (a' := ?_) #[true, true, true, true, true, true, true, true, true, true, true, false, false, false, false, false, false, false, false] rfl rfl (by kernel_rfl) (fun _ _ _ h => h) (Or.inr ⟨by rfl, rfl⟩) ?_ ?_
    rotate_left
    · simp only [Act.put, List.setIfInBounds_toArray, List.set_cons_zero, List.set_cons_succ]
      rfl
    refine pure_ (i := 11) (N := some 19) (v := undef) (a' := ?_) #[true, true, true, true, true, true, true, true, true, true, true, true, false, false, false, false, false, false, false] rfl rfl (by kernel_rfl) (fun _ _ _ h => h) (Or.inr ⟨by rfl, rfl⟩) ?_ ?_
    rotate_left
    · simp only [Act.put, List.setIfInBounds_toArray, List.set_cons_zero, List.set_cons_succ]
      rfl
    refine pure_ (i := 12) (N := some 20) (v := undef) (a' := ?_) #[true, true, true, true, true, true, true, true, true, true, true, true, true, false, false, false, false, false, false] rfl rfl (by kernel_rfl) (fun _ _ _ h => h) (Or.inr ⟨by rfl, rfl⟩) ?_ ?_
    rotate_left
    · simp only [Act.put, List.setIfInBounds_toArray, List.set_cons_zero, List.set_cons_succ]
      rfl
    refine pure_ (i := 13) (N := some 21) (v := undef) (a' := ?_) #[true, true, true, true, true, true, true, true, true, true, true, true, true, true, false, false, false, false, false] rfl rfl (by kernel_rfl) (fun _ _ _ h => h) (Or.inr ⟨by rfl, rfl⟩) ?_ ?_
    rotate_left
    · simp only [Act.put, List.setIfInBounds_toArray, List.set_cons_zero, List.set_cons_succ]
      rfl
    refine pure_ (i := 14) (N := some 22) (v := undef) (a' := ?_) #[true, true, true, true, true, true, true, true, true, true, true, true, true, true, true, false, false, false, false] rfl rfl (by kernel_rfl) (fun _ _ _ h => h) (Or.inr ⟨by rfl, rfl⟩) ?_ ?_
    rotate_left
    · simp only [Act.put, List.setIfInBounds_toArray, List.set_cons_zero, List.set_cons_succ]
      rfl
    refine pure_ (i := 15) (N := some 23) (v := undef) (a' := ?_) #[true, true, true, true, true, true, true, true, true, true, true, true, true, true, true, true, false, false, false] rfl rfl (by kernel_rfl) (fun _ _ _ h => h) (Or.inr ⟨by rfl, rfl⟩) ?_ ?_
    rotate_left
    · simp only [Act.put, List.setIfInBounds_toArray, List.set_cons_zero, List.set_cons_succ]
      rfl
    refine pure_ (i := 16) (N := some 24) (v := undef) (a' := ?_) #[true, true, true, true, true, true, true, true, true, true, true, true, true, true, true, true, true, false, false] rfl rfl (by kernel_rfl) (fun _ _ _ h => h) (Or.inr ⟨by rfl, rfl⟩) ?_ ?_
    rotate_left
    · simp only [Act.put, List.setIfInBounds_toArray, List.set_cons_zero, List.set_cons_succ]
      rfl
    refine pure_ (i := 17) (N := some 25) (v := undef) (a' := ?_) #[true, true, true, true, true, true, true, true, true, true, true, true, true, true, true, true, true, true, false] rfl rfl (by kernel_rfl) (fun _ _ _ h => h) (Or.inr ⟨by rfl, rfl⟩) ?_ ?_
    rotate_left
    · simp only [Act.put, List.setIfInBounds_toArray, List.set_cons_zero, List.set_cons_succ]
      rfl
    refine pure_ (i := 18) (N := some 26) (v := ?_) (a' := ?_) #[true, true, true, true, true, true, true, true, true, true, true, true, true, true, true, true, true, true, true] rfl rfl (by kernel_rfl) (fun _ _ _ h => h) (Or.inl ⟨by rfl, ?_⟩) ?_ ?_
    rotate_left
    · intro w'
      go_simp
      with_reducible rfl
    rotate_left
    · simp only [Act.put, List.setIfInBounds_toArray, List.set_cons_zero, List.set_cons_succ]
      rfl
    refine done_ (by kernel_rfl) ?_
--E2f
    go_wp2
    exact bodyPost_ret (v := .tuple #[.slice none 0 0, .bool false]) (by simp [results, Try.results84, go_sem]) rfl ⟨.slice none 0 0, by rw [HU.out]; rfl, by rw [HU.out]; exact World.ownsRow_nil _ _ _ _, (Below.refl _ _).drew⟩
  · obtain ⟨n, hn⟩ : ∃ n, b.length = n + 4 := ⟨b.length - 4, by omega⟩
    have hn' : (b.length : Int) - 4 = (n : Int) := by omega
    have hge : decide ((b.length : Int) - 4 < 0) = false := by simp; omega
    obtain ⟨ad, rfl, _⟩ := hsrc (by simp; omega)
    have hsp := hsrc.spot (by simp; omega)
    obtain ⟨hd, hhd⟩ : ∃ hd, hd = b.take n := ⟨_, rfl⟩
    obtain ⟨tl, htl⟩ : ∃ tl, tl = b.drop n := ⟨_, rfl⟩
    have hhl : hd.length = n := by rw [hhd]; simp; omega
    have htl4 : tl.length = 4 := by rw [htl]; simp; omega
    have hS1 : Src w (some ad) (hd.map Bv) := fun _ => by
      obtain ⟨ad', e, hc⟩ := hsrc (by simp; omega)
      cases e
      refine ⟨ad, rfl, fun j v hj => hc j v ?_⟩
      rw [hhd, List.map_take, List.getElem?_take] at hj
      split at hj
      · exact hj
      · cases hj
    have hS2 : Src w (some (ad.add n)) (tl.map Bv) := by
      have := hsrc.sub n 4 (by simp; omega)
      have e : ((b.map Bv).drop n).take 4 = tl.map Bv := by rw [htl, List.map_drop]; exact List.take_of_length_le (by simp; omega)
      rwa [e] at this
    have hT : ∀ W, Below w.heap.size w W → ∀ j u, (tl.map Bv)[j]? = some u → W.cell? ((ad.add n).add j) = some u := fun W hb => by
      obtain ⟨ad', e, hc⟩ := (hS2.below hb) (by simp; omega)
      cases e
      exact hc
    obtain ⟨r, hr⟩ : ∃ r, r = addN 4294967295 hd := ⟨_, rfl⟩
    have hadd : ∀ W, Below w.heap.size w W → Calls Try.prog 102 #[.int .u32 4294967295, .slice (some ad) n bc] W fun e w' => e = .returned (.int .u32 (r : Nat)) ∧ W = w' := fun W h => by
      have := add_any W 4294967295 (by omega) hd (some ad) bc (hS1.below h) (by omega)
      rwa [← hr, hhl] at this
    have hrl : r < 4294967296 := by
      have h := sumN_lt hd
      unfold sumN at h
      rw [← hr] at h
      rcases Nat.lt_or_ge r 4294967296 with h2 | h2
      · exact h2
      · have h3 : 4294967295 ^^^ (4294967295 ^^^ r) < 4294967296 := Nat.xor_lt_two_pow (n := 32) (by omega) h
        rw [← Nat.xor_assoc, Nat.xor_self, Nat.zero_xor] at h3
        exact h3
    obtain ⟨s, hs⟩ : ∃ s, s = 4294967295 ^^^ r := ⟨_, rfl⟩
    have hse : sumN hd = s := by unfold sumN; rw [← hr, ← hs]
    have hsum : ∀ W, Calls Try.prog 103 #[.int .u32 r] W fun e w' => e = .returned (.int .u32 (s : Nat)) ∧ W = w' := fun W => by rw [hs]; exact sum_any r hrl W
    have hsl : s < 4294967296 := by rw [← hse]; exact sumN_lt hd
    have hu : unsealN b = if (tailN s == tl) = true then some hd else none := by
      unfold unsealN
      rw [if_neg h4, show b.length - 4 = n by omega, ← hhd, ← htl, hse]
      simp only [beq_iff_eq]
    have HU := Lib.hid hu
    have HSP : Hid (∀ a, some ad = some a → a.spot = none) := Lib.hid fun a e => by cases e; exact hsp
    have HN := Lib.hid hn'
    have HT := Lib.hid hT
    have HADD := Lib.hid hadd
    have HSUM := Lib.hid hsum
    have HSL := Lib.hid hsl
    have HHL := Lib.hid hhl
    have HTL4 := Lib.hid htl4
    have HS1 := Lib.hid hS1
    have hnn : n + 4 ≤ bc := by omega
    have hnb := Lib.hid (show n + 4 = b.length by omega)
    clear hu hsp hn' hT hadd hsum hsl hhl htl4 hS1 hS2 hse hs hr hhd htl hsrc hn hrl h4
    have hbd : Below w.heap.size w w.drew := (Below.refl _ _).drew
    have HBD := Lib.hid hbd
    clear hbd
    have HRT : Hid (Row (w.drew.alloc (.cells ((tailN s).map Bv).toArray 5)) w.heap.size ((tailN s).map Bv) 5) := Lib.hid (Row.new w.drew ((tailN s).map Bv) 5)
    have HBA : Hid (Below w.heap.size w (w.drew.alloc (.cells ((tailN s).map Bv).toArray 5))) := Lib.hid (HBD.out.alloc (Nat.le_refl _) _)
    go_enter Try.func84, Try.ntmps84
    go_upto_region 2 with fail
--B2t
    refine start_ (n := 19) (S := fun w' => ∀ j u, (tl.map Bv)[j]? = some u → w'.cell? ((ad.add n).add j) = some u) (ds := []) #[false, false, false, false, false, false, false, false, false, false, false, false, false, false, false, false, false, false, false] (by kernel_rfl) rfl rfl (HT.out _ HBD.out) (fun hHeld => ?_)
    refine pure_ (i := 0) (N := some 8) (v := ?_) (a' := ?_) #[true, false, false, false, false, false, false, false, false, false, false, false, false, false, false, false, false, false, false] rfl rfl (by kernel_rfl) (fun _ _ _ h => h) (Or.inl ⟨by rfl, ?_⟩) ?_ ?_
    rotate_left
    · intro w'
      go_simp
      with_reducible rfl
    rotate_left
    · simp only [Act.put, List.setIfInBounds_toArray, List.set_cons_zero, List.set_cons_succ]
      rfl
    refine pure_ (i := 1) (N := some 9) (v := ?_) (a' := ?_) #[true, true, false, false, false, false, false, false, false, false, false, false, false, false, false, false, false, false, false] rfl rfl (by kernel_rfl) (fun _ _ _ h => h) (Or.inl ⟨by rfl, ?_⟩) ?_ ?_
    rotate_left
    · intro w'
      go_simp
      with_reducible rfl
    rotate_left
    · simp only [Act.put, List.setIfInBounds_toArray, List.set_cons_zero, List.set_cons_succ]
      rfl
    refine pure_ (i := 2) (N := some 10) (v := ?_) (a' := ?_) #[true, true, true, false, false, false, false, false, false, false, false, false, false, false, false, false, false, false, false] rfl rfl (by kernel_rfl) (fun _ _ _ h => h) (Or.inl ⟨by rfl, ?_⟩) ?_ ?_
    rotate_left
    · intro w'
      go_simp
      with_reducible rfl
    rotate_left
    · simp only [Act.put, List.setIfInBounds_toArray, List.set_cons_zero, List.set_cons_succ]
      rfl
    refine pure_ (i := 4) (N := some 12) (v := ?_) (a' := ?_) #[true, true, true, false, true, false, false, false, false, false, false, false, false, false, false, false, false, false, false] rfl rfl (by kernel_rfl) (fun _ _ _ h => h) (Or.inl ⟨by rfl, ?_⟩) ?_ ?_
    rotate_left
    · intro w'
      go_simp
      with_reducible rfl
    rotate_left
    · simp only [Act.put, List.setIfInBounds_toArray, List.set_cons_zero, List.set_cons_succ]
      rfl
    refine pure_ (i := 5) (N := some 13) (v := ?_) (a' := ?_) #[true, true, true, false, true, true, false, false, false, false, false, false, false, false, false, false, false, false, false] rfl rfl (by kernel_rfl) (fun _ _ _ h => h) (Or.inl ⟨by rfl, ?_⟩) ?_ ?_
    rotate_left
    · intro w'
      go_simp
      with_reducible rfl
    rotate_left
    · simp only [Act.put, List.setIfInBounds_toArray, List.set_cons_zero, List.set_cons_succ]
      rfl
    refine pure_ (i := 6) (N := some 14) (v := .slice (some ad) n bc) (a' := ?_) #[true, true, true, false, true, true, true, false, false, false, false, false, false, false, false, false, false, false, false] rfl rfl (by kernel_rfl) (fun _ _ _ h => h) (Or.inl ⟨by rfl, ?_⟩) ?_ ?_
    · intro w'
      exact runs_sl_hi (.tmp 12) (.tmp 13) rfl Try.underlying23 size5 (some ad) b.length bc n HSP.out (by rfl) (by show Value.int .i64 ((b.length : Int) - 4) = _; rw [HN.out]) (by omega) w'
    rotate_left
    · simp only [Act.put, List.setIfInBounds_toArray, List.set_cons_zero, List.set_cons_succ]
      rfl
    refine pure_ (i := 12) (N := some 20) (v := ?_) (a' := ?_) #[true, true, true, false, true, true, true, false, false, false, false, false, true, false, false, false, false, false, false] rfl rfl (by kernel_rfl) (fun _ _ _ h => h) (Or.inl ⟨by rfl, ?_⟩) ?_ ?_
    rotate_left
    · intro w'
      go_simp
      with_reducible rfl
    rotate_left
    · simp only [Act.put, List.setIfInBounds_toArray, List.set_cons_zero, List.set_cons_succ]
      rfl
    refine pure_ (i := 13) (N := some 21) (v := ?_) (a' := ?_) #[true, true, true, false, true, true, true, false, false, false, false, false, true, true, false, false, false, false, false] rfl rfl (by kernel_rfl) (fun _ _ _ h => h) (Or.inl ⟨by rfl, ?_⟩) ?_ ?_
    rotate_left
    · intro w'
      go_simp
      with_reducible rfl
    rotate_left
    · simp only [Act.put, List.setIfInBounds_toArray, List.set_cons_zero, List.set_cons_succ]
      rfl
    refine pure_ (i := 14) (N := some 22) (v := .slice (some (ad.add n)) 4 (bc - n)) (a' := ?_) #[true, true, true, false, true, true, true, false, false, false, false, false, true, true, true, false, false, false, false] rfl rfl (by kernel_rfl) (fun _ _ _ h => h) (Or.inl ⟨by rfl, ?_⟩) ?_ ?_
    · intro w'
      exact runs_sl_lo_at (.tmp 20) (.tmp 21) rfl Try.underlying23 size5 ad b.length bc n 4 (by rfl) (by show Value.int .i64 ((b.length : Int) - 4) = _; rw [HN.out]) hnb.out (by omega) hf w'
    rotate_left
    · simp only [Act.put, List.setIfInBounds_toArray, List.set_cons_zero, List.set_cons_succ]
      rfl
    refine pure_ (i := 15) (N := some 23) (v := .pointer (some (ad.add n))) (a' := ?_) #[true, true, true, false, true, true, true, false, false, false, false, false, true, true, true, true, false, false, false] rfl rfl (by kernel_rfl) (fun _ _ _ h => h) (Or.inl ⟨by rfl, ?_⟩) ?_ ?_
    · intro w'
      exact runs_arrayAt 177 (.tmp 22) rfl 4 5 Try.underlying177 (some (ad.add n)) 4 (bc - n) (by rfl) (by omega) w'
    rotate_left
    · simp only [Act.put, List.setIfInBounds_toArray, List.set_cons_zero, List.set_cons_succ]
      rfl
    refine take_ (i := 16) (N := some 24) (v := .agg (tl.map Bv).toArray) (a' := ?_) #[true, true, true, false, true, true, true, false, false, false, false, false, true, true, true, true, true, false, false] rfl rfl (by kernel_rfl) (fun _ _ _ h => h) (Or.inl ⟨by rfl, ?_⟩) hHeld ?_ ?_
    · intro w' s0
      exact runs_load_any 177 (.tmp 23) rfl (ad.add n) (by rfl) (tl.map Bv) _ s0 4 (by simp [HTL4.out]) Try.underlying177 rfl size177
    rotate_left
    · simp only [Act.put, List.setIfInBounds_toArray, List.set_cons_zero, List.set_cons_succ]
      rfl
    refine one_ (i := 3) (N := some 11) #[true, true, true, true, true, true, true, false, false, false, false, false, true, true, true, true, true, false, false] rfl rfl (by kernel_rfl) (by decide) (fun K hK => ?_)
    refine goes_ Try.func101 (by kernel_rfl) rfl #[] (by rfl) rfl rfl (by simp only [List.map_toArray, List.map_nil]) ?_
    with_reducible refine (start_any _).mono ?_
    rintro e w3 ⟨rfl, rfl⟩
    refine ⟨_, rfl, ?_⟩
    refine hK.out _ _ (HT.out _ HBD.out) (fun hHeld => ?_)
    clear hK K
    refine norm_ (a' := ?_) ?_ ?_
    rotate_left
    · show Act.put _ (some 11) _ = _
      simp only [Act.put, List.setIfInBounds_toArray, List.set_cons_zero, List.set_cons_succ]
      rfl
    refine one_ (i := 7) (N := some 15) #[true, true, true, true, true, true, true, true, false, false, false, false, true, true, true, true, true, false, false] rfl rfl (by kernel_rfl) (by decide) (fun K hK => ?_)
    refine goes_ Try.func102 (by kernel_rfl) rfl #[.int .u32 4294967295, .slice (some ad) n bc] (by rfl) rfl rfl (by simp only [List.map_toArray, List.map_cons, List.map_nil]; rfl) ?_
    with_reducible refine (HADD.out _ HBD.out).mono ?_
    rintro e w3 ⟨rfl, rfl⟩
    refine ⟨_, rfl, ?_⟩
    refine hK.out _ _ (HT.out _ HBD.out) (fun hHeld => ?_)
    clear hK K
    refine norm_ (a' := ?_) ?_ ?_
    rotate_left
    · show Act.put _ (some 15) _ = _
      simp only [Act.put, List.setIfInBounds_toArray, List.set_cons_zero, List.set_cons_succ]
      rfl
    refine one_ (i := 8) (N := some 16) #[true, true, true, true, true, true, true, true, true, false, false, false, true, true, true, true, true, false, false] rfl rfl (by kernel_rfl) (by decide) (fun K hK => ?_)
    refine goes_ Try.func103 (by kernel_rfl) rfl #[.int .u32 r] (by rfl) rfl rfl (by simp only [List.map_toArray, List.map_cons, List.map_nil]; rfl) ?_
    with_reducible refine (HSUM.out _).mono ?_
    rintro e w3 ⟨rfl, rfl⟩
    refine ⟨_, rfl, ?_⟩
    refine hK.out _ _ (HT.out _ HBD.out) (fun hHeld => ?_)
    clear hK K
    refine norm_ (a' := ?_) ?_ ?_
    rotate_left
    · show Act.put _ (some 16) _ = _
      simp only [Act.put, List.setIfInBounds_toArray, List.set_cons_zero, List.set_cons_succ]
      rfl
    refine one_ (i := 9) (N := some 17) #[true, true, true, true, true, true, true, true, true, true, false, false, true, true, true, true, true, false, false] rfl rfl (by kernel_rfl) (by decide) (fun K hK => ?_)
    refine goes_ Try.func100 (by kernel_rfl) rfl #[.int .u32 s] (by rfl) rfl rfl (by simp only [List.map_toArray, List.map_cons, List.map_nil]; rfl) ?_
    with_reducible refine (tail_any s HSL.out _).mono ?_
    rintro e w3 ⟨rfl, rfl⟩
    refine ⟨_, rfl, ?_⟩
    refine hK.out _ _ (HT.out _ HBA.out) (fun hHeld => ?_)
    clear hK K
    refine norm_ (a' := ?_) ?_ ?_
    rotate_left
    · show Act.put _ (some 17) _ = _
      simp only [Act.put, List.setIfInBounds_toArray, List.set_cons_zero, List.set_cons_succ]
      rfl
    refine pure_ (i := 10) (N := some 18) (v := .pointer (some ⟨w.heap.size, 0, none⟩)) (a' := ?_) #[true, true, true, true, true, true, true, true, true, true, true, false, true, true, true, true, true, false, false] rfl rfl (by kernel_rfl) (fun _ _ _ h => h) (Or.inl ⟨by rfl, ?_⟩) ?_ ?_
    · intro w'
      exact runs_arrayAt 177 (.tmp 17) rfl 4 5 Try.underlying177 _ 4 4 (by rfl) (by omega) w'
    rotate_left
    · simp only [Act.put, List.setIfInBounds_toArray, List.set_cons_zero, List.set_cons_succ]
      rfl
    refine one_ (i := 11) (N := some 19) #[true, true, true, true, true, true, true, true, true, true, true, true, true, true, true, true, true, false, false] rfl rfl (by kernel_rfl) (by decide) (fun K hK => ?_)
    refine value_ (by rfl) rfl (runs_load_at 177 (.tmp 18) rfl w.heap.size 0 (by rfl) ((tailN s).map Bv) _ (keepF HRT.out).1 4 rfl Try.underlying177 rfl size177) ?_
    refine hK.out _ _ (HT.out _ HBA.out) (fun hHeld => ?_)
    clear hK K
    refine norm_ (a' := ?_) ?_ ?_
    rotate_left
    · show Act.put _ (some 19) _ = _
      simp only [Act.put, List.setIfInBounds_toArray, List.set_cons_zero, List.set_cons_succ]
      rfl
    refine pure_ (i := 17) (N := some 25) (v := .bool (!(tailN s == tl))) (a' := ?_) #[true, true, true, true, true, true, true, true, true, true, true, true, true, true, true, true, true, true, false] rfl rfl (by kernel_rfl) (fun _ _ _ h => h) (Or.inl ⟨by rfl, ?_⟩) ?_ ?_
    · intro w'
      exact runs_neq_array (.tmp 19) (.tmp 24) rfl 4 Try.underlying177 Try.underlying5 size5 (by kernel_rfl) (tailN s) tl rfl HTL4.out (by rfl) (by rfl) w'
    rotate_left
    · simp only [Act.put, List.setIfInBounds_toArray, List.set_cons_zero, List.set_cons_succ]
      rfl
    refine pure_ (i := 18) (N := some 26) (v := ?_) (a' := ?_) #[true, true, true, true, true, true, true, true, true, true, true, true, true, true, true, true, true, true, true] rfl rfl (by kernel_rfl) (fun _ _ _ h => h) (Or.inl ⟨by rfl, ?_⟩) ?_ ?_
    rotate_left
    · intro w'
      go_simp
      with_reducible rfl
    rotate_left
    · simp only [Act.put, List.setIfInBounds_toArray, List.set_cons_zero, List.set_cons_succ]
      rfl
    refine done_ (by kernel_rfl) ?_
--E2t
    generalize w.drew.alloc (.cells ((tailN s).map Bv).toArray 5) = W at *
    clear HRT HADD HSUM HT hHeld
    cases hq : (tailN s == tl) with
    | false =>
      have hu : unsealN b = none := by rw [HU.out, hq]; rfl
      have HU2 := Lib.hid hu
      clear hq hu HU
      go_wp2
      exact bodyPost_ret (v := .tuple #[.slice none 0 0, .bool false]) (by simp [results, Try.results84, go_sem]) rfl ⟨.slice none 0 0, by rw [HU2.out]; rfl, by rw [HU2.out]; exact World.ownsRow_nil _ _ _ _, HBA.out⟩
    | true =>
      have hu : unsealN b = some hd := by rw [HU.out, hq]; rfl
      have HU2 := Lib.hid hu
      have hown0 : (W.alloc (.cells #[] 5)).ownsRow w.heap.size 5 1 (.slice (some ⟨W.heap.size, 0, none⟩) 0 0) 0 [] := World.ownsRow_made W #[] 0 HBA.out.size (Nat.zero_le _) rfl
      have HO0 := Lib.hid hown0
      have HB0 := Lib.hid (HBA.out.alloc HBA.out.size (.cells #[] 5))
      have hnl : n ≤ 1000000 := by have := hnb.out; omega
      clear hq hu HU hown0
      go_wp2_with (first
        | (refine wpl_of_run (o := ⟨some 27, _, _, _, _, _⟩) rfl (runs_buildSlice_none _ rfl Try.underlying23 info5) ?_)
        | (refine wpl_of_run (o := ⟨some 30, _, _, _, _, _⟩) rfl (runs_sl_hi (.tmp 28) (.tmp 29) rfl Try.underlying23 size5 (some ad) b.length bc n HSP.out (by rfl) (by show Value.int .i64 ((b.length : Int) - 4) = _; rw [HN.out]) (by omega) _) ?_)
        | (at_builtin; refine wpl_append_src (o := ⟨some 31, _, _, _, _, _⟩) rfl (.tmp 27) (.tmp 30) rfl w.heap.size _ 0 [] rfl HO0.out (some ad) hd n bc HHL.out.symm rfl (HS1.out.below HB0.out) (by have := HHL.out; omega) HB0.out.size ?_; intro v4 w4 hown4 hg4; have HO4 := Lib.hid hown4; have HB4 := Lib.hid (HB0.out.grown hg4 HB0.out.size (fun g hg => (HO0.out.lt g hg).1)); clear hown4 hg4))
      exact bodyPost_ret (v := .tuple #[v4, .bool true]) (by simp [results, Try.results84, go_sem]) rfl ⟨v4, by rw [HU2.out]; rfl, by rw [HU2.out]; have := HO4.out; simpa using this, HB4.out⟩

end Go.Proofs.Ytpddbffamejgeaa
