/- crc: Close and Open. -/
import Derived.Test.YtpddbffamejgeaaAk
import Derived.Deep.AppendLies
import Derived.Laws.MakeOwn
namespace Go.Proofs.Ytpddbffamejgeaa
open Go.RowKit Go.Proofs.YtpddbffamejgeaaW.PrintLast

theorem run_append_none (w : World) (base : Nat) (ty : TypeId) (v : Value) (n : Nat) (xs : List Value) (hown : w.ownsRow base 5 1 v n xs) (c : Nat) :
    (Builtin.append_ #[23, 23] ty #[v, .slice none 0 c]).run Try.prog w = .ok v w := by
  obtain ⟨i5, hi5, hz5, hs5, hb5⟩ := info_parts info5
  rcases hown.2 with ⟨rfl, rfl⟩ | ⟨g, cap, cur, rfl, _, _, hnc, _⟩
  · simp [Builtin.append_, run_underlying Try.underlying23, sizeOf, typeInfo, hi5, Builtin.lenOf, Builtin.firstCells]
  · simp [Builtin.append_, run_underlying Try.underlying23, sizeOf, typeInfo, hi5, Builtin.lenOf, Builtin.firstCells, hnc, storeCells]
/-- Bytes behind bytes of the call's own, from wherever they are read, nil too. -/
theorem run_append_src (w : World) (base : Nat) (ty : TypeId) (v : Value) (n : Nat) (xs : List Value) (hown : w.ownsRow base 5 1 v n xs) (pa : Option Addr) (l : List UInt8) (c : Nat) (hsrc : Src w pa (l.map Bv))
    (h63 : n + l.length ≤ 140737488355328) (hbase : base ≤ w.heap.size) :
    ∃ v' w', (Builtin.append_ #[23, 23] ty #[v, .slice pa l.length c]).run Try.prog w = .ok v' w' ∧ w'.ownsRow base 5 1 v' (n + l.length) (xs ++ l.map Bv) ∧ w.grownBy w' v.ownBlock := by
  obtain ⟨i5, hi5, hz5, hs5, hb5⟩ := info_parts info5
  cases pa with
  | none =>
    have hl : l = [] := by
      cases l with
      | nil => rfl
      | cons y t =>
        obtain ⟨ad, e, _⟩ := hsrc (by simp)
        cases e
    subst hl
    exact ⟨v, w, run_append_none w base ty v n xs hown c, by simpa using hown, ⟨rfl, rfl, rfl, Nat.le_refl _, fun _ _ _ => rfl⟩⟩
  | some ad =>
    have hc : ∀ j u, (l.map Bv)[j]? = some u → w.cell? (ad.add j) = some u := fun j u hu => by
      have hp : 0 < (l.map Bv).length := by
        rcases Nat.eq_zero_or_pos (l.map Bv).length with h | h
        · rw [List.getElem?_eq_none (by omega)] at hu; cases hu
        · exact h
      obtain ⟨ad', e, h⟩ := hsrc hp
      cases e
      exact h j u hu
    obtain ⟨v', w', h1, h2, h3, _⟩ := run_append_own (P := Try.prog) w base 23 ty 5 i5 _ 1 1 Try.underlying23 hi5 hz5 hs5 hb5 rfl (by omega) v n xs hown ad l.length c (l.map Bv) (by simp) hc (oneB' _) (by unfold maxLen; omega) (by omega) hbase
    exact ⟨v', w', h1, h2, h3⟩
theorem wpl_append_src {ops : Array Oper} {rest : List Oper} {o : Oper} {a : Act} {w : World} {Q : Exit → Act → World → Prop} (hgd : o.guard = none) (s x : Operand)
    (ho : o.op = .call { callee := .builtin .append, args := #[s, x], argTypes := #[23, 23] }) (base : Nat) (v : Value) (n : Nat) (xs : List Value) (hs : a.eval s = v) (hown : w.ownsRow base 5 1 v n xs)
    (pa : Option Addr) (l : List UInt8) (m c : Nat) (hm : m = l.length) (hx : a.eval x = .slice pa m c) (hsrc : Src w pa (l.map Bv)) (h63 : n + l.length ≤ 140737488355328) (hbase : base ≤ w.heap.size)
    (h : ∀ v' w', w'.ownsRow base 5 1 v' (n + l.length) (xs ++ l.map Bv) → w.grownBy w' v.ownBlock → wpList Try.prog ops Q rest (a.put o.dst v') w') : wpList Try.prog ops Q (o :: rest) a w := by
  subst hm
  refine wpList_plain hgd fun _ hK => ?_
  obtain ⟨v', w', hr, h2, h3⟩ := run_append_src w base o.type v n xs hown pa l c hsrc h63 hbase
  unfold Oper.wp execOp
  simp only [ho, resolve, invoke, builtin, Sem.run_bind, Sem.run_pure, Result.andThen_ok, List.map_toArray, List.map_cons, List.map_nil, hs, hx, hr]
  exact hK _ _ (h v' w' h2 h3)
theorem owns_below {w w' : World} {base : Nat} {v : Value} {n : Nat} {xs : List Value} {e : TypeId} {s : Nat} (h : w.ownsRow base e s v n xs) (hb : Below w.heap.size w w') : w'.ownsRow base e s v n xs :=
  ownsRow_of_block h fun g hg => hb.block g (h.lt g hg).2

/-- Bytes that were made: behind all that was there. -/
def MadePost (w : World) (l : List UInt8) (e : Ending) (w' : World) : Prop :=
  ∃ v, e = .returned v ∧ w'.ownsRow w.heap.size 5 1 v l.length (l.map Bv) ∧ Below w.heap.size w w'

set_option maxRecDepth 100000 in
set_option maxHeartbeats 800000 in
theorem close_any (w : World) (b : List UInt8) (ba : Option Addr) (bc : Nat) (hsrc : Src w ba (b.map Bv)) (hl : b.length ≤ 1000000) :
    Calls Try.prog 81 #[.slice ba b.length bc] w (MadePost w (sealedN b)) := by
  obtain ⟨i5, hi5, hz5, hs5, hb5⟩ := info_parts info5
  obtain ⟨W1, hmk, hown1, hg1⟩ := run_make_own (P := Try.prog) w w.heap.size 23 5 i5 _ 1 Try.underlying23 hi5 hz5 hs5 .i64 .i64 (b.length + 4) (by rw [hb5]; omega) (by unfold maxLen; omega) (Nat.le_refl _)
  rw [Int.natCast_add, show ((4 : Nat) : Int) = 4 from rfl] at hmk
  have hbe1 : Below w.heap.size w W1 := (Below.refl _ _).grown hg1 (Nat.le_refl _) (fun k hk => by cases hk)
  have hsrc1 : Src W1 ba (b.map Bv) := hsrc.below hbe1
  have hlt := sumN_lt b
  obtain ⟨r, hr⟩ : ∃ r, r = addN 4294967295 b := ⟨_, rfl⟩
  have hadd : ∀ W, Src W ba (b.map Bv) → Calls Try.prog 102 #[.int .u32 4294967295, .slice ba b.length bc] W fun e w' => e = .returned (.int .u32 (r : Nat)) ∧ W = w' := fun W h => by
    rw [hr]; exact add_any W 4294967295 (by omega) b ba bc h (by omega)
  have hrl : r < 4294967296 := by
    have h := sumN_lt b
    unfold sumN at h
    rw [← hr] at h
    rcases Nat.lt_or_ge r 4294967296 with h2 | h2
    · exact h2
    · have h3 : 4294967295 ^^^ (4294967295 ^^^ r) < 4294967296 := Nat.xor_lt_two_pow (n := 32) (by omega) h
      rw [← Nat.xor_assoc, Nat.xor_self, Nat.zero_xor] at h3
      exact h3
  have hse : sumN b = 4294967295 ^^^ r := by unfold sumN; rw [← hr]
  obtain ⟨s, hs⟩ : ∃ s, s = 4294967295 ^^^ r := ⟨_, rfl⟩
  have hsum : ∀ W, Calls Try.prog 103 #[.int .u32 r] W fun e w' => e = .returned (.int .u32 (s : Nat)) ∧ W = w' := fun W => by rw [hs]; exact sum_any r hrl W
  have hsl : s < 4294967296 := by rw [hs, ← hse]; exact hlt
  have hfin : sealedN b = b ++ tailN s := by unfold sealedN; rw [hse, hs]
  have HMK := hmk
  have HO1 := Lib.hid hown1
  have HB1 := Lib.hid hbe1
  have HS1 := Lib.hid hsrc1
  have HSRC := Lib.hid hsrc
  have HADD := Lib.hid hadd
  have HSUM := Lib.hid hsum
  have HSL := Lib.hid hsl
  have HFIN := Lib.hid hfin
  have HTL : Hid ((tailN s).length = 4) := Lib.hid rfl
  clear hmk hown1 hg1 hbe1 hsrc1 hlt hadd hrl hse hsum hsl hfin hr hs hi5 hz5 hs5 hb5 hsrc
  go_enter Try.func81, Try.ntmps81
  go_wp2_with (first
    | (at_builtin; refine wpl_append_src (o := ⟨some 10, _, _, _, _, _⟩) rfl (.tmp 8) (.tmp 9) rfl w.heap.size _ 0 [] rfl HO1.out ba b _ bc rfl rfl HS1.out (by omega) HB1.out.size ?_; intro v2 w2 hown2 hg2; have HO2 := Lib.hid hown2; have HB2 := Lib.hid (HB1.out.grown hg2 HB1.out.size (fun g hg => (HO1.out.lt g hg).1)); have HS2 := Lib.hid (HSRC.out.below HB2.out); clear hown2 hg2)
    | (go_at_call 101; refine (start_any _).mono ?_; rintro e w' ⟨rfl, rfl⟩)
    | (go_at_call 102; refine (HADD.out _ HS2.out).mono ?_; rintro e w' ⟨rfl, rfl⟩)
    | (go_at_call 103; refine (HSUM.out _).mono ?_; rintro e w' ⟨rfl, rfl⟩)
    | (go_at_call 100; refine (tail_any s HSL.out _).mono ?_; rintro e w3 ⟨rfl, hw3⟩; have HB3 := Lib.hid (HB2.out.alloc HB2.out.size (.cells ((tailN s).map Bv).toArray 5)); have HR3 := Lib.hid (Row.new w2 ((tailN s).map Bv) 5); have HO3 := Lib.hid (owns_below HO2.out ((Below.refl _ _).alloc (Nat.le_refl _) (.cells ((tailN s).map Bv).toArray 5))); subst hw3)
    | (at_builtin; refine wpl_append_src (o := ⟨some 16, _, _, _, _, _⟩) rfl (.tmp 10) (.tmp 15) rfl w.heap.size _ _ _ rfl HO3.out _ (tailN s) 4 4 rfl rfl (Src.of_row HR3.out 0 _ fun j v hj => by rwa [Nat.zero_add]) (by rw [HTL.out]; omega) HB3.out.size ?_; intro v4 w4 hown4 hg4; have HO4 := Lib.hid hown4; have HB4 := Lib.hid (HB3.out.grown hg4 HB3.out.size (fun g hg => (HO3.out.lt g hg).1)); clear hown4 hg4))
  go_ret
  rw [HFIN.out]
  refine ⟨v4, rfl, ?_, HB4.out⟩
  have := HO4.out
  simpa using this

end Go.Proofs.Ytpddbffamejgeaa
