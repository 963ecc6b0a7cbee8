import Derived.Test.YtpddbffamejgeaaB
namespace Go.Proofs.Ytpddbffamejgeaa
open Go.RowKit
variable {P : Program}

theorem run_part_byte {E : TypeId} {k : IntKind} (hE : P.underlying E = some (.int k)) (cs : Array Value) (i : Nat) (v : Value) (hv : cs[i]? = some v) (w : World) : (part E cs i).run P w = .ok v w := by
  unfold part isAgg
  simp [Sem.run_bind, run_underlying hE w, hv]

theorem run_equalIn_array (d : Nat) {T E : TypeId} {k : IntKind} (len : Nat) (hT : P.underlying T = some (.array len E)) (hE : P.underlying E = some (.int k)) (hs : (P.info? E).map (·.size) = some 1) (a b : List UInt8) (ha : a.length = len) (hb : b.length = len) (w : World) :
    (Op.equalIn (d + 2) T (.agg (a.map Bv).toArray) (.agg (b.map Bv).toArray)).run P w = .ok (a == b) w := by
  obtain ⟨i, hi, hi1⟩ := size_info hs
  unfold Op.equalIn
  rw [Sem.run_bind, run_underlying hT w]
  simp only [Result.andThen_ok]
  rw [Sem.run_bind]
  have : (sizeOf E).run P w = .ok 1 w := by simp [sizeOf, typeInfo, program, Sem.run, hi, hi1, Bind.bind, Sem.bind, pure]
  rw [this]
  simp only [Result.andThen_ok]
  rw [Std.Legacy.Range.forIn_eq_forIn_range']
  have key : ∀ (n j : Nat), j + n = len → Sem.run P
      (forIn (List.range' j n 1) ((none : Option Bool), ()) fun i __s => do
              let __do_lift ← part E (List.map Bv a).toArray (i * 1)
              let __do_lift_1 ← part E (List.map Bv b).toArray (i * 1)
              let __do_lift ← Op.equalIn (d + 1) E __do_lift __do_lift_1
              if (!__do_lift) = true then pure (ForInStep.done (some false, ())) else pure (ForInStep.yield (none, ())))
      w =
    Result.ok (if a.drop j == b.drop j then (none, ()) else (some false, ())) w := by
    intro n
    induction n with
    | zero =>
      intro j hj
      rw [List.drop_of_length_le (by omega), List.drop_of_length_le (by omega)]
      rfl
    | succ n ih =>
      intro j hj
      have hja : j < a.length := by omega
      have hjb : j < b.length := by omega
      have h1 := run_part_byte (P := P) hE (a.map Bv).toArray (j * 1) (Bv a[j]) (by simp [hja]) w
      have h2 := run_part_byte (P := P) hE (b.map Bv).toArray (j * 1) (Bv b[j]) (by simp [hjb]) w
      have h3 : (Op.equalIn (d + 1) E (Bv a[j]) (Bv b[j])).run P w = .ok ((a[j].toNat : Int) == (b[j].toNat : Int)) w := run_equalIn_int w d E .u8 k _ _ hE
      have e1 : a.drop j = a[j] :: a.drop (j + 1) := List.drop_eq_getElem_cons hja
      have e2 : b.drop j = b[j] :: b.drop (j + 1) := List.drop_eq_getElem_cons hjb
      simp only [List.range'_succ, List.forIn_cons, Sem.run_bind, h1, h2, h3, Result.andThen_ok, Sem.run_ite]
      by_cases hab : a[j] = b[j]
      · have hbt : ((a[j].toNat : Int) == (b[j].toNat : Int)) = true := by rw [hab]; simp
        simp only [hbt, Bool.not_true, Bool.false_eq_true, if_false, Sem.run_pure, Result.andThen_ok]
        rw [ih (j + 1) (by omega), e1, e2, List.cons_beq_cons, hab, beq_self_eq_true, Bool.true_and]
      · have hbf : ((a[j].toNat : Int) == (b[j].toNat : Int)) = false := by
          simp only [beq_eq_false_iff_ne, ne_eq]
          intro e
          exact hab (UInt8.toNat_inj.1 (by omega))
        simp only [hbf, Bool.not_false, if_true, Sem.run_pure, Result.andThen_ok]
        rw [e1, e2, List.cons_beq_cons, beq_eq_false_iff_ne.2 hab, Bool.false_and]
        rfl
  have h := key len 0 (by omega)
  have hsz : ([:len] : Std.Legacy.Range).size = len := by simp [Std.Legacy.Range.size]
  rw [Sem.run_bind, hsz]
  show Result.andThen (Sem.run P (forIn (List.range' 0 len 1) _ _) w) _ = _
  rw [h]
  simp only [List.drop_zero, Result.andThen_ok]
  by_cases hab : (a == b) = true
  · rw [if_pos hab, hab]; rfl
  · rw [if_neg hab]; simp only [Bool.not_eq_true] at hab; rw [hab]; rfl
theorem run_equal_array {T E : TypeId} {k : IntKind} (len : Nat) (hT : P.underlying T = some (.array len E)) (hE : P.underlying E = some (.int k)) (hs : (P.info? E).map (·.size) = some 1) (a b : List UInt8) (ha : a.length = len) (hb : b.length = len) (w : World) :
    (Op.equal T (.agg (a.map Bv).toArray) (.agg (b.map Bv).toArray)).run P w = .ok (a == b) w := run_equalIn_array 9998 len hT hE hs a b ha hb w
theorem runs_neq_array {T E : TypeId} {k : IntKind} {o : Oper} {act : Act} (x y : Operand) (ho : o.op = .binOp .neq T x y T) (len : Nat) (hT : P.underlying T = some (.array len E)) (hE : P.underlying E = some (.int k)) (hs : (P.info? E).map (·.size) = some 1)
    (hg : P.eqGuardType P.depth T = false) (a b : List UInt8) (ha : a.length = len) (hb : b.length = len) (hx : act.eval x = .agg (a.map Bv).toArray) (hy : act.eval y = .agg (b.map Bv).toArray) (w : World) :
    (execOp act.eval o).run P w = .ok (.value (.bool (!(a == b)))) w := by
  unfold execOp
  simp only [ho, hx, hy, Sem.run_bind, run_eqGuard_agg (P := P) w .neq T x y _ _ hg, Result.andThen_ok]
  simp only [binOp, Sem.run_bind, run_equal_array (P := P) len hT hE hs a b ha hb w, Result.andThen_ok, Sem.run_pure]
end Go.Proofs.Ytpddbffamejgeaa
