import Derived.Test.YtpddbffamejgeaaS
import Derived.Laws.Bits64b
namespace Go.Proofs.Ytpddbffamejgeaa
open Go.RowKit

/-- How many sectors so many bytes have. -/
def spanN (n : Nat) : Nat := if n > 13515 then 0 else max 1 ((n + 52) / 53)
set_option maxHeartbeats 400000 in
theorem span_any (n : Nat) (w : World) (hn : n ≤ 9223372036854775807) :
    Calls Try.prog 15 #[.int .i64 n] w fun e w' => e = .returned (.int .i64 (spanN n : Nat)) ∧ w = w' := by
  obtain ⟨s, hs⟩ : ∃ s, s = spanN n := ⟨_, rfl⟩
  rw [← hs]
  have HS := Lib.hid hs
  clear hs
  have h0 : (0 : Int) ≤ n := by omega
  by_cases h : n ≤ 13515
  · go_enter Try.func15, Try.ntmps15
    go_wp2
    all_goals
      go_ret
      have := HS.out
      unfold spanN at this
      rw [if_neg (by omega)] at this
      exact ⟨by congr 2; simp; omega, rfl⟩
  · go_enter Try.func15, Try.ntmps15
    go_wp2
    go_ret
    have := HS.out
    unfold spanN at this
    rw [if_pos (by omega)] at this
    exact ⟨by congr 2; simp; omega, rfl⟩

/-- The number of a sector's last m bytes. -/
def numTo (s : Sec) : Nat → Nat
  | 0 => 0
  | m + 1 => numTo s m * 256 + (s.getD (63 - m) 0).toNat
def numS (s : Sec) : Nat := numTo s 8
theorem numTo_lt (s : Sec) : ∀ m, numTo s m < 256 ^ m
  | 0 => by simp [numTo]
  | m + 1 => by
    have ih := numTo_lt s m
    have hb := (s.getD (63 - m) 0).toNat_lt
    simp only [numTo, Nat.pow_succ]
    omega

theorem or_byte (n b : Nat) (hn : n < 72057594037927936) (hb : b < 256) :
    bits BinOp.or IntKind.u64 (IntKind.u64.wrap ((n : Int) * 256)) (IntKind.u64.wrap (b : Int)) = ((n * 256 + b : Nat) : Int) := by
  rw [IntKind.wrap_u64, IntKind.wrap_u64]
  have e1 : ((n : Int) * 256) % 18446744073709551616 = ((n * 256 : Nat) : Int) := by omega
  have e2 : (b : Int) % 18446744073709551616 = (b : Int) := by omega
  rw [e1, e2, bits_or_u64_nat _ _ (by omega) (by omega)]
  have : n * 256 ||| b = n * 256 + b := by
    rw [show n * 256 = n <<< 8 by rw [Nat.shiftLeft_eq], Nat.shiftLeft_add_eq_or_of_lt (by omega : b < 2 ^ 8)]
  rw [this]

set_option maxRecDepth 100000 in
set_option maxHeartbeats 800000 in
theorem number_any (s : Sec) (hs : s.length = 64) (w : World) :
    Calls Try.prog 67 #[.agg (s.map Bv).toArray] w fun e w' => e = .returned (.int .u64 (numS s : Nat)) ∧ Below w.heap.size w w' := by
  have hrow := Row.new w (s.map Bv) 34
  have hbe := (Below.refl w.heap.size w).alloc (Nat.le_refl _) (.cells (s.map Bv).toArray 34)
  have HR := Lib.hid hrow
  have HB := Lib.hid hbe
  clear hrow hbe
  go_enter Try.func67, Try.ntmps67
  go_wp2_with (refine wpl_box rfl 34 (.tmp 0) rfl (s.map Bv).toArray rfl ?_)
  go_loop [3, 4] (fun n k => ∃ m : Nat, m ≤ 8 ∧ k = .int .i64 ((63 : Int) - m) ∧ n = .int .u64 (numTo s m : Nat)) (fun _ k => (intOf k - 55).toNat)
  case atStart => exact ⟨0, by omega, by simp, rfl⟩
  case round =>
    obtain ⟨m, hm, rfl, rfl⟩ := hrel
    by_cases hlt : m < 8
    · have hlt' := numTo_lt s m
      have hc : (w.alloc (.cells (s.map Bv).toArray 34)).cell? ⟨w.heap.size, 63 - m, none⟩ = some (Bv (s.getD (63 - m) 0)) := by
        rw [HR.out.cell]; simp [show 63 - m < s.length by omega]
      go_wp2
      have hlt2 : numTo s m < 72057594037927936 := by
        have h2 : 256 ^ m ≤ 256 ^ 7 := Nat.pow_le_pow_right (by omega) (by omega)
        omega
      rw [or_byte _ _ hlt2 (UInt8.toNat_lt _)]
      exact ⟨⟨m + 1, by omega, by congr 1; omega, by simp [numTo, List.getD]⟩, by simp [intOf]; omega⟩
    · obtain rfl : m = 8 := by omega
      go_wp2
      go_ret
      exact ⟨rfl, HB.out⟩


/-- The sectors of some bytes. -/
def pieceOf (b : List UInt8) (i : Nat) : List UInt8 := (b.drop (53 * i)).take 53
def secOf (total stamp : Nat) (b : List UInt8) (i : Nat) : Sec := mk i total stamp (pieceOf b i)
/-- Sectors, put one behind the other, from the i-th on; n of them are left. -/
def DS.puts (d : DS) (at_ total stamp : Nat) (b : List UInt8) (i : Nat) : Nat → DS × Nat
  | 0 => (d, 0)
  | n + 1 => let r := d.put (at_ + i) (secOf total stamp b i)
    if r.2 = 0 then r.1.puts at_ total stamp b (i + 1) n else r
def DS.write (d : DS) (at_ : Int) (stamp : Nat) (b : List UInt8) : DS × Nat :=
  if stamp = 0 ∨ spanN b.length = 0 then (d, 91)
  else if at_ < 0 ∨ at_ > (d.size : Int) - (spanN b.length : Nat) then (d, 81)
  else d.puts at_.toNat (spanN b.length) stamp b 0 (spanN b.length)

theorem Addr.add_add (a : Addr) (m n : Nat) (h : a.spot = none) : (a.add m).add n = a.add (m + n) := by
  obtain ⟨b, o, s⟩ := a
  simp at h; subst h
  unfold Addr.add
  split <;> split <;> simp_all [Nat.add_assoc]
/-- A part of a slice. -/
theorem Src.sub {w : World} {ad : Addr} {l : List Value} (h : Src w (some ad) l) (o n : Nat) (hn : o < l.length) : Src w (some (ad.add o)) ((l.drop o).take n) := by
  intro _
  obtain ⟨_, e, hc⟩ := h (by omega)
  cases e
  have hs : ad.spot = none := by
    have h0 := hc o l[o] (by simp [hn])
    obtain ⟨b, of, s⟩ := ad
    cases s with
    | none => rfl
    | some s =>
      exfalso
      have h1 := hc 0 l[0] (by simp)
      simp [Addr.add, World.cell?] at h1
      split at h1 <;> simp at h1
  refine ⟨_, rfl, fun j v hv => ?_⟩
  rw [Addr.add_add _ _ _ hs]
  refine hc (o + j) v ?_
  rw [List.getElem?_take] at hv
  split at hv
  · rwa [List.getElem?_drop] at hv
  · cases hv


/-- A piece of a slice whose cells are known. -/
theorem run_sub {P : Program} {T E : TypeId} (hT : P.underlying T = some (.slice E)) (hE : (P.info? E).map (·.size) = some 1) (ba : Option Addr) (len cap l h : Nat) (hlh : l ≤ h) (hc : h ≤ cap) (w : World) :
    (Instr.sliceAt T (.slice ba len cap) (some (.int .i64 l)) (some (.int .i64 h)) none).run P w = .ok (.slice (if cap = l then ba else ba.map (·.add l)) (h - l) (cap - l)) w := by
  obtain ⟨i, hi, hs⟩ := size_info hE
  have e0 : (0 : Int) ≤ (h : Int) ∧ (h : Int) ≤ (cap : Int) := by omega
  have e1 : (0 : Int) ≤ (l : Int) ∧ (l : Int) ≤ (h : Int) := by omega
  simp [Instr.sliceAt, Instr.slice, Instr.sliceBounds, Instr.sliceBound, asIntOf, sizeOf, typeInfo, underlying, program, Sem.run, hi, hT, Bind.bind, Sem.bind, pure, hc, hlh, hs]
theorem wpl_sub {P : Program} {ops : Array Oper} {rest : List Oper} {o : Oper} {a : Act} {w : World} {Q : Exit → Act → World → Prop} (hgd : o.guard = none) (T : TypeId) (x lo hi : Operand) (ho : o.op = .slice T x (some lo) (some hi) none)
    (E : TypeId) (hT : P.underlying T = some (.slice E)) (hE : (P.info? E).map (·.size) = some 1) (ba : Option Addr) (len cap : Nat) (l0 : List Value) (hl0 : l0.length = len) (hsrc : Src w ba l0) (hx : a.eval x = .slice ba len cap)
    (l h : Nat) (hlo : a.eval lo = .int .i64 l) (hhi : a.eval hi = .int .i64 h) (hlh : l ≤ h) (hh : h ≤ len) (hc : len ≤ cap)
    (hK : ∀ pa, Src w pa ((l0.drop l).take (h - l)) → (∀ ad, pa = some ad → ∃ ad0, ba = some ad0 ∧ ad.block = ad0.block) → wpList P ops Q rest (a.put o.dst (.slice pa (h - l) (cap - l))) w) : wpList P ops Q (o :: rest) a w := by
  refine wpList_plain hgd fun K hK' => ?_
  have hrun := run_sub (P := P) hT hE ba len cap l h hlh (Nat.le_trans hh hc) w
  have hsrc' : Src w (if cap = l then ba else ba.map (·.add l)) ((l0.drop l).take (h - l)) := by
    by_cases hlen : l < len
    · intro hp
      obtain ⟨ad, rfl, _⟩ := hsrc (by omega)
      have := hsrc.sub l (h - l) (by omega)
      rw [if_neg (by omega)]
      exact this hp
    · intro hp
      simp at hp
      omega
  unfold Oper.wp execOp
  simp only [ho, hx, hlo, hhi, Option.map_some, Option.map_none, Sem.run_bind, hrun, Result.andThen_ok, Sem.run_pure]
  refine hK' _ _ (hK _ hsrc' fun ad e => ?_)
  split at e
  · exact ⟨ad, e, rfl⟩
  · cases ba with
    | none => simp at e
    | some ad0 => simp at e; subst e; exact ⟨ad0, rfl, Addr.add_block _ _⟩

end Go.Proofs.Ytpddbffamejgeaa
