/- Lists of bytes in memory: a slice of slices. -/
import Derived.Test.YtpddbffamejgeaaAm
import Derived.Maps.AppendAt
namespace Go.Proofs.Ytpddbffamejgeaa
open Go.RowKit Go.Proofs.YtpddbffamejgeaaW.PrintLast

/-- A slice of bytes that somebody holds, in a block of F. -/
structure InnerAt (w : World) (F : Nat → Prop) (u : Value) (l : List UInt8) (pa : Option Addr) (c : Nat) : Prop where
  val : u = .slice pa l.length c
  src : Src w pa (l.map Bv)
  fits : l.length ≤ c
  small : c ≤ maxLen
  inF : 0 < l.length → ∀ ad, pa = some ad → F ad.block
theorem Src.lt {w : World} {ad : Addr} {l : List Value} (h : Src w (some ad) l) (hl : 0 < l.length) : ad.block < w.heap.size := by
  obtain ⟨ad', e, hc⟩ := h hl
  cases e
  have h0 := hc 0 l[0] (by simp)
  have := block_lt_of_cell h0
  rwa [Addr.add_block] at this
theorem Src.byte_nil (w : World) (pa : Option Addr) {l : List UInt8} (h : ¬ 0 < l.length) : Src w pa (l.map Bv) := by
  have : l = [] := List.eq_nil_of_length_eq_zero (by omega)
  subst this; exact Src.nil _ _
theorem InnerAt.of_block {w w' : World} {F : Nat → Prop} {u : Value} {l : List UInt8} {pa : Option Addr} {c : Nat} (h : InnerAt w F u l pa c) (hb : ∀ k, F k → k < w.heap.size → w'.heap[k]? = w.heap[k]?) : InnerAt w' F u l pa c where
  val := h.val
  src := by
    by_cases hl : 0 < l.length
    · exact h.src.of_block fun ad e hlt => hb _ (h.inF hl ad e) hlt
    · exact Src.byte_nil _ _ hl
  fits := h.fits
  small := h.small
  inF := h.inF
theorem InnerAt.mono {w : World} {F G : Nat → Prop} {u : Value} {l : List UInt8} {pa : Option Addr} {c : Nat} (h : InnerAt w F u l pa c) (hg : ∀ k, k < w.heap.size → F k → G k) : InnerAt w G u l pa c where
  val := h.val
  src := h.src
  fits := h.fits
  small := h.small
  inF := fun hl ad e => hg _ (by have := h.src; subst e; exact this.lt (by simpa using hl)) (h.inF hl ad e)
/-- A slice of slices of bytes, in blocks of F. -/
def ListsAt (w : World) (F : Nat → Prop) (v : Value) (L : List (List UInt8)) : Prop :=
  ∃ vs : List Value, w.ownsRow 0 23 1 v L.length vs ∧ (∀ g, v.ownBlock = some g → F g) ∧
    ∀ (i : Nat) (l : List UInt8), L[i]? = some l → ∃ (u : Value) (pa : Option Addr) (c : Nat), vs[i]? = some u ∧ InnerAt w (fun k => F k ∧ some k ≠ v.ownBlock) u l pa c
theorem ListsAt.nil (w : World) (F : Nat → Prop) : ListsAt w F (.slice none 0 0) [] :=
  ⟨[], World.ownsRow_nil _ _ _ _, (fun g hg => by cases hg), (fun i l hi => by simp at hi)⟩
theorem ListsAt.of_block {w w' : World} {F : Nat → Prop} {v : Value} {L : List (List UInt8)} (h : ListsAt w F v L) (hb : ∀ k, F k → k < w.heap.size → w'.heap[k]? = w.heap[k]?) : ListsAt w' F v L := by
  obtain ⟨vs, h1, h2, h3⟩ := h
  refine ⟨vs, ownsRow_of_block h1 fun g hg => hb g (h2 g hg) (h1.lt g hg).2, h2, fun i l hi => ?_⟩
  obtain ⟨u, pa, c, e, hu⟩ := h3 i l hi
  exact ⟨u, pa, c, e, hu.of_block fun k hk => hb k hk.1⟩
theorem ListsAt.below {w w' : World} {F : Nat → Prop} {v : Value} {L : List (List UInt8)} (h : ListsAt w F v L) (hb : Below w.heap.size w w') : ListsAt w' F v L := h.of_block fun k _ hk => hb.block k hk
theorem ListsAt.mono {w : World} {F G : Nat → Prop} {v : Value} {L : List (List UInt8)} (h : ListsAt w F v L) (hg : ∀ k, k < w.heap.size → F k → G k) : ListsAt w G v L := by
  obtain ⟨vs, h1, h2, h3⟩ := h
  refine ⟨vs, h1, fun g hgv => hg g (h1.lt g hgv).2 (h2 g hgv), fun i l hi => ?_⟩
  obtain ⟨u, pa, c, e, hu⟩ := h3 i l hi
  exact ⟨u, pa, c, e, hu.mono fun k hk hf => ⟨hg k hk hf.1, hf.2⟩⟩
theorem ListsAt.len {w : World} {F : Nat → Prop} {v : Value} {L : List (List UInt8)} (h : ListsAt w F v L) : ∃ pa c, v = .slice pa L.length c ∧ L.length ≤ c ∧ c ≤ maxLen := by
  obtain ⟨vs, h1, _, _⟩ := h
  rcases h1.2 with ⟨rfl, h0⟩ | ⟨g, cap, cur, rfl, _, _, h2, h3, _⟩
  · exact ⟨none, 0, by rw [h0], by omega, by unfold maxLen; omega⟩
  · exact ⟨_, _, rfl, h2, h3⟩
theorem info23 : (Try.prog.info? 23).map (fun i => (i.zero, i.size, i.bytes)) = some (some (.slice none 0 0), 1, 24) := by kernel_rfl
/-- One more of them. -/
theorem wpl_append_list {ops : Array Oper} {rest : List Oper} {o : Oper} {a : Act} {w : World} {Q : Exit → Act → World → Prop} (hgd : o.guard = none) (s x : Operand)
    (ho : o.op = .call { callee := .builtin .append, args := #[s, x], argTypes := #[64, 64] }) {F : Nat → Prop} {v : Value} {L : List (List UInt8)} (hL : ListsAt w F v L) (hs : a.eval s = v)
    (g : Nat) (hx : a.eval x = .slice (some ⟨g, 0, none⟩) 1 1) (u : Value) (l : List UInt8) (pa : Option Addr) (c : Nat) (hu : InnerAt w (fun k => F k ∧ some k ≠ v.ownBlock) u l pa c) (hg : Row w g [u] 23) (hF : F w.heap.size) (h63 : L.length ≤ 1000000)
    (h : ∀ v' w', ListsAt w' F v' (L ++ [l]) → w.grownBy w' v.ownBlock → wpList Try.prog ops Q rest (a.put o.dst v') w') : wpList Try.prog ops Q (o :: rest) a w := by
  obtain ⟨i5, hi5, hz5, hs5, hb5⟩ := info_parts info23
  obtain ⟨vs, h1, h2, h3⟩ := hL
  refine wpList_plain hgd fun _ hK => ?_
  obtain ⟨v', w', hr, hown, hgr, _, hat⟩ := run_append_own_at (P := Try.prog) w 0 64 o.type 23 i5 _ 1 24 Try.underlying64 hi5 hz5 hs5 hb5 rfl (by omega) v L.length vs h1 ⟨g, 0, none⟩ 1 1 [u] rfl
    (fun j y hj => by
      have hj0 : j = 0 := by
        rcases Nat.eq_zero_or_pos j with h | h
        · exact h
        · rw [List.getElem?_eq_none (by simp; omega)] at hj; cases hj
      subst hj0
      rw [add_zero_addr _ rfl, hg.cell]; exact hj) (by rw [hu.val]; intro y hy; simp at hy; subst hy; rfl) (by unfold maxLen; omega) (by omega) (Nat.zero_le _)
  unfold Oper.wp execOp
  simp only [ho, resolve, invoke, builtin, Sem.run_bind, Sem.run_pure, Result.andThen_ok, List.map_toArray, List.map_cons, List.map_nil, hs, hx, hr]
  refine hK _ _ (h v' w' ⟨vs ++ [u], by simpa using hown, fun k hk => ?_, fun i y hi => ?_⟩ hgr)
  · rcases hat with e | e
    · exact h2 k (by rw [← e]; exact hk)
    · rw [e] at hk; cases hk; exact hF
  · have hvl : vs.length = L.length := by have := h1.1; omega
    have keep : ∀ y u pa c, InnerAt w (fun k => F k ∧ some k ≠ v.ownBlock) u y pa c → InnerAt w' (fun k => F k ∧ some k ≠ v'.ownBlock) u y pa c := fun y u pa c hi => by
      have h1 := hi.of_block (w' := w') fun k hk hlt => hgr.block k hlt hk.2
      have h2 : ∀ k, k < w.heap.size → (F k ∧ some k ≠ v.ownBlock) → (F k ∧ some k ≠ v'.ownBlock) := fun k hk hf => ⟨hf.1, by
        rcases hat with e | e
        · rw [e]; exact hf.2
        · rw [e]; intro e2; cases e2; omega⟩
      exact ⟨h1.val, h1.src, h1.fits, h1.small, fun hl ad e => h2 _ (by have := hi.src; subst e; exact this.lt (by simpa using hl)) (hi.inF hl ad e)⟩
    rcases Nat.lt_or_ge i L.length with hlt | hge
    · rw [List.getElem?_append_left hlt] at hi
      obtain ⟨u', pa', c', e, hu'⟩ := h3 i y hi
      exact ⟨u', pa', c', by rw [List.getElem?_append_left (by omega)]; exact e, keep _ _ _ _ hu'⟩
    · have hie : i = L.length := by
        rcases Nat.lt_or_ge i (L.length + 1) with h | h
        · omega
        · rw [List.getElem?_eq_none (by simp; omega)] at hi; cases hi
      subst hie
      rw [List.getElem?_append_right (Nat.le_refl _)] at hi
      simp at hi
      subst hi
      exact ⟨u, pa, c, by rw [List.getElem?_append_right (by omega)]; simp [hvl], keep _ _ _ _ hu⟩

end Go.Proofs.Ytpddbffamejgeaa
