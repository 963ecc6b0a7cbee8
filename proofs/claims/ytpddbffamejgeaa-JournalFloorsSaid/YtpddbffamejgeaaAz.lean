/- Pure laws for LogKeeps. -/
import Derived.Test.YtpddbffamejgeaaAx
import Derived.Test.YtpddbffamejgeaaAt
namespace Go.Proofs.Ytpddbffamejgeaa

/-- A disk with whatever was written, without a crash. -/
structure OldP (S : Nat) (d : DS) (n : Nat) : Prop where
  fuse : d.fuse = none
  dead : d.dead = false
  whole : Whole d
  size : d.size = S
  low : ∀ k, numS (d.get k) < 4611686018427387904
  len : d.queue.length ≤ 255 * n
theorem old_blank (S : Nat) : OldP S (DS.blank S) 0 := ⟨rfl, rfl, whole_blank S, rfl, fun k => by rw [get_blank, numS_zeros]; omega, by simp [DS.blank]⟩
theorem old_write {S : Nat} {d : DS} {n : Nat} (h : OldP S d n) (a : Int) {s : Nat} (hs : s < 4611686018427387904) (b : List UInt8) : OldP S (d.write a s b).1 (n + 1) := by
  have hl := write_len d a s b
  have hw := whole_write h.whole a s b
  have hlen := h.len
  unfold DS.write at *
  by_cases h1 : s = 0 ∨ spanN b.length = 0
  · rw [if_pos h1] at *; exact ⟨h.fuse, h.dead, hw, h.size, h.low, by omega⟩
  rw [if_neg h1] at *
  by_cases h2 : a < 0 ∨ a > (d.size : Int) - (spanN b.length : Nat)
  · rw [if_pos h2] at *; exact ⟨h.fuse, h.dead, hw, h.size, h.low, by omega⟩
  rw [if_neg h2] at *
  obtain ⟨d', e, f, g, s', _, _, hg⟩ := puts_live a.toNat (spanN b.length) s b (spanN b.length) 0 d h.fuse h.dead
  simp only [e] at hw hl ⊢
  refine ⟨f, g, hw, by rw [s']; exact h.size, fun k => ?_, by omega⟩
  rw [hg]
  split
  · rw [numS_secOf b _ (by omega)]; exact hs
  · exact h.low k
theorem old_flush {S : Nat} {d : DS} {n : Nat} (h : OldP S d n) : ∃ d', d.flush = (d', 0) ∧ OldP S d' 0 ∧ d'.queue = [] := by
  obtain ⟨d', e, f, g, s, q, w, o⟩ := flush_live h.whole h.fuse h.dead
  exact ⟨d', e, ⟨f, g, w, by rw [s]; exact h.size, fun k => by rw [o]; exact h.low k, by rw [q]; simp⟩, q⟩
theorem topFrom_le (d : DS) (B : Nat) : ∀ (n i t : Nat), t ≤ B → (∀ j, i ≤ j → j < i + n → numS (d.get j) ≤ B) → topFrom d i t n ≤ B
  | 0, _, _, h, _ => h
  | n + 1, i, t, h, hj => topFrom_le d B n (i + 1) _ (by have := hj i (by omega) (by omega); omega) fun j h1 h2 => hj j (by omega) (by omega)
theorem top_le {d : DS} {i e B : Nat} (h : ∀ j, i ≤ j → j < e → numS (d.get j) ≤ B) : d.top i e ≤ B := topFrom_le d B _ _ _ (by omega) fun j h1 h2 => h j h1 (by omega)
theorem le_top {d : DS} {i e k : Nat} (h1 : i ≤ k) (h2 : k < e) : numS (d.get k) ≤ d.top i e := (topFrom_spec d (e - i) i 0).2.1 k h1 (by omega)
/-- Where a log begins over what is there. -/
theorem keep_start {S A : Nat} {d : DS} (h : OldP S d 0) (hq : d.queue = []) (hA : A ≤ S) : d.top 0 S < 4611686018427387904 ∧ d.recs A S (d.top 0 S) = ([], A) ∧ d.logV A S (d.top 0 S) = ⟨A, S, d.top 0 S + 1⟩ ∧ ∀ c, KeepP A S (d.top 0 S) (d.setFuse c) A [] := by
  have ht : d.top 0 S < 4611686018427387904 := by
    have := top_le (d := d) (i := 0) (e := S) (B := 4611686018427387903) fun j _ _ => by have := h.low j; omega
    omega
  have hk : ∀ c, KeepP A S (d.top 0 S) (d.setFuse c) A [] := fun c => ⟨h.dead, ⟨h.whole.base, h.whole.queue⟩, h.size, hq, rfl, hA, trivial, by simp, fun k h1 h2 => le_top (d := d) (Nat.zero_le _) h2, by simp; omega⟩
  have hr := (hk 0).recs_of (d' := d) h.size fun _ => rfl
  refine ⟨ht, hr, ?_, hk⟩
  unfold DS.logV DS.logStamp
  have h2 : d.top A S ≤ d.top 0 S := top_le fun j _ h2 => le_top (Nat.zero_le _) h2
  rw [hr]
  simp only [LogV.mk.injEq, true_and]
  omega
theorem KeepP.power {A S floor : Nat} {d : DS} {a : Nat} {T : List (List UInt8)} (h : KeepP A S floor d a T) (keep : List Int) : (d.power keep).recs A S floor = (T, a) :=
  h.recs_of h.size fun k => power_get h.queue keep k

end Go.Proofs.Ytpddbffamejgeaa
