/- The stamp's laws over values: what is written is read; what reads so was written so. -/
import Derived.Test.YtpddbffamejgeaaY
namespace Go.Proofs.Ytpddbffamejgeaa

theorem getD_mk_tail (i t s : Nat) (p : List UInt8) (hp : p.length ≤ 53) (m : Nat) (hm : m < 8) : (mk i t s p).getD (63 - m) 0 = nth s (7 - m) := by
  have e : mk i t s p = (UInt8.ofNat i :: UInt8.ofNat t :: UInt8.ofNat p.length :: (p ++ List.replicate (53 - p.length) 0)) ++ (List.range 8).map (nth s) := by simp [mk]
  have hl : 63 - m = (UInt8.ofNat i :: UInt8.ofNat t :: UInt8.ofNat p.length :: (p ++ List.replicate (53 - p.length) (0 : UInt8))).length + (7 - m) := by simp; omega
  rw [e, hl, List.getD_eq_getElem?_getD, List.getElem?_append_right (by omega)]
  simp [show 7 - m < 8 by omega]
theorem nth_toNat (s k : Nat) : (nth s k).toNat = s / 256 ^ k % 256 := by simp [nth]
theorem numTo_mk (i t s : Nat) (p : List UInt8) (hp : p.length ≤ 53) (hs : s < 18446744073709551616) : ∀ m, m ≤ 8 → numTo (mk i t s p) m = s / 256 ^ (8 - m)
  | 0, _ => by simp [numTo]; exact (Nat.div_eq_of_lt (by omega)).symm
  | m + 1, h => by
    have ih := numTo_mk i t s p hp hs m (by omega)
    simp only [numTo, ih]
    rw [getD_mk_tail i t s p hp m (by omega), nth_toNat]
    have e : 8 - m = (7 - m) + 1 := by omega
    have e2 : 8 - (m + 1) = 7 - m := by omega
    rw [e2, e, Nat.pow_succ, ← Nat.div_div_eq_div_mul]
    omega
theorem numS_mk (i t s : Nat) (p : List UInt8) (hp : p.length ≤ 53) (hs : s < 18446744073709551616) : numS (mk i t s p) = s := by
  have := numTo_mk i t s p hp hs 8 (by omega)
  simpa [numS] using this
theorem tot_mk (i t s : Nat) (p : List UInt8) (ht : t < 256) : ((mk i t s p).getD 1 0).toNat = t := by simp [mk]; omega
theorem idx_mk (i t s : Nat) (p : List UInt8) (ht : i < 256) : ((mk i t s p).getD 0 0).toNat = i := by simp [mk]; omega
theorem cnt_mk (i t s : Nat) (p : List UInt8) (hp : p.length ≤ 53) : cntOf (mk i t s p) = p.length := by simp [cntOf, mk]; omega
theorem body_mk (i t s : Nat) (p : List UInt8) (hp : p.length ≤ 53) : bodyOf (mk i t s p) = p := by
  unfold bodyOf
  rw [cnt_mk i t s p hp]
  simp [mk]
theorem length_mk' (i t s : Nat) (p : List UInt8) : (mk i t s p).length = 3 + (p.length + (53 - p.length + 8)) := by simp [mk]; omega
theorem numS_lt (s : Sec) : numS s < 18446744073709551616 := numTo_lt s 8
theorem numS_zeros : numS zeros = 0 := by decide +kernel

/-! ### Spans and pieces -/
theorem spanN_le (n : Nat) : spanN n ≤ 255 := by unfold spanN; split <;> omega
theorem spanN_pos {n : Nat} (h : n ≤ 13515) : 1 ≤ spanN n := by unfold spanN; split <;> omega
theorem spanN_hi {n : Nat} (h : spanN n ≠ 0) : n ≤ spanN n * 53 := by unfold spanN at *; split at h <;> (try split) <;> omega
theorem spanN_lo {n : Nat} : spanN n * 53 ≤ n + 52 ∨ spanN n = 1 := by unfold spanN; split <;> omega
theorem spanN_eq {n t : Nat} (ht0 : 0 < t) (ht : t ≤ 255) (h1 : n ≤ t * 53) (h2 : (t - 1) * 53 < n ∨ t = 1) : spanN n = t := by unfold spanN; split <;> omega
theorem pieces_full (b : List UInt8) (k : Nat) (h : k + 1 < spanN b.length) : (pieceOf b k).length = 53 := by
  have := @spanN_lo b.length
  rw [length_pieceOf]; omega
theorem full_piece (b : List UInt8) (k : Nat) (h : k < spanN b.length) : fullB (spanN b.length) k (pieceOf b k).length = true := by
  have h1 := @spanN_lo b.length
  have h2 := spanN_hi (n := b.length) (by omega)
  have h3 := length_pieceOf b k
  unfold fullB
  by_cases hk : k + 1 = spanN b.length
  · simp; omega
  · have := pieces_full b k (by omega)
    simp [this]
theorem pieces_cat (b : List UInt8) : ∀ k, (List.range k).flatMap (pieceOf b) = b.take (53 * k)
  | 0 => by simp
  | k + 1 => by
    rw [List.range_succ, List.flatMap_append, pieces_cat b k]
    simp only [List.flatMap_cons, List.flatMap_nil, List.append_nil, pieceOf]
    rw [show 53 * (k + 1) = 53 * k + 53 by omega, ← List.take_add]

/-- Some bytes stand from a sector on, with a stamp. -/
def Stands (d : DS) (a n : Nat) (b : List UInt8) : Prop := ∀ k, k < spanN b.length → d.get (a + k) = secOf (spanN b.length) n b k

theorem bodies_eq (d : DS) (a : Nat) : ∀ k, bodies d a k = (List.range k).flatMap fun j => bodyOf (d.get (a + j))
  | 0 => rfl
  | k + 1 => by rw [bodies, bodies_eq d a k, List.range_succ, List.flatMap_append]; simp
theorem flatMap_congr' {α β : Type} {f g : α → List β} : ∀ (l : List α), (∀ x ∈ l, f x = g x) → l.flatMap f = l.flatMap g
  | [], _ => rfl
  | x :: l, h => by simp only [List.flatMap_cons]; rw [h x (by simp), flatMap_congr' l fun y hy => h y (by simp [hy])]

theorem read_stands {d : DS} {a n : Nat} {b : List UInt8} (h : Stands d a n b) (hs : spanN b.length ≠ 0) (hn : n ≠ 0) (hn2 : n < 18446744073709551616) {e : Int} (he : e ≤ d.size) (hfit : (a : Int) + (spanN b.length : Nat) ≤ e) :
    d.read a e = ⟨b, n, spanN b.length, 0⟩ := by
  have ht := spanN_le b.length
  have hp : ∀ k, (pieceOf b k).length ≤ 53 := fun k => by rw [length_pieceOf]; omega
  have h0 := h 0 (by omega)
  simp only [Nat.add_zero] at h0
  have hnum : numS (d.get a) = n := by rw [h0]; exact numS_mk _ _ _ _ (hp 0) hn2
  have htot : ((d.get a).getD 1 0).toNat = spanN b.length := by rw [h0]; exact tot_mk _ _ _ _ (by omega)
  unfold DS.read
  rw [if_neg (by omega), if_neg (by omega)]
  simp only [Int.toNat_natCast, hnum, htot]
  rw [if_neg (by omega), if_pos]
  · congr 1
    rw [bodies_eq]
    have : (List.range (spanN b.length)).flatMap (fun j => bodyOf (d.get (a + j))) = (List.range (spanN b.length)).flatMap (pieceOf b) := by
      refine flatMap_congr' _ fun k hk => ?_
      rw [h k (by simpa using hk)]
      exact body_mk _ _ _ _ (hp k)
    rw [this, pieces_cat, List.take_of_length_le (by have := spanN_hi hs; omega)]
  · rw [List.all_eq_true]
    intro k hk
    have hk' : k < spanN b.length := by simpa using hk
    unfold okS
    rw [h k hk']
    unfold secOf
    rw [cnt_mk _ _ _ _ (hp k), full_piece b k hk', body_mk _ _ _ _ (hp k)]
    simp

theorem flatMap_pieces : ∀ (t : Nat) (f : Nat → List UInt8), (∀ k, k + 1 < t → (f k).length = 53) → (∀ k, k < t → (f k).length ≤ 53) → ∀ k, k < t → pieceOf ((List.range t).flatMap f) k = f k
  | 0, _, _, _, k, hk => by omega
  | t + 1, f, h1, h2, k, hk => by
    have hr : List.range (t + 1) = 0 :: (List.range t).map (· + 1) := by rw [List.range_succ_eq_map]
    rw [hr, List.flatMap_cons, List.flatMap_map]
    cases k with
    | zero =>
      unfold pieceOf
      simp only [Nat.mul_zero, List.drop_zero]
      by_cases ht : t = 0
      · subst ht; simp; exact List.take_of_length_le (h2 0 (by omega))
      · have := h1 0 (by omega)
        rw [List.take_append_of_le_length (by omega), List.take_of_length_le (by omega)]
    | succ k =>
      have hf0 := h1 0 (by omega)
      have ih := flatMap_pieces t (fun j => f (j + 1)) (fun j hj => h1 (j + 1) (by omega)) (fun j hj => h2 (j + 1) (by omega)) k (by omega)
      rw [← ih]
      unfold pieceOf
      rw [show 53 * (k + 1) = (f 0).length + 53 * k by omega, List.drop_append, List.drop_of_length_le (by omega), List.nil_append]
      simp

/-- What is read without an error stands there. -/
theorem stands_of_read {d : DS} {a : Nat} {e : Int} {b : List UInt8} {n many : Nat} (h : d.read a e = ⟨b, n, many, 0⟩) :
    many = spanN b.length ∧ many ≠ 0 ∧ n ≠ 0 ∧ n < 18446744073709551616 ∧ Stands d a n b ∧ (a : Int) + (many : Nat) ≤ e ∧ e ≤ d.size ∧ numS (d.get a) = n := by
  unfold DS.read at h
  by_cases h1 : (a : Int) < 0 ∨ e > d.size
  · rw [if_pos h1] at h; simp at h
  rw [if_neg h1] at h
  by_cases h2 : (a : Int) ≥ e
  · rw [if_pos h2] at h; simp at h
  rw [if_neg h2] at h
  simp only [Int.toNat_natCast] at h
  obtain ⟨st, hst⟩ : ∃ st, st = numS (d.get a) := ⟨_, rfl⟩
  obtain ⟨tot, htot⟩ : ∃ t, t = ((d.get a).getD 1 0).toNat := ⟨_, rfl⟩
  rw [← hst, ← htot] at h
  by_cases h3 : st = 0 ∨ tot = 0 ∨ (tot : Int) > e - a
  · rw [if_pos h3] at h; simp at h
  rw [if_neg h3] at h
  by_cases h4 : (List.range tot).all (okS d a tot st) = true
  · rw [if_pos h4] at h
    simp only [RR.mk.injEq, and_true] at h
    obtain ⟨hb, rfl, rfl⟩ := h
    have ht255 : tot < 256 := by rw [htot]; exact UInt8.toNat_lt _
    have hok : ∀ k, k < tot → fullB tot k (cntOf (d.get (a + k))) = true ∧ d.get (a + k) = mk k tot st (bodyOf (d.get (a + k))) := by
      intro k hk
      have := (List.all_eq_true.1 h4) k (by simpa using hk)
      unfold okS at this
      simpa using this
    have hcl : ∀ k, k < tot → (bodyOf (d.get (a + k))).length = cntOf (d.get (a + k)) ∧ cntOf (d.get (a + k)) ≤ 53 ∧ (k + 1 < tot → cntOf (d.get (a + k)) = 53) ∧ (k + 1 = tot → 0 < cntOf (d.get (a + k)) ∨ k = 0) := by
      intro k hk
      obtain ⟨hf, hm⟩ := hok k hk
      have hc53 : cntOf (d.get (a + k)) ≤ 53 := by simp [fullB] at hf; omega
      have hlen : (d.get (a + k)).length = 3 + ((bodyOf (d.get (a + k))).length + (53 - (bodyOf (d.get (a + k))).length + 8)) := by
        have := congrArg List.length hm
        rwa [length_mk'] at this
      refine ⟨?_, hc53, fun hk2 => ?_, fun hk2 => ?_⟩
      · unfold bodyOf at *
        simp only [List.length_take, List.length_drop] at *
        omega
      · simp [fullB] at hf; omega
      · simp [fullB] at hf; omega
    have hbe : b = (List.range tot).flatMap fun j => bodyOf (d.get (a + j)) := by rw [← hb, bodies_eq]
    have hpc : ∀ k, k < tot → pieceOf b k = bodyOf (d.get (a + k)) := by
      rw [hbe]
      exact flatMap_pieces tot _ (fun k hk => by rw [(hcl k (by omega)).1]; exact (hcl k (by omega)).2.2.1 hk) (fun k hk => by rw [(hcl k hk).1]; exact (hcl k hk).2.1)
    have hsp : spanN b.length = tot := by
      have hl := hcl (tot - 1) (by omega)
      have hpl := length_pieceOf b (tot - 1)
      rw [hpc (tot - 1) (by omega), hl.1] at hpl
      have hle : b.length ≤ tot * 53 := by
        rw [hbe, List.length_flatMap]
        have : ∀ (l : List Nat), (∀ k ∈ l, k < tot) → (l.map fun j => (bodyOf (d.get (a + j))).length).sum ≤ l.length * 53 := by
          intro l
          induction l with
          | nil => intro _; simp
          | cons x l ih =>
            intro hx
            have := ih fun k hk => hx k (by simp [hk])
            have h1 := hcl x (hx x (by simp))
            simp only [List.map_cons, List.sum_cons, List.length_cons]
            omega
        have := this (List.range tot) (fun k hk => by simpa using hk)
        simpa using this
      refine spanN_eq (by omega) (by omega) hle ?_
      rcases hl.2.2.2 (by omega) with h | h
      · left; omega
      · right; omega
    refine ⟨hsp.symm, by omega, by omega, by rw [hst]; exact numS_lt _, fun k hk => ?_, by omega, by omega, hst.symm⟩
    rw [hsp] at hk ⊢
    rw [(hok k hk).2, secOf, hpc k hk]
  · rw [if_neg h4] at h; simp at h


theorem get_put (d : DS) (k : Nat) (s : Sec) (h : (d.put k s).2 = 0) (j : Nat) : (d.put k s).1.get j = if j = k then s else d.get j := by
  unfold DS.put at *
  split at h
  · simp at h
  · rename_i hd
    simp only [hd, if_false, Bool.false_eq_true]
    show ((restOf (d.queue ++ [(k, s)]) j).getLast?.getD (d.base j)) = _
    rw [restOf_snoc]
    unfold fset
    by_cases hj : j = k
    · simp [hj]
    · simp only [hj, if_false]; rfl
theorem put_live (d : DS) (k : Nat) (s : Sec) (hf : d.fuse = none) (hd : d.dead = false) : d.put k s = ({ d with queue := d.queue ++ [(k, s)] }, 0) := by
  simp [DS.put, DS.act, actD, actF, hf, hd]
theorem puts_live (a t n : Nat) (b : List UInt8) : ∀ (m i : Nat) (d : DS), d.fuse = none → d.dead = false →
    ∃ d', d.puts a t n b i m = (d', 0) ∧ d'.fuse = none ∧ d'.dead = false ∧ d'.size = d.size ∧ d'.base = d.base ∧ d'.queue.length = d.queue.length + m ∧ ∀ k, d'.get k = if a + i ≤ k ∧ k < a + i + m then secOf t n b (k - a) else d.get k
  | 0, i, d, hf, hd => ⟨d, rfl, hf, hd, rfl, rfl, rfl, fun k => by rw [if_neg (by omega)]⟩
  | m + 1, i, d, hf, hd => by
    have hp := put_live d (a + i) (secOf t n b i) hf hd
    obtain ⟨d', h1, h2, h3, h4, h5, h6, h7⟩ := puts_live a t n b m (i + 1) { d with queue := d.queue ++ [(a + i, secOf t n b i)] } hf hd
    refine ⟨d', ?_, h2, h3, h4, h5, by rw [h6]; simp; omega, fun k => ?_⟩
    · simp only [DS.puts, hp, if_true]; exact h1
    · rw [h7 k]
      have hg := get_put d (a + i) (secOf t n b i) (by rw [hp]) k
      rw [hp] at hg
      rw [hg]
      by_cases hk : k = a + i
      · subst hk; rw [if_neg (by omega), if_pos rfl, if_pos (by omega)]; congr 1; omega
      · rw [if_neg hk]
        by_cases hr : a + (i + 1) ≤ k ∧ k < a + (i + 1) + m
        · rw [if_pos hr, if_pos (by omega)]
        · rw [if_neg hr, if_neg (by omega)]
theorem write_live (d : DS) (a n : Nat) (b : List UInt8) (hf : d.fuse = none) (hd : d.dead = false) (hn : n ≠ 0) (hs : spanN b.length ≠ 0) (hfit : a + spanN b.length ≤ d.size) :
    ∃ d', d.write a n b = (d', 0) ∧ d'.fuse = none ∧ d'.dead = false ∧ d'.size = d.size ∧ d'.base = d.base ∧ d'.queue.length = d.queue.length + spanN b.length ∧ Stands d' a n b ∧ ∀ k, (k < a ∨ a + spanN b.length ≤ k) → d'.get k = d.get k := by
  obtain ⟨d', h1, h2, h3, h4, h5, h6, h7⟩ := puts_live a (spanN b.length) n b (spanN b.length) 0 d hf hd
  refine ⟨d', ?_, h2, h3, h4, h5, h6, fun k hk => ?_, fun k hk => ?_⟩
  · unfold DS.write
    rw [if_neg (by omega), if_neg (by omega)]
    simpa using h1
  · rw [h7, if_pos (by omega)]; congr 1; omega
  · rw [h7, if_neg (by omega)]

end Go.Proofs.Ytpddbffamejgeaa
