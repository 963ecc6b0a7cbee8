/- Writes that are cut off, over values. -/
import Derived.Test.YtpddbffamejgeaaAs
import Derived.Test.YtpddbffamejgeaaAe
namespace Go.Proofs.Ytpddbffamejgeaa

/-- The first sectors of a write, on their way. -/
def newQ (a t n : Nat) (b : List UInt8) (i j : Nat) : List (Nat × Sec) := (List.range j).map fun q => (a + (i + q), secOf t n b (i + q))
theorem newQ_succ (a t n : Nat) (b : List UInt8) (i j : Nat) : newQ a t n b i (j + 1) = (a + i, secOf t n b i) :: newQ a t n b (i + 1) j := by
  unfold newQ
  rw [List.range_succ_eq_map, List.map_cons, List.map_map]
  simp only [Nat.add_zero, List.cons.injEq, true_and]
  apply List.map_congr_left
  intro q _
  simp only [Function.comp, Prod.mk.injEq]
  exact ⟨by omega, by congr 1; omega⟩
theorem newQ_at (a t n : Nat) (b : List UInt8) (j q : Nat) (h : q < j) : (newQ a t n b 0 j)[q]? = some (a + q, secOf t n b q) := by
  unfold newQ
  simp [h]
theorem length_newQ (a t n : Nat) (b : List UInt8) (i j : Nat) : (newQ a t n b i j).length = j := by simp [newQ]
theorem put_dead_or (d : DS) (k : Nat) (s : Sec) (_hd : d.dead = false) :
    ((d.put k s).2 = 0 ∧ (d.put k s).1.queue = d.queue ++ [(k, s)] ∧ (d.put k s).1.dead = false ∧ (d.put k s).1.base = d.base ∧ (d.put k s).1.size = d.size) ∨
    ((d.put k s).2 = 82 ∧ (d.put k s).1.queue = d.queue ∧ (d.put k s).1.dead = true ∧ (d.put k s).1.base = d.base ∧ (d.put k s).1.size = d.size) := by
  unfold DS.put
  by_cases h : d.act.dead = true
  · right; rw [if_pos h]; exact ⟨rfl, rfl, h, rfl, rfl⟩
  · left; rw [if_neg h]; exact ⟨rfl, rfl, by simpa using h, rfl, rfl⟩
/-- How far a write comes. -/
theorem puts_fuse (a t n : Nat) (b : List UInt8) : ∀ (m i : Nat) (d : DS), d.dead = false → ∃ j, j ≤ m ∧ (d.puts a t n b i m).1.queue = d.queue ++ newQ a t n b i j ∧ (d.puts a t n b i m).1.base = d.base ∧ (d.puts a t n b i m).1.size = d.size ∧
    (((d.puts a t n b i m).2 = 0 ∧ j = m ∧ (d.puts a t n b i m).1.dead = false) ∨ ((d.puts a t n b i m).2 = 82 ∧ (d.puts a t n b i m).1.dead = true))
  | 0, i, d, hd => ⟨0, Nat.le_refl _, by simp [DS.puts, newQ], rfl, rfl, Or.inl ⟨rfl, rfl, hd⟩⟩
  | m + 1, i, d, hd => by
    simp only [DS.puts]
    rcases put_dead_or d (a + i) (secOf t n b i) hd with ⟨h0, h1, h2, h3, h4⟩ | ⟨h0, h1, h2, h3, h4⟩
    · rw [if_pos h0]
      obtain ⟨j, hj, e1, e2, e3, e4⟩ := puts_fuse a t n b m (i + 1) _ h2
      refine ⟨j + 1, by omega, ?_, by rw [e2, h3], by rw [e3, h4], ?_⟩
      · rw [e1, h1, newQ_succ]; simp
      · rcases e4 with ⟨e5, e6, e7⟩ | e4
        · exact Or.inl ⟨e5, by omega, e7⟩
        · exact Or.inr e4
    · rw [if_neg (by omega)]
      exact ⟨0, by omega, by rw [h1]; simp [newQ], h3, h4, Or.inr ⟨h0, h2⟩⟩
theorem flush_fuse {d : DS} (h : Whole d) (_hd : d.dead = false) :
    (d.flush.2 = 0 ∧ d.flush.1.dead = false ∧ d.flush.1.size = d.size ∧ d.flush.1.queue = [] ∧ Whole d.flush.1 ∧ ∀ k, d.flush.1.get k = d.get k) ∨
    (d.flush.2 = 82 ∧ d.flush.1.dead = true ∧ d.flush.1.size = d.size ∧ d.flush.1.queue = d.queue ∧ d.flush.1.base = d.base) := by
  unfold DS.flush
  by_cases hc : d.act.dead = true
  · right; rw [if_pos hc]; exact ⟨rfl, hc, rfl, rfl, rfl⟩
  · left; rw [if_neg hc]
    refine ⟨rfl, by simpa using hc, rfl, rfl, ⟨fun k => len_landK h.base h.queue _ k, by simp⟩, fun k => ?_⟩
    show (restOf [] k).getLast?.getD (landQ (fun _ => 64) d.queue d.base k) = _
    rw [landQ, landK_full h.base h.queue, List.take_of_length_le (Nat.le_refl _)]
    rfl
theorem get_empty {d : DS} (h : d.queue = []) (k : Nat) : d.get k = d.base k := by unfold DS.get; rw [h]; rfl
theorem restOf_newQ (a t n : Nat) (b : List UInt8) (k : Nat) : ∀ j, restOf (newQ a t n b 0 j) k = if a ≤ k ∧ k < a + j then [secOf t n b (k - a)] else []
  | 0 => by rw [if_neg (by omega)]; rfl
  | j + 1 => by
    have ih := restOf_newQ a t n b k j
    have e : newQ a t n b 0 (j + 1) = newQ a t n b 0 j ++ [(a + j, secOf t n b j)] := by
      unfold newQ
      rw [List.range_succ, List.map_append]
      simp
    rw [e, restOf_snoc]
    unfold fset
    by_cases hk : k = a + j
    · subst hk
      rw [if_pos rfl, ih, if_neg (by omega), if_pos (by omega)]
      simp
    · rw [if_neg hk, ih]
      by_cases hr : a ≤ k ∧ k < a + j
      · rw [if_pos hr, if_pos (by omega)]
      · rw [if_neg hr, if_neg (by omega)]
/-- What a write of which nothing is lost shows. -/
theorem get_newQ {d d' : DS} {a t n : Nat} {b : List UInt8} {j : Nat} (hq : d.queue = []) (h1 : d'.queue = d.queue ++ newQ a t n b 0 j) (h2 : d'.base = d.base) (k : Nat) : d'.get k = if a ≤ k ∧ k < a + j then secOf t n b (k - a) else d.get k := by
  unfold DS.get
  rw [h1, hq, h2, List.nil_append, restOf_newQ]
  by_cases hr : a ≤ k ∧ k < a + j
  · rw [if_pos hr, if_pos hr]; rfl
  · rw [if_neg hr, if_neg hr]; rfl
/-- A write that was cut off, behind a crash. -/
theorem power_newQ {d d' : DS} {a t n : Nat} {b : List UInt8} {j : Nat} (hq : d.queue = []) (h1 : d'.queue = d.queue ++ newQ a t n b 0 j) (h2 : d'.base = d.base) (keep : List Int) (k : Nat) :
    (d'.power keep).get k = if a ≤ k ∧ k < a + j then land (d.get k) (secOf t n b (k - a)) (keptOf keep (k - a)) else d.get k := by
  have hk : (d'.power keep).get k = landQ (keptOf keep) d'.queue d'.base k := rfl
  rw [hk, landQ, h1, hq, List.nil_append, h2, length_newQ, landK_row (a := a) (f := fun q => secOf t n b q) j (fun q hq' => newQ_at a t n b j q hq') k]
  rw [get_empty hq]
theorem power_get {d : DS} (h : d.queue = []) (keep : List Int) (k : Nat) : (d.power keep).get k = d.get k := by
  have hk : (d.power keep).get k = landQ (keptOf keep) d.queue d.base k := rfl
  rw [hk, landQ, h, get_empty h]; rfl
theorem numS_secOf {t n : Nat} (b : List UInt8) (i : Nat) (hn : n < 18446744073709551616) : numS (secOf t n b i) = n := numS_mk _ _ _ _ (by rw [length_pieceOf]; omega) hn

/-- A write, part of which came into the base: what is read there with a stamp that is not less is just the write. -/
theorem torn_read {d d' : DS} {a : Nat} {n : Nat} {b : List UInt8} {j : Nat} {e : Nat} (c : Nat → Nat) (hw : ∀ k, (d.get k).length = 64) (hlow : ∀ k, a ≤ k → k < e → numS (d.get k) < n) (hn : n < 18446744073709551616) (hj : j ≤ spanN b.length)
    (hg : ∀ k, d'.get k = if a ≤ k ∧ k < a + j then land (d.get k) (secOf (spanN b.length) n b (k - a)) (c (k - a)) else d.get k)
    {x : List UInt8} {m many : Nat} (hr : d'.read a e = ⟨x, m, many, 0⟩) (hm : n ≤ m) : x = b ∧ m = n ∧ many = spanN b.length ∧ Stands d' a n b := by
  obtain ⟨hm1, hm2, hn0, hn64, hst, hfit, _, _⟩ := stands_of_read hr
  have hp : ∀ (x : List UInt8) k, (pieceOf x k).length ≤ 53 := fun x k => by rw [length_pieceOf]; omega
  have hm255 : many < 256 := by rw [hm1]; have := spanN_le x.length; omega
  have hall : ∀ k, k < many → k < spanN b.length ∧ d'.get (a + k) = secOf (spanN b.length) n b k := by
    intro k hk
    have h1 := hst k (by omega)
    have hnum : numS (secOf (spanN x.length) m x k) = m := numS_mk _ _ _ _ (hp x k) hn64
    have hgk := hg (a + k)
    have hl := hlow (a + k) (by omega) (by omega)
    by_cases hks : k < j
    · rw [if_pos (by omega), show a + k - a = k by omega] at hgk
      refine ⟨by omega, ?_⟩
      have hx : n - 1 < numS (land (d.get (a + k)) (secOf (spanN b.length) n b k) (c k)) := by rw [← hgk, h1, hnum]; omega
      rw [hgk]
      exact mix_new (hw _) (length_secOf _ _ _ _) _ (n - 1) (by omega) (by rw [numS_secOf b k hn]; omega) hx
    · rw [if_neg (by omega)] at hgk
      rw [← hgk, h1, hnum] at hl
      omega
  have hsec : ∀ k, k < many → secOf (spanN x.length) m x k = secOf (spanN b.length) n b k := fun k hk => by rw [← hst k (by omega)]; exact (hall k hk).2
  have hmn : m = n := by
    have h1 := hsec 0 (by omega)
    have := congrArg numS h1
    rwa [numS_secOf x 0 hn64, numS_secOf b 0 hn] at this
  have hs0 := (hall 0 (by omega)).1
  have hb255 := spanN_le b.length
  have hmany : many = spanN b.length := by
    have h1 := hsec 0 (by omega)
    have := congrArg (fun s : Sec => (s.getD 1 0).toNat) h1
    simp only [secOf] at this
    rw [tot_mk _ _ _ _ (by omega), tot_mk _ _ _ _ (by omega)] at this
    omega
  have hpieces : (List.range many).flatMap (pieceOf x) = (List.range many).flatMap (pieceOf b) := by
    refine flatMap_congr' _ fun k hk => ?_
    have h1 := hsec k (by simpa using hk)
    have := congrArg bodyOf h1
    simp only [secOf] at this
    rwa [body_mk _ _ _ _ (hp x k), body_mk _ _ _ _ (hp b k)] at this
  rw [pieces_cat, pieces_cat] at hpieces
  have hxl := spanN_hi (n := x.length) (by omega)
  have hbl := spanN_hi (n := b.length) (by omega)
  rw [List.take_of_length_le (by omega), List.take_of_length_le (by omega)] at hpieces
  exact ⟨hpieces, hmn, hmany, fun k hk => (hall k (by omega)).2⟩

end Go.Proofs.Ytpddbffamejgeaa
