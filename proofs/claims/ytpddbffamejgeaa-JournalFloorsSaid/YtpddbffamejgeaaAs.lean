/- The log's laws over values: what was appended is read. -/
import Derived.Test.YtpddbffamejgeaaAq
namespace Go.Proofs.Ytpddbffamejgeaa

/-- All sectors are whole. -/
structure Whole (d : DS) : Prop where
  base : ∀ k, (d.base k).length = 64
  queue : ∀ x ∈ d.queue, x.2.length = 64
theorem whole_blank (n : Nat) : Whole (DS.blank n) := ⟨fun _ => length_zeros, by simp [DS.blank]⟩
theorem Whole.get {d : DS} (h : Whole d) (k : Nat) : (d.get k).length = 64 := by
  unfold DS.get
  cases hq : (restOf d.queue k).getLast? with
  | none => exact h.base k
  | some s =>
    have hs := List.mem_of_getLast? hq
    simp only [restOf, List.mem_map, List.mem_filter] at hs
    obtain ⟨x, ⟨hx, _⟩, e⟩ := hs
    rw [← e]; exact h.queue x hx
theorem length_landw {old new : Sec} (ho : old.length = 64) (hn : new.length = 64) (c : Nat) : (land old new c).length = 64 := by
  unfold land; simp; omega
theorem len_landK {nb : Nat → Nat} {q : List (Nat × Sec)} {base : Nat → Sec} (hb : ∀ k, (base k).length = 64) (hq : ∀ x ∈ q, x.2.length = 64) : ∀ m j, (landK nb q base m j).length = 64
  | 0, j => hb j
  | m + 1, j => by
    have ih := len_landK (nb := nb) hb hq m
    simp only [landK]
    cases h : q[m]? with
    | none => exact ih j
    | some x =>
      show List.length (fset _ _ _ j : Sec) = 64
      unfold fset
      split
      · exact length_landw (ih _) (hq x (List.mem_of_getElem? h)) _
      · exact ih j
theorem whole_power {d : DS} (h : Whole d) (keep : List Int) : Whole (d.power keep) := ⟨fun k => len_landK h.base h.queue _ k, by simp [DS.power]⟩
theorem whole_put {d : DS} (h : Whole d) (k : Nat) (s : Sec) (hs : s.length = 64) : Whole (d.put k s).1 := by
  unfold DS.put
  split
  · exact ⟨h.base, h.queue⟩
  · refine ⟨h.base, fun x hx => ?_⟩
    rcases List.mem_append.1 hx with hx | hx
    · exact h.queue x hx
    · simp at hx; subst hx; exact hs
theorem length_secOf (t s : Nat) (b : List UInt8) (i : Nat) : (secOf t s b i).length = 64 := length_mk _ _ _ _ (by rw [length_pieceOf]; omega)
theorem whole_puts (a t s : Nat) (b : List UInt8) : ∀ (n i : Nat) (d : DS), Whole d → Whole (d.puts a t s b i n).1
  | 0, _, _, h => h
  | n + 1, i, d, h => by
    have h1 := whole_put h (a + i) _ (length_secOf t s b i)
    simp only [DS.puts]
    split
    · exact whole_puts a t s b n (i + 1) _ h1
    · exact h1
theorem whole_write {d : DS} (h : Whole d) (a : Int) (s : Nat) (b : List UInt8) : Whole (d.write a s b).1 := by
  unfold DS.write
  split
  · exact h
  split
  · exact h
  exact whole_puts _ _ _ _ _ _ _ h
theorem whole_flush {d : DS} (h : Whole d) : Whole d.flush.1 := by
  unfold DS.flush
  split
  · exact ⟨h.base, h.queue⟩
  · exact ⟨fun k => len_landK h.base h.queue _ k, by simp⟩
theorem land_full {old new : Sec} (ho : old.length = 64) (hn : new.length = 64) : land old new 64 = new := by
  unfold land
  rw [List.take_of_length_le (by omega), List.drop_of_length_le (by omega), List.append_nil]
theorem landK_full {q : List (Nat × Sec)} {base : Nat → Sec} (hb : ∀ k, (base k).length = 64) (hq : ∀ x ∈ q, x.2.length = 64) : ∀ m j, landK (fun _ => 64) q base m j = (restOf (q.take m) j).getLast?.getD (base j)
  | 0, j => by simp [landK, restOf]
  | m + 1, j => by
    have ih := landK_full hb hq m
    have hl := len_landK (nb := fun _ => 64) hb hq m
    simp only [landK]
    cases h : q[m]? with
    | none =>
      have : q.length ≤ m := by
        rcases Nat.lt_or_ge m q.length with h1 | h1
        · rw [List.getElem?_eq_getElem h1] at h; cases h
        · exact h1
      rw [List.take_of_length_le (by omega)]
      have ih' := ih j
      rw [List.take_of_length_le (by omega)] at ih'
      exact ih'
    | some x =>
      have hlt : m < q.length := by
        rcases Nat.lt_or_ge m q.length with h1 | h1
        · exact h1
        · rw [List.getElem?_eq_none h1] at h; cases h
      have ht : q.take (m + 1) = q.take m ++ [(x.1, x.2)] := by
        rw [List.take_succ_eq_append_getElem hlt]
        rw [List.getElem?_eq_getElem hlt] at h
        cases h; rfl
      rw [ht, restOf_snoc]
      show fset _ _ _ j = _
      unfold fset
      by_cases hj : j = x.1
      · rw [if_pos hj, if_pos hj, land_full (hl _) (hq x (List.mem_of_getElem? h))]
        simp
      · rw [if_neg hj, if_neg hj]; exact ih j
/-- A flush that goes through changes nothing that is read. -/
theorem flush_live {d : DS} (h : Whole d) (hf : d.fuse = none) (hd : d.dead = false) : ∃ d', d.flush = (d', 0) ∧ d'.fuse = none ∧ d'.dead = false ∧ d'.size = d.size ∧ d'.queue = [] ∧ Whole d' ∧ ∀ k, d'.get k = d.get k := by
  refine ⟨{ d with base := landQ (fun _ => 64) d.queue d.base, queue := [] }, ?_, hf, hd, rfl, rfl, ⟨fun k => len_landK h.base h.queue _ k, by simp⟩, fun k => ?_⟩
  · simp [DS.flush, DS.act, actD, actF, hf, hd]
  · show (restOf [] k).getLast?.getD (landQ (fun _ => 64) d.queue d.base k) = _
    rw [landQ, landK_full h.base h.queue, List.take_of_length_le (Nat.le_refl _)]
    rfl

/-- Records that stand one behind the other, with stamps that rise by one. -/
def Chain (d : DS) : Nat → Nat → List (List UInt8) → Prop
  | _, _, [] => True
  | a, n, x :: xs => Stands d a n (sealedN x) ∧ Chain d (a + needN x.length) (n + 1) xs
def endOf (a : Nat) : List (List UInt8) → Nat
  | [] => a
  | x :: xs => endOf (a + needN x.length) xs
theorem le_endOf : ∀ (L : List (List UInt8)) (a : Nat), a ≤ endOf a L
  | [], a => Nat.le_refl _
  | x :: xs, a => by have := le_endOf xs (a + needN x.length); simp only [endOf]; omega
theorem endOf_snoc : ∀ (L : List (List UInt8)) (a : Nat) (x : List UInt8), endOf a (L ++ [x]) = endOf a L + needN x.length
  | [], a, x => rfl
  | y :: L, a, x => by simp only [List.cons_append, endOf]; exact endOf_snoc L _ x
theorem needN_sealed {x : List UInt8} (h : x.length ≤ 4096) : needN x.length = spanN (sealedN x).length := by
  unfold needN; rw [if_neg (by omega), length_sealedN]
theorem Chain.congr {d d' : DS} : ∀ {L : List (List UInt8)} {a n : Nat}, Chain d a n L → (∀ x ∈ L, x.length ≤ 4096) → (∀ k, a ≤ k → k < endOf a L → d'.get k = d.get k) → Chain d' a n L
  | [], _, _, _, _, _ => trivial
  | x :: xs, a, n, h, hl, he => by
    have hx := needN_sealed (hl x (by simp))
    have hle := le_endOf xs (a + needN x.length)
    refine ⟨fun k hk => ?_, Chain.congr h.2 (fun y hy => hl y (by simp [hy])) fun k h1 h2 => he k (by omega) h2⟩
    rw [he (a + k) (by omega) (by simp only [endOf]; omega)]
    exact h.1 k hk
theorem Chain.snoc {d : DS} : ∀ {L : List (List UInt8)} {a n : Nat} {x : List UInt8}, Chain d a n L → Stands d (endOf a L) (n + L.length) (sealedN x) → Chain d a n (L ++ [x])
  | [], a, n, x, _, h => ⟨h, trivial⟩
  | y :: L, a, n, x, h1, h => ⟨h1.1, Chain.snoc h1.2 (by simp only [endOf, List.length_cons] at h; rwa [show n + (L.length + 1) = n + 1 + L.length by omega] at h)⟩
theorem recs_chain {d : DS} {e : Nat} (he : e ≤ d.size) : ∀ (L : List (List UInt8)) (a n last f : Nat), Chain d a n L → (∀ x ∈ L, x.length ≤ 4096) → last < n → n + L.length ≤ 18446744073709551616 → endOf a L ≤ e → e < a + f →
    ((d.read (endOf a L) e).err = 0 → (unsealN (d.read (endOf a L) e).b).isSome = true → (d.read (endOf a L) e).n ≤ last) → recsFrom d e f a last = (L, endOf a L)
  | [], a, n, last, f, _, _, _, _, hae, hf, hstop => by
    simp only [endOf] at hae hstop ⊢
    obtain ⟨f, rfl⟩ : ∃ g, f = g + 1 := ⟨f - 1, by omega⟩
    simp only [recsFrom]
    rw [if_neg]
    rintro ⟨h1, h2, h3⟩
    have := hstop h1 h2
    omega
  | x :: xs, a, n, last, f, hc, hl, hn, h64, hae, hf, hstop => by
    have hx4 := hl x (by simp)
    have hx := needN_sealed hx4
    have hs0 : spanN (sealedN x).length ≠ 0 := by have := spanN_pos (n := (sealedN x).length) (by rw [length_sealedN]; omega); omega
    have hle := le_endOf xs (a + needN x.length)
    simp only [endOf] at hae hstop ⊢
    simp only [List.length_cons] at h64
    have hr := read_stands hc.1 hs0 (by omega) (by omega) (e := (e : Int)) (by omega) (by omega)
    obtain ⟨f, rfl⟩ : ∃ g, f = g + 1 := ⟨f - 1, by omega⟩
    simp only [recsFrom]
    rw [hr]
    simp only [unseal_sealed]
    rw [if_pos (by exact ⟨trivial, rfl, hn⟩), ← hx]
    have ih := recs_chain he xs (a + needN x.length) (n + 1) n f hc.2 (fun y hy => hl y (by simp [hy])) (by omega) (by omega) hae (by omega) (fun h1 h2 => by have := hstop h1 h2; omega)
    rw [ih]
    rfl
theorem read_zero {d : DS} {a : Nat} {e : Int} (h : d.get a = zeros) : (d.read a e).err ≠ 0 := by
  unfold DS.read
  split
  · simp
  split
  · simp
  simp only [Int.toNat_natCast, h, numS_zeros]
  rw [if_pos (Or.inl trivial)]
  simp
theorem read_past {d : DS} {a : Nat} {e : Int} (h : e ≤ a) : (d.read a e).err ≠ 0 := by
  unfold DS.read
  split
  · simp
  · simp
theorem append_live {d : DS} {a z st : Nat} {x : List UInt8} (h : Whole d) (hf : d.fuse = none) (hd : d.dead = false) (hx : x.length ≤ 4096) (hfit : needN x.length ≤ z - a) (hz : z ≤ d.size) (haz : a ≤ z) (hst : st ≠ 0) :
    ∃ d', appendD d ⟨a, z, st⟩ x = (d', ⟨a + needN x.length, z, (st + 1) % 18446744073709551616⟩, 0) ∧ d'.fuse = none ∧ d'.dead = false ∧ d'.size = d.size ∧ d'.queue = [] ∧ Whole d' ∧ Stands d' a st (sealedN x) ∧ ∀ k, (k < a ∨ a + needN x.length ≤ k) → d'.get k = d.get k := by
  have hxn := needN_sealed hx
  have hs0 : spanN (sealedN x).length ≠ 0 := by have := spanN_pos (n := (sealedN x).length) (by rw [length_sealedN]; omega); omega
  obtain ⟨d1, e1, f1, g1, s1, b1, q1, st1, o1⟩ := write_live d a st (sealedN x) hf hd hst hs0 (by omega)
  have hw1 := whole_write h a st (sealedN x)
  rw [e1] at hw1
  obtain ⟨d2, e2, f2, g2, s2, q2, w2, o2⟩ := flush_live hw1 f1 g1
  refine ⟨d2, ?_, f2, g2, by rw [s2]; exact s1, q2, w2, fun k hk => ?_, fun k hk => ?_⟩
  · unfold appendD
    simp only [e1, e2]
    rw [if_neg (by omega), if_neg (by omega), if_neg (by simp), if_neg (by simp)]
  · rw [o2]; exact st1 k hk
  · rw [o2]; exact o1 k (by omega)
theorem top_zero {d : DS} (h : ∀ k, numS (d.get k) = 0) (i e : Nat) : d.top i e = 0 := by
  have := (topFrom_spec' d (e - i) i 0).2 1 (by omega) (fun j => by rw [h]; omega)
  unfold DS.top; omega
where
  topFrom_spec' (d : DS) : ∀ (n i t : Nat), t ≤ topFrom d i t n ∧ ∀ B, t < B → (∀ j, numS (d.get j) < B) → topFrom d i t n < B
  | 0, i, t => ⟨Nat.le_refl _, fun B h _ => h⟩
  | n + 1, i, t => by
    obtain ⟨h1, h3⟩ := topFrom_spec' d n (i + 1) (max t (numS (d.get i)))
    refine ⟨by simp only [topFrom]; omega, fun B hB hall => ?_⟩
    simp only [topFrom]
    exact h3 B (by have := hall i; omega) hall
theorem get_blank (n k : Nat) : (DS.blank n).get k = zeros := rfl

end Go.Proofs.Ytpddbffamejgeaa
