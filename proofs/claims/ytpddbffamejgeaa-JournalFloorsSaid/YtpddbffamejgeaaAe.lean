/- Pure laws for StampTorn: all of a write, or nothing of it. -/
import Derived.Test.YtpddbffamejgeaaZ
namespace Go.Proofs.Ytpddbffamejgeaa

/-- A whole sector, with a small stamp. -/
def Low (s : Sec) : Prop := s.length = 64 ∧ (s.getD 63 0).toNat < 64
structure Calm (d : DS) (n : Nat) : Prop where
  fuse : d.fuse = none
  dead : d.dead = false
  size : d.size = 30
  base : ∀ k, Low (d.base k)
  queue : ∀ x ∈ d.queue, Low x.2
  len : d.queue.length ≤ n
theorem getD_land {old new : Sec} (_ho : old.length = 64) (hn : new.length = 64) (c i : Nat) (hi : i < 64) : (land old new c).getD i 0 = if i < c then new.getD i 0 else old.getD i 0 := by
  unfold land
  simp only [List.getD_eq_getElem?_getD]
  by_cases h : i < c
  · rw [if_pos h, List.getElem?_append_left (by simp; omega), List.getElem?_take_of_lt h]
  · rw [if_neg h, List.getElem?_append_right (by simp; omega)]
    simp only [List.length_take, List.getElem?_drop]
    congr 2; omega
theorem length_land {old new : Sec} (ho : old.length = 64) (hn : new.length = 64) (c : Nat) : (land old new c).length = 64 := by
  unfold land; simp; omega
theorem low_land {old new : Sec} (ho : Low old) (hn : Low new) (c : Nat) : Low (land old new c) := by
  refine ⟨length_land ho.1 hn.1 c, ?_⟩
  rw [getD_land ho.1 hn.1 c 63 (by omega)]
  split
  · exact hn.2
  · exact ho.2
theorem low_landK {nb : Nat → Nat} {q : List (Nat × Sec)} {base : Nat → Sec} (hb : ∀ k, Low (base k)) (hq : ∀ x ∈ q, Low x.2) : ∀ k j, Low (landK nb q base k j)
  | 0, j => hb j
  | k + 1, j => by
    have ih := low_landK (nb := nb) hb hq k
    simp only [landK]
    cases h : q[k]? with
    | none => exact ih j
    | some x =>
      show Low (fset _ _ _ j)
      unfold fset
      split
      · exact low_land (ih _) (hq x (List.mem_of_getElem? h)) _
      · exact ih j
theorem low_zeros : Low zeros := by unfold Low zeros; decide
theorem calm_blank : Calm (DS.blank 30) 0 := ⟨rfl, rfl, rfl, fun _ => low_zeros, by simp [DS.blank], by simp [DS.blank]⟩
theorem calm_power {d : DS} {n : Nat} (h : Calm d n) (keep : List Int) : Calm (d.power keep) 0 :=
  ⟨rfl, rfl, h.size, fun k => low_landK h.base h.queue _ k, by simp [DS.power], by simp [DS.power]⟩
theorem calm_flush {d : DS} {n : Nat} (h : Calm d n) : ∃ d', d.flush = (d', 0) ∧ Calm d' 0 ∧ d'.queue = [] := by
  refine ⟨{ d with base := landQ (fun _ => 64) d.queue d.base, queue := [] }, ?_, ⟨h.fuse, h.dead, h.size, fun k => low_landK h.base h.queue _ k, by simp, by simp⟩, rfl⟩
  simp [DS.flush, DS.act, actD, actF, h.fuse, h.dead]
theorem low_secOf {t stamp : Nat} {b : List UInt8} {i : Nat} (hs : stamp < 4611686018427387904) : Low (secOf t stamp b i) := by
  have hp : (pieceOf b i).length ≤ 53 := by rw [length_pieceOf]; omega
  refine ⟨length_mk _ _ _ _ hp, ?_⟩
  have := getD_mk_tail i t stamp (pieceOf b i) hp 0 (by omega)
  simp only [Nat.sub_zero] at this
  unfold secOf
  rw [this, nth_toNat]
  omega
theorem calm_puts (a t n : Nat) (b : List UInt8) (hs : n < 4611686018427387904) : ∀ (m i : Nat) (d : DS) (l : Nat), Calm d l → Calm (d.puts a t n b i m).1 (l + m)
  | 0, i, d, l, h => h
  | m + 1, i, d, l, h => by
    have hp := put_live d (a + i) (secOf t n b i) h.fuse h.dead
    simp only [DS.puts, hp, if_true]
    have := calm_puts a t n b hs m (i + 1) { d with queue := d.queue ++ [(a + i, secOf t n b i)] } (l + 1)
      ⟨h.fuse, h.dead, h.size, h.base, fun x hx => by
        rcases List.mem_append.1 hx with hx | hx
        · exact h.queue x hx
        · simp at hx; subst hx; exact low_secOf hs, by have := h.len; simp; omega⟩
    rw [show l + (m + 1) = l + 1 + m by omega]
    exact this
theorem calm_write {d : DS} {l : Nat} (h : Calm d l) (at_ : Int) {n : Nat} (hs : n < 4611686018427387904) (b : List UInt8) : Calm (d.write at_ n b).1 (l + spanN b.length) := by
  unfold DS.write
  split
  · exact ⟨h.fuse, h.dead, h.size, h.base, h.queue, by have := h.len; show d.queue.length ≤ _; omega⟩
  · split
    · exact ⟨h.fuse, h.dead, h.size, h.base, h.queue, by have := h.len; show d.queue.length ≤ _; omega⟩
    · exact calm_puts _ _ _ _ hs _ _ _ _ h
theorem numTo_low {s : Sec} (h : Low s) : ∀ m, numTo s (m + 1) < 64 * 256 ^ m
  | 0 => by simpa [numTo] using h.2
  | m + 1 => by
    have ih := numTo_low h m
    have hb := (s.getD (63 - (m + 1)) 0).toNat_lt
    rw [numTo, Nat.pow_succ]
    omega
theorem numS_low {s : Sec} (h : Low s) : numS s < 4611686018427387904 := numTo_low h 7
theorem topFrom_spec (d : DS) : ∀ (n i t : Nat), t ≤ topFrom d i t n ∧ (∀ j, i ≤ j → j < i + n → numS (d.get j) ≤ topFrom d i t n) ∧ ∀ B, t < B → (∀ j, numS (d.get j) < B) → topFrom d i t n < B
  | 0, i, t => ⟨Nat.le_refl _, fun j _ _ => by omega, fun B h _ => h⟩
  | n + 1, i, t => by
    obtain ⟨h1, h2, h3⟩ := topFrom_spec d n (i + 1) (max t (numS (d.get i)))
    refine ⟨by simp only [topFrom]; omega, fun j hj1 hj2 => ?_, fun B hB hall => ?_⟩
    · simp only [topFrom]
      by_cases hij : j = i
      · subst hij; omega
      · exact h2 j (by omega) (by omega)
    · simp only [topFrom]
      exact h3 B (by have := hall i; omega) hall

theorem numTo_digit {s u : Sec} {m : Nat} (h : numTo s (m + 1) = numTo u (m + 1)) : numTo s m = numTo u m ∧ s.getD (63 - m) 0 = u.getD (63 - m) 0 := by
  simp only [numTo] at h
  have h1 := (s.getD (63 - m) 0).toNat_lt
  have h2 := (u.getD (63 - m) 0).toNat_lt
  exact ⟨by omega, UInt8.toNat_inj.1 (by omega)⟩
theorem numTo_digits {s u : Sec} : ∀ (m : Nat), numTo s m = numTo u m → ∀ i, i < m → s.getD (63 - i) 0 = u.getD (63 - i) 0
  | 0, _, i, hi => by omega
  | m + 1, h, i, hi => by
    obtain ⟨h1, h2⟩ := numTo_digit h
    by_cases him : i = m
    · subst him; exact h2
    · exact numTo_digits m h1 i (by omega)
theorem numTo_mono {s u : Sec} {m : Nat} (h : numTo s (m + 1) ≤ numTo u (m + 1)) : numTo s m ≤ numTo u m := by
  simp only [numTo] at h
  have h1 := (s.getD (63 - m) 0).toNat_lt
  have h2 := (u.getD (63 - m) 0).toNat_lt
  omega
theorem numTo_monos {s u : Sec} : ∀ (k m : Nat), numTo s (m + k) ≤ numTo u (m + k) → numTo s m ≤ numTo u m
  | 0, _, h => h
  | k + 1, _, h => numTo_monos k _ (numTo_mono h)
theorem numTo_old {old new : Sec} (ho : old.length = 64) (hn : new.length = 64) (c : Nat) : ∀ m, m + c ≤ 64 → numTo (land old new c) m = numTo old m
  | 0, _ => rfl
  | m + 1, h => by
    simp only [numTo]
    rw [numTo_old ho hn c m (by omega), getD_land ho hn c _ (by omega), if_neg (by omega)]
theorem numTo_mix {old new : Sec} (ho : old.length = 64) (hn : new.length = 64) (c : Nat) (hle : numS old ≤ numS new) : ∀ m, m ≤ 8 → numTo (land old new c) m ≤ numTo new m
  | 0, _ => Nat.le_refl _
  | m + 1, h => by
    by_cases hc : (m + 1) + c ≤ 64
    · rw [numTo_old ho hn c _ hc]
      exact numTo_monos (8 - (m + 1)) (m + 1) (by rw [show m + 1 + (8 - (m + 1)) = 8 by omega]; exact hle)
    · simp only [numTo]
      rw [getD_land ho hn c _ (by omega), if_pos (by omega)]
      have := numTo_mix ho hn c hle m (by omega)
      omega
/-- A sector that shows a new stamp is the new one. -/
theorem mix_new {old new : Sec} (ho : old.length = 64) (hn : new.length = 64) (c fl : Nat) (hold : numS old ≤ fl) (hnew : numS new = fl + 1) (h : fl < numS (land old new c)) : land old new c = new := by
  have hle := numTo_mix ho hn c (by omega) 8 (by omega)
  have heq : numTo (land old new c) 8 = numTo new 8 := by unfold numS at *; omega
  have hc : 56 < c := by
    by_cases hc : 56 < c
    · exact hc
    · have := numTo_old ho hn c 8 (by omega)
      unfold numS at *; omega
  have hd := numTo_digits 8 heq
  apply List.ext_getElem?
  intro i
  by_cases hi : i < 64
  · have h1 : (land old new c).getD i 0 = new.getD i 0 := by
      by_cases h56 : i < 56
      · rw [getD_land ho hn c i hi, if_pos (by omega)]
      · have := hd (63 - i) (by omega)
        rwa [show 63 - (63 - i) = i by omega] at this
    have hl := length_land ho hn c
    rw [List.getD_eq_getElem?_getD, List.getD_eq_getElem?_getD, List.getElem?_eq_getElem (by omega), List.getElem?_eq_getElem (by omega)] at h1
    rw [List.getElem?_eq_getElem (by omega), List.getElem?_eq_getElem (by omega)]
    simpa using h1
  · have hl := length_land ho hn c
    rw [List.getElem?_eq_none (by omega), List.getElem?_eq_none (by omega)]

theorem puts_queue (a t n : Nat) (b : List UInt8) : ∀ (m i : Nat) (d : DS), d.fuse = none → d.dead = false →
    (d.puts a t n b i m).2 = 0 ∧ (d.puts a t n b i m).1.base = d.base ∧ (d.puts a t n b i m).1.queue.length = d.queue.length + m ∧ ∀ j, j < m → (d.puts a t n b i m).1.queue[d.queue.length + j]? = some (a + (i + j), secOf t n b (i + j))
  | 0, i, d, _, _ => ⟨rfl, rfl, rfl, fun j hj => by omega⟩
  | m + 1, i, d, hf, hd => by
    have hp := put_live d (a + i) (secOf t n b i) hf hd
    obtain ⟨h0, h1, h2, h3⟩ := puts_queue a t n b m (i + 1) { d with queue := d.queue ++ [(a + i, secOf t n b i)] } hf hd
    obtain ⟨q', _, _, _, _, _, _, hget⟩ := puts_live a t n b m (i + 1) { d with queue := d.queue ++ [(a + i, secOf t n b i)] } hf hd
    have hq := puts_prefix a t n b m (i + 1) { d with queue := d.queue ++ [(a + i, secOf t n b i)] } hf hd
    simp only [DS.puts, hp, if_true]
    refine ⟨h0, h1, by rw [h2]; simp; omega, fun j hj => ?_⟩
    cases j with
    | zero => rw [hq _ (by simp)]; simp
    | succ j =>
      have := h3 j (by omega)
      simp only [List.length_append, List.length_cons, List.length_nil] at this
      rw [show d.queue.length + (j + 1) = d.queue.length + (0 + 1) + j by omega, this]
      congr 2
      · omega
      · congr 1; omega
where
  puts_prefix (a t n : Nat) (b : List UInt8) : ∀ (m i : Nat) (d : DS), d.fuse = none → d.dead = false → ∀ j, j < d.queue.length → (d.puts a t n b i m).1.queue[j]? = d.queue[j]?
  | 0, i, d, _, _, j, _ => rfl
  | m + 1, i, d, hf, hd, j, hj => by
    have hp := put_live d (a + i) (secOf t n b i) hf hd
    simp only [DS.puts, hp, if_true]
    rw [puts_prefix a t n b m (i + 1) { d with queue := d.queue ++ [(a + i, secOf t n b i)] } hf hd j (by simp; omega)]
    exact List.getElem?_append_left hj
theorem landK_row {nb : Nat → Nat} {q : List (Nat × Sec)} {base : Nat → Sec} {a : Nat} {f : Nat → Sec} : ∀ m, (∀ j, j < m → q[j]? = some (a + j, f j)) → ∀ k, landK nb q base m k = if a ≤ k ∧ k < a + m then land (base k) (f (k - a)) (nb (k - a)) else base k
  | 0, _, k => by rw [if_neg (by omega)]; rfl
  | m + 1, h, k => by
    have ih := landK_row (nb := nb) (base := base) m (fun j hj => h j (by omega))
    simp only [landK, h m (by omega)]
    unfold fset
    by_cases hk : k = a + m
    · subst hk
      rw [if_pos rfl, ih, if_neg (by omega), if_pos (by omega)]
      rw [show a + m - a = m by omega]
    · rw [if_neg hk, ih]
      by_cases hr : a ≤ k ∧ k < a + m
      · rw [if_pos hr, if_pos (by omega)]
      · rw [if_neg hr, if_neg (by omega)]

theorem torn {d : DS} {l : Nat} (h : Calm d l) (hq : d.queue = []) (b : List UInt8) (hs0 : spanN b.length ≠ 0) (hs : spanN b.length ≤ 27) (keep : List Int) {c : List UInt8} {n many : Nat}
    (hr : (((d.write 3 (d.top 0 30 + 1) b).1).power keep).read 3 30 = ⟨c, n, many, 0⟩) (hn : d.top 0 30 < n) : (d.write 3 (d.top 0 30 + 1) b).2 = 0 ∧ c = b ∧ many = spanN b.length := by
  obtain ⟨fl, hfl⟩ : ∃ fl, fl = d.top 0 30 := ⟨_, rfl⟩
  rw [← hfl] at hr hn ⊢
  have hgetb : ∀ k, d.get k = d.base k := fun k => by unfold DS.get; rw [hq]; rfl
  have hbound : ∀ j, numS (d.get j) < 4611686018427387904 := fun j => by rw [hgetb]; exact numS_low (h.base j)
  obtain ⟨_, htop, hlt⟩ := topFrom_spec d 30 0 0
  have hflt : fl < 4611686018427387904 := by rw [hfl]; exact hlt _ (by omega) hbound
  have htop' : ∀ j, j < 30 → numS (d.get j) ≤ fl := fun j hj => by rw [hfl]; exact htop j (by omega) (by omega)
  have hw : d.write 3 (fl + 1) b = d.puts 3 (spanN b.length) (fl + 1) b 0 (spanN b.length) := by
    unfold DS.write
    rw [if_neg (by omega), if_neg (by rw [h.size]; omega)]
    rfl
  obtain ⟨e0, e1, e2, e3⟩ := puts_queue 3 (spanN b.length) (fl + 1) b (spanN b.length) 0 d h.fuse h.dead
  rw [hw] at hr ⊢
  obtain ⟨d1, hd1⟩ : ∃ d1, d1 = (d.puts 3 (spanN b.length) (fl + 1) b 0 (spanN b.length)).1 := ⟨_, rfl⟩
  rw [← hd1] at e1 e2 e3 hr
  simp only [hq, List.length_nil, Nat.zero_add] at e2 e3
  have hget : ∀ k, (d1.power keep).get k = if 3 ≤ k ∧ k < 3 + spanN b.length then land (d.get k) (secOf (spanN b.length) (fl + 1) b (k - 3)) (keptOf keep (k - 3)) else d.get k := by
    intro k
    have hk : (d1.power keep).get k = landQ (keptOf keep) d1.queue d1.base k := rfl
    rw [hk, landQ, e2, e1, landK_row (a := 3) (f := fun j => secOf (spanN b.length) (fl + 1) b j) _ e3 k]
    simp only [hgetb]
  obtain ⟨hm1, hm2, hn0, hn64, hst, hfit, _, _⟩ := stands_of_read (a := 3) hr
  have hp : ∀ (x : List UInt8) k, (pieceOf x k).length ≤ 53 := fun x k => by rw [length_pieceOf]; omega
  have hm255 : many < 256 := by rw [hm1]; have := spanN_le c.length; omega
  have hall : ∀ k, k < many → k < spanN b.length ∧ secOf (spanN c.length) n c k = secOf (spanN b.length) (fl + 1) b k := by
    intro k hk
    have h1 := hst k (by omega)
    have hnum : numS (secOf (spanN c.length) n c k) = n := numS_mk _ _ _ _ (hp c k) hn64
    have hg := hget (3 + k)
    by_cases hks : k < spanN b.length
    · rw [if_pos (by omega), show 3 + k - 3 = k by omega] at hg
      refine ⟨hks, ?_⟩
      have hx : fl < numS (land (d.get (3 + k)) (secOf (spanN b.length) (fl + 1) b k) (keptOf keep k)) := by rw [← hg, h1, hnum]; exact hn
      rw [← h1, hg]
      refine mix_new (by rw [hgetb]; exact (h.base _).1) (length_mk _ _ _ _ (hp b k)) _ fl (htop' _ (by omega)) (numS_mk _ _ _ _ (hp b k) (by omega)) hx
    · rw [if_neg (by omega)] at hg
      have := htop' (3 + k) (by omega)
      rw [← hg, h1, hnum] at this
      omega
  have hmany : many = spanN b.length := by
    obtain ⟨h0, h1⟩ := hall 0 (by omega)
    have := congrArg (fun s : Sec => (s.getD 1 0).toNat) h1
    simp only [secOf] at this
    rw [tot_mk _ _ _ _ (by omega), tot_mk _ _ _ _ (by omega)] at this
    omega
  refine ⟨e0, ?_, hmany⟩
  have hpieces : (List.range many).flatMap (pieceOf c) = (List.range many).flatMap (pieceOf b) := by
    refine flatMap_congr' _ fun k hk => ?_
    have h1 := (hall k (by simpa using hk)).2
    have := congrArg bodyOf h1
    simp only [secOf] at this
    rwa [body_mk _ _ _ _ (hp c k), body_mk _ _ _ _ (hp b k)] at this
  rw [pieces_cat, pieces_cat] at hpieces
  have hc := spanN_hi (n := c.length) (by omega)
  have hb := spanN_hi hs0
  rwa [List.take_of_length_le (by omega), List.take_of_length_le (by omega)] at hpieces
/-- The write itself goes through. -/
theorem torn_write {d : DS} {l : Nat} (h : Calm d l) (hq : d.queue = []) (b : List UInt8) (hs0 : spanN b.length ≠ 0) (hs : spanN b.length ≤ 27) :
    (d.write 3 (d.top 0 30 + 1) b).2 = 0 ∧ d.top 0 30 < 4611686018427387904 ∧ (d.write 3 (d.top 0 30 + 1) b).1.queue.length = spanN b.length := by
  have hgetb : ∀ k, d.get k = d.base k := fun k => by unfold DS.get; rw [hq]; rfl
  have hbound : ∀ j, numS (d.get j) < 4611686018427387904 := fun j => by rw [hgetb]; exact numS_low (h.base j)
  obtain ⟨_, htop, hlt⟩ := topFrom_spec d 30 0 0
  have hw : d.write 3 (d.top 0 30 + 1) b = d.puts 3 (spanN b.length) (d.top 0 30 + 1) b 0 (spanN b.length) := by
    unfold DS.write
    rw [if_neg (by omega), if_neg (by rw [h.size]; omega)]
    rfl
  obtain ⟨e0, e1, e2, e3⟩ := puts_queue 3 (spanN b.length) (d.top 0 30 + 1) b (spanN b.length) 0 d h.fuse h.dead
  rw [hw]
  exact ⟨e0, hlt _ (by omega) hbound, by rw [e2, hq]; simp⟩

end Go.Proofs.Ytpddbffamejgeaa
