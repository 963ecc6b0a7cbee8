/- journal: Open. -/
import Derived.Test.YtpddbffamejgeaaBk
import Derived.Test.YtpddbffamejgeaaBh
namespace Go.Proofs.Ytpddbffamejgeaa
open Go.RowKit Go.Proofs.YtpddbffamejgeaaW.PrintLast

/-- What comes of opening a journal. -/
def OpenedPost (w : World) (p size : Nat) (role : Nat → Option Own) (d : DS) (fl : Nat) (st : List UInt8) (e : Ending) (w' : World) : Prop :=
  ∃ q g ps cs vl, e = .returned (.tuple #[.pointer (some ⟨q, 0, none⟩), .slice ps st.length cs, vl, .int .i64 0]) ∧ w.heap.size ≤ q ∧ w.heap.size ≤ g ∧ JAt w' p q g role size false (d.logV (2 * size) d.size fl) ∧
    InnerAt w' (fun k => w.heap.size ≤ k ∧ k ≠ q ∧ k ≠ g) (.slice ps st.length cs) st ps cs ∧ ListsAt w' (fun k => w.heap.size ≤ k ∧ k ≠ q ∧ k ≠ g) vl (d.recs (2 * size) d.size fl).1 ∧ Below w.heap.size w w'
theorem jrow_new (w : World) (p size : Nat) : Row (w.alloc (.cells #[.pointer (some ⟨p, 0, none⟩), .int .i64 (size : Nat), .pointer none, .bool false] 153)) w.heap.size (jcells p size (.pointer none) false) 153 := Row.new w (jcells p size (.pointer none) false) 153
theorem only_below {w w' : World} {g B : Nat} (h : Moves w (roleSet (fun _ => none) g .fuse) w' (roleSet (fun _ => none) g .fuse)) (hg : B ≤ g) (hB : B ≤ w.heap.size) : Below B w w' :=
  h.below fun k hk => ⟨by omega, by rw [roleSet_ne (by omega)]⟩
theorem InnerAt.sub {w : World} {F : Nat → Prop} {oa : Option Addr} {oc : Nat} {l rest : List UInt8} {n : Nat} (hs : Src w oa (l.map Bv)) (hf : l.length ≤ oc) (hm : oc ≤ maxLen) (ho : 0 < l.length → ∀ ad, oa = some ad → F ad.block) (hn : n ≤ l.length) (hr : l.drop n = rest) :
    InnerAt w F (.slice (if oc = n then oa else oa.map (·.add n)) rest.length (oc - n)) rest (if oc = n then oa else oa.map (·.add n)) (oc - n) := by
  have hrl : rest.length = l.length - n := by rw [← hr]; simp
  refine ⟨rfl, ?_, by omega, by omega, fun h0 ad e => ?_⟩
  · by_cases h0 : 0 < rest.length
    · rw [if_neg (by omega)]
      obtain ⟨ad, rfl, _⟩ := hs (by simp; omega)
      have := hs.sub n rest.length (by simp; omega)
      have e : ((l.map Bv).drop n).take rest.length = rest.map Bv := by
        rw [← List.map_drop, hr]; exact List.take_of_length_le (by simp)
      rwa [e] at this
    · exact Src.byte_nil _ _ h0
  · rw [if_neg (by omega)] at e
    cases oa with
    | none => simp at e
    | some ad0 => simp at e; subst e; rw [Addr.add_block]; exact ho (by omega) ad0 rfl

set_option maxRecDepth 100000 in
set_option maxHeartbeats 3200000 in
theorem opened_any {w : World} {p : Nat} {role : Nat → Option Own} {d : DS} {size fl gen : Nat} {st : List UInt8} (h : DiskAt w p role d) (hs1 : 1 ≤ size) (hs2 : size ≤ 255) (hfit : 2 * size < d.size)
    (hslot : d.slot 0 size = (numN fl ++ st, gen)) (hg0 : gen ≠ 0) (hfl : fl ≤ 1152921504606846976) (hstl : st.length ≤ 100000) :
    Calls Try.prog 54 #[.pointer (some ⟨p, 0, none⟩), .int .i64 size] w (OpenedPost w p size role d fl st) := by
  obtain ⟨cn, hcn⟩ : ∃ cn, cn = numN fl ++ st := ⟨_, rfl⟩
  obtain ⟨nl, hnl⟩ : ∃ nl, nl = (numN fl).length := ⟨_, rfl⟩
  have hnl10 : nl ≤ 10 := by rw [hnl]; exact numN_le10 (by omega)
  have hcl : cn.length = nl + st.length := by rw [hcn, hnl]; simp
  have hrd := slotread_any h 0 size hs1 hs2 (by omega)
  rw [hslot, ← hcn] at hrd
  unfold SlotReadPost at hrd
  have he : slotErr (cn, gen) = 0 := by unfold slotErr; rw [if_neg hg0]
  rw [he] at hrd
  have hright := jright_yes h size hs1 hs2 hfit
  have hnew : ∀ W oa oc, Src W oa (cn.map Bv) → Calls Try.prog 91 #[.slice oa cn.length oc] W (NewReaderPost W cn) := fun W oa oc hs => new_any W cn oa oc hs (by omega)
  have hrn : ∀ W rg pa c, ReaderAt W rg cn pa c → Calls Try.prog 92 #[.pointer (some ⟨rg, 0, none⟩)] W (ReadNumPost W rg fl st) := fun W rg pa c hr => by
    rw [hcn] at hr
    exact readnum_any W rg fl (by omega) st pa c hr (by omega)
  have hnum : ∀ W g0, Row W g0 [.int .u64 fl] 22 → Calls Try.prog 94 #[.slice none 0 0, .slice (some ⟨g0, 0, none⟩) 1 1] W (MadePost W (numN fl)) := fun W g0 hr => num_any W fl (by omega) g0 hr
  have hjo : ∀ W q, DiskAt W p role d → Row W q (jcells p size (.pointer none) false) 153 → role q = none → Calls Try.prog 89 #[.pointer (some ⟨q, 0, none⟩), .int .u64 fl] W (JOpenPost W p q size role false d fl) := fun W q h1 h2 h3 => jopen_any h1 h2 h3 hs2 (by omega) fl (by omega)
  have hdrop : cn.drop nl = st := by rw [hcn, hnl]; simp
  have c1 : ¬ (1152921504606846976 : Int) < fl := by omega
  have hsub : (cn.length : Int) - (st.length : Int) = (nl : Int) := by omega
  have hsum : (nl : Int) + (st.length : Int) = (cn.length : Int) := by omega
  have HD := Lib.hid h
  have HRD := Lib.hid hrd
  have HRT := Lib.hid hright
  have HNEW := Lib.hid hnew
  have HRN := Lib.hid hrn
  have HNUM := Lib.hid hnum
  have HJO := Lib.hid hjo
  have HDROP := Lib.hid hdrop
  have HSUB := Lib.hid hsub
  have HSUM := Lib.hid hsum
  have HNL := Lib.hid hnl
  have HCL := Lib.hid hcl
  have hcl2 : st.length ≤ cn.length := by omega
  have hcl3 : cn.length ≤ 200000 := by omega
  clear h hrd hright hnew hrn hnum hjo hdrop hslot hcn hnl hcl he hg0 hsub hsum
  go_enter Try.func54, Try.ntmps54
  go_upto_region 9 with (first
    | (go_at_call 88; refine HRT.out.mono ?_; rintro e w' ⟨rfl, rfl⟩)
    | (go_at_call 43; refine HRD.out.mono ?_; clear HRD; rintro e w1 ⟨v1, rfl, hown1, hb1⟩; obtain ⟨oa, oc, rfl, hs1', hf1, hm1, ho1⟩ := owns_at hown1; have HB1 := Lib.hid hb1; have HS1 := Lib.hid hs1'; have HO1 := Lib.hid ho1; clear hown1 hb1 hs1' ho1)
    | (go_at_call 91; refine (HNEW.out _ oa oc HS1.out).mono ?_; clear HNEW; rintro e w2 ⟨rg, pa2, c2, rfl, hr2, hg2, hb2⟩; have HR2 := Lib.hid hr2; have HG2 := Lib.hid hg2; have HB2 := Lib.hid (HB1.out.trans (hb2.mono HB1.out.size)); have HB12 := Lib.hid hb2; clear hr2 hg2 hb2)
    | (go_at_call 92; refine (HRN.out _ rg pa2 c2 HR2.out).mono ?_; clear HRN; rintro e w3 ⟨rfl, pa3, c3, hr3, hm3⟩; have HR3 := Lib.hid hr3; have HM3 := Lib.hid hm3; clear hr3 hm3)
    | (go_at_call 93; refine (left_any _ rg st pa3 c3 HR3.out).mono ?_; rintro e w' ⟨rfl, rfl⟩)
    | (refine wpl_of_run (o := ⟨some 40, _, _, _, _, _⟩) rfl (runs_sl_lo (.tmp 34) (.tmp 39) rfl Try.underlying23 size5 oa cn.length oc nl (by rfl) (by show Value.int .i64 ((cn.length : Int) - (st.length : Int)) = _; rw [HSUB.out]) (by have := HCL.out; omega) hf1 _) ?_))
  have hcl1 := HCL.out
  rw [show cn.length - nl = st.length by omega]
  have hb13 : Below w1.heap.size w1 w3 := HB12.out.trans (only_below HM3.out HG2.out HB12.out.size)
  have hin : InnerAt w3 (fun k => w.heap.size ≤ k ∧ k < w3.heap.size) (.slice (if oc = nl then oa else oa.map (·.add nl)) st.length (oc - nl)) st (if oc = nl then oa else oa.map (·.add nl)) (oc - nl) :=
    InnerAt.sub (HS1.out.below hb13) hf1 hm1 (fun _ ad e => ⟨(HO1.out ad e).1, Nat.lt_of_lt_of_le (HO1.out ad e).2 hb13.size⟩) (by omega) HDROP.out
  generalize (if oc = nl then oa else oa.map (·.add nl)) = ps at *
  generalize oc - nl = cs at *
  have HB3 := Lib.hid (HB1.out.trans (hb13.mono HB1.out.size))
  have HIN := Lib.hid hin
  have hcmp : (((nl : Int) + (st.length : Int)) != (cn.length : Int)) = false := by simp; omega
  clear hb13 hin hcl1 HDROP HSUB HSUM HCL HR2 HG2 HB2 HB12 HR3 HM3 HB1 HS1 HO1 HRT
  go_wp2_with (first
    | (go_at_call 94; refine (HNUM.out _ w3.heap.size (Row.new w3 [.int .u64 fl] 22)).mono ?_; clear HNUM; rintro e w4 ⟨v4, rfl, hown4, hb4⟩; obtain ⟨on, ocn, rfl, _, _, _, _⟩ := owns_at hown4; rw [← HNL.out]; have HB34 := Lib.hid (((Below.refl w3.heap.size w3).alloc (Nat.le_refl _) (.cells #[.int .u64 (fl : Nat)] 22)).trans (hb4.mono (by simp))); clear hown4 hb4)
    | (go_at_call 89; refine (HJO.out _ w4.heap.size (HD.out.below (((HB3.out.trans (HB34.out.mono HB3.out.size))).alloc (Nat.le_trans HB3.out.size HB34.out.size) _)) (jrow_new w4 p size) (HD.out.off (Nat.le_trans HB3.out.size HB34.out.size))).mono ?_; clear HJO; rintro e w6 ⟨g6, v6, rfl, hg6, hd6, hj6, hl6, hm6⟩; have HG6 := Lib.hid hg6; have HJ6 := Lib.hid hj6; have HL6 := Lib.hid hl6; have HM6 := Lib.hid hm6; clear hg6 hd6 hj6 hl6 hm6))
  have hz34 := HB34.out.size
  have hz3 := HB3.out.size
  have hg6 := HG6.out
  simp at hg6
  have hm6 := only_below HM6.out (B := w4.heap.size) (Nat.le_refl _) (by simp)
  have hb4 : Below w4.heap.size w4 w6 := ((Below.refl w4.heap.size w4).alloc (Nat.le_refl _) _).trans hm6
  have hb36 : Below w3.heap.size w3 w6 := HB34.out.trans (hb4.mono hz34)
  refine bodyPost_ret (v := .tuple #[.pointer (some ⟨w4.heap.size, 0, none⟩), .slice ps st.length cs, v6, .int .i64 0]) (by simp [results, Try.results54, go_sem]) rfl ⟨w4.heap.size, g6, ps, cs, v6, rfl, by omega, by omega, HJ6.out, ?_, ?_, HB3.out.trans (hb36.mono hz3)⟩
  · have h1 := HIN.out.of_block (w' := w6) (fun k hk hlt => hb36.block k hlt)
    refine ⟨h1.val, h1.src, h1.fits, h1.small, fun h0 ad e => ?_⟩
    have := h1.inF h0 ad e
    exact ⟨this.1, by omega, by omega⟩
  · exact HL6.out.mono fun k hk hf => by
      simp at hf
      exact ⟨by omega, by omega, hf.2⟩

end Go.Proofs.Ytpddbffamejgeaa
