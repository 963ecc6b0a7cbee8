/- journal: Append, Room. -/
import Derived.Test.YtpddbffamejgeaaBi
namespace Go.Proofs.Ytpddbffamejgeaa
open Go.RowKit Go.Proofs.YtpddbffamejgeaaW.PrintLast

theorem jr_comm (role : Nat → Option Own) (q g : Nat) : roleSet (roleSet role g .fuse) q .fuse = jr role q g := by
  funext k
  unfold jr roleSet
  split <;> split <;> rfl
/-- A record more. -/
def jappendD (d : DS) (ready : Bool) (l : LogV) (b : List UInt8) : DS × Bool × LogV × Nat :=
  if ready = true then ((appendD d l b).1, (appendD d l b).2.2 != 82, (appendD d l b).2.1, (appendD d l b).2.2) else (d, ready, l, 121)
def JPost (p q g size : Nat) (role : Nat → Option Own) (x : DS × Bool × LogV × Nat) (w : World) (e : Ending) (w' : World) : Prop :=
  e = .returned (.int .i64 (x.2.2.2 : Nat)) ∧ ∃ role', DiskAt w' p role' x.1 ∧ JAt w' p q g role' size x.2.1 x.2.2.1 ∧ Moves w (jr role q g) w' (jr role' q g)
theorem appendD_err (d : DS) (l : LogV) (b : List UInt8) : (appendD d l b).2.2 ≤ 102 := by
  have hp : ∀ (a t n : Nat) (b : List UInt8) (m i : Nat) (d : DS), (d.puts a t n b i m).2 ≤ 82 := by
    intro a t n b m
    induction m with
    | zero => intro i d; simp [DS.puts]
    | succ m ih =>
      intro i d
      simp only [DS.puts]
      split
      · exact ih _ _
      · unfold DS.put; split <;> simp
  have hw : (d.write l.at_ l.stamp (sealedN b)).2 ≤ 91 := by
    unfold DS.write
    split
    · simp
    split
    · simp
    have := hp (l.at_ : Int).toNat (spanN (sealedN b).length) l.stamp (sealedN b) (spanN (sealedN b).length) 0 d
    omega
  have hf : ∀ x : DS, x.flush.2 ≤ 82 := fun x => by unfold DS.flush; split <;> simp
  unfold appendD
  split
  · simp
  split
  · simp
  split
  · simp only; omega
  split
  · have := hf (d.write l.at_ l.stamp (sealedN b)).1; simp only; omega
  · simp

set_option maxRecDepth 100000 in
set_option maxHeartbeats 1600000 in
theorem jappend_any {w : World} {p q g size : Nat} {role : Nat → Option Own} {d : DS} {ready : Bool} {l : LogV} (h : DiskAt w p role d) (hj : JAt w p q g role size ready l) (hle : l.at_ ≤ l.end_) (hend : l.end_ ≤ d.size) (hst : l.stamp < 18446744073709551616)
    (b : List UInt8) (ba : Option Addr) (bc : Nat) (hb : BArg w role ba b bc) (hbl : b.length ≤ 900000) (hq : d.queue.length ≤ 800000) :
    Calls Try.prog 53 #[.pointer (some ⟨q, 0, none⟩), .slice ba b.length bc] w (JPost p q g size role (jappendD d ready l b) w) := by
  cases ready with
  | false =>
    have c3 := (jfacts hj.row).2.2.2
    have HD := Lib.hid h
    have HJ := Lib.hid hj
    clear h hj hb
    go_enter Try.func53, Try.ntmps53
    go_wp2
    go_ret
    exact ⟨rfl, role, HD.out, HJ.out, Moves.refl _ _⟩
  | true =>
    have hap := append_any h hj.log hj.rg hle hend hst b ba bc hb hbl hq
    obtain ⟨X, hX⟩ : ∃ X, X = appendD d l b := ⟨_, rfl⟩
    have hXe : X.2.2 ≤ 1000 := by rw [hX]; have := appendD_err d l b; omega
    rw [← hX] at hap
    have hx : jappendD d true l b = (X.1, X.2.2 != 82, X.2.1, X.2.2) := by unfold jappendD; rw [if_pos rfl, ← hX]
    have hne := hj.ne
    have hnq : roleSet role g .fuse q = none := by rw [roleSet_ne hne]; exact hj.rq
    have c3 := (jfacts hj.row).2.2.2
    have c2 := (jfacts hj.row).2.2.1
    unfold ptr at c2
    have HAP := Lib.hid hap
    have HJ := Lib.hid hj
    have HX := Lib.hid hx
    have HNQ := Lib.hid hnq
    have HNE := Lib.hid hne
    clear hap hj h hx hnq hne hX hb
    go_enter Try.func53, Try.ntmps53
    go_wp2_with (first
      | (go_at_call 37; refine HAP.out.mono ?_; clear HAP; rintro e w2 ⟨rfl, r2, hd2, hrw2, hrg2, hm2⟩; have HR2 := Lib.hid (hm2.row HJ.out.row HNQ.out); have HQ2 := Lib.hid (hm2.old q HJ.out.row.lt HNQ.out); have HD2 := Lib.hid hd2; have HG2 := Lib.hid hrw2; have HRG2 := Lib.hid hrg2; have HM2 := Lib.hid hm2; clear hd2 hrw2 hrg2 hm2 c3 c2)
      | (go_at_call 90; refine (told_any w2 p q size (ptr g) true HR2.out X.2.2 hXe).mono ?_; rintro e w3 ⟨rfl, hw3⟩; have HW3 := Lib.hid hw3; clear hw3))
    go_ret
    rw [HX.out]
    have hrq2 : r2 q = none := by have := HQ2.out; rwa [roleSet_ne HNE.out] at this
    have hm2 : Moves w (jr role q g) w2 (jr r2 q g) := by
      have := HM2.out.widen q .fuse
      rw [jr_comm, jr_comm] at this
      exact this
    refine ⟨rfl, r2, ?_⟩
    rw [HW3.out]
    by_cases h82 : X.2.2 = 82
    · rw [if_pos h82]
      have e1 : (X.2.2 != 82) = false := by simp [h82]
      simp only [e1]
      exact ⟨HD2.out.setCell hrq2 3 _, ⟨HR2.out.set 3 (.bool false), HG2.out.other _ _ (fun e => HNE.out e.symm), hrq2, HRG2.out, HNE.out⟩, hm2.trans (Moves.setCell _ _ (by unfold jr; simp [roleSet]))⟩
    · rw [if_neg h82]
      have e1 : (X.2.2 != 82) = true := by simp [h82]
      simp only [e1]
      exact ⟨HD2.out, ⟨HR2.out, HG2.out, hrq2, HRG2.out, HNE.out⟩, hm2⟩
theorem jroom_any {w : World} {p q g size : Nat} {role : Nat → Option Own} {ready : Bool} {l : LogV} (hj : JAt w p q g role size ready l) (hle : l.at_ ≤ l.end_) (hend : l.end_ ≤ 2048) :
    Calls Try.prog 56 #[.pointer (some ⟨q, 0, none⟩)] w fun e w' => e = .returned (.int .i64 ((if ready = true then l.end_ - l.at_ else 0 : Nat) : Int)) ∧ Below w.heap.size w w' := by
  have c3 := (jfacts hj.row).2.2.2
  have c2 := (jfacts hj.row).2.2.1
  unfold ptr at c2
  have HR := Lib.hid (logroom_any hj.log hle hend)
  clear hj
  cases ready with
  | false =>
    go_enter Try.func56, Try.ntmps56
    go_wp2
    go_ret
    exact ⟨rfl, Below.refl _ _⟩
  | true =>
    go_enter Try.func56, Try.ntmps56
    go_wp2_with (go_at_call 38; refine HR.out.mono ?_; clear HR; rintro e w2 ⟨rfl, hb2⟩; have HB2 := Lib.hid hb2; clear hb2)
    go_ret
    exact ⟨rfl, HB2.out⟩

end Go.Proofs.Ytpddbffamejgeaa
