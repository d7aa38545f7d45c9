/- The pure side of the law FnExactKeptBelow: the program and the reference tell the same set that is learnt below a cost. Conditions: none. -/
import Derived.Test.YtomcemkfpfjogaaPx1
import Derived.Test.YtomcemkfpfjogaaPx2
import Derived.Test.YtomcemkfpfjogaaPx4
import Derived.Test.YtomcemkfpfjogaaPx5
import Derived.Test.YtomcemkfpfjogaaPx6
import Derived.Test.YtomcemkfpfjogaaPx7
import Derived.Test.YtomcemkfpfjogaaOpens
namespace Go.Proofs.Ytomcemkfpfjogaa.Q
open Go.RowKit Go.Proofs.Ytomcemkfpfjogaa.Opens Go.Proofs.YtomcemkfpfjogaaW.PrintWords Go.Proofs.YtomcemkfpfjogaaW.PrintLast Go.Proofs.YtomcemkfpfjogaaW.PrintMore
set_option linter.unusedVariables false
set_option linter.unusedSimpArgs false

/-- THE ONE PURE STATEMENT of FnExactKeptBelow. -/
def PureFnExactKeptBelow : Prop := ∀ (a0_0 : Int) (l0_1 : List Int) (l1 : List (S84)) (a2 : Int), Int64 a0_0 → AllOk Int64 l0_1 → l0_1.length ≤ 9223372036854775807 → AllOk (fun x : S84 => Int64 x.f0 ∧ Int64 x.f1 ∧ Int64 x.f2) l1 → l1.length ≤ 9223372036854775807 → Int64 a2 → ∃ k, laws_FnExactKeptBelow.f k a0_0 l0_1 l1 a2 = some true
theorem keptBelow_both (n : Int) (l : List Int) (t : List S82) (most : Int) (hlen : l.length < 1048577) (ht : t.length < 1048577) : ∃ r, Ev (fun k => spec_KeptBelow.f k n l t most) r ∧ Ev (fun k => impl_KeptBelow.f k n l t most) r := by
  unfold spec_KeptBelow.f impl_KeptBelow.f impl_RunBelow.f
  cases hg : isSpaceB n l && areTasksB t n with
  | false =>
    refine ⟨(0, false), ?_, ?_⟩
    · refine Ev.bind (grGiven_ok n l t (by omega) (by omega)) ?_
      exact Ev.to (fun k => by rw [hg, if_neg (by decide)]) (Ev.const rfl)
    · refine Ev.bind (a := (0, false)) ?_ (Ev.const rfl)
      refine Ev.bindc (together_ok n l t) ?_
      refine Ev.to (fun k => by rw [hg, if_neg (by decide)]) ?_
      exact Ev.succ (fun k => by simp only [impl_RunBelow.j0]; first | rfl | rw [if_pos rfl]) (Ev.const rfl)
  | true =>
    have hS : isSpaceB n l = true := by
      cases h : isSpaceB n l with
      | true => rfl
      | false => rw [h] at hg; cases hg
    have hT : areTasksB t n = true := by rw [hS] at hg; exact hg
    obtain ⟨n1, n7, htl, hf⟩ := areTasks_facts hT
    have hcosts : spec_grCosts.f most = some (decide (-10000 ≤ most) && decide (most ≤ 10000)) := by
      unfold spec_grCosts.f
      rw [l1In_ok]
      rfl
    cases hm : decide (-10000 ≤ most) && decide (most ≤ 10000) with
    | false =>
      refine ⟨(0, false), ?_, ?_⟩
      · refine Ev.bind (grGiven_ok n l t (by omega) (by omega)) ?_
        refine Ev.to (fun k => by rw [hg, if_pos rfl]) ?_
        refine Ev.bindc hcosts ?_
        exact Ev.to (fun k => by rw [hm, if_neg (by decide)]) (Ev.const rfl)
      · refine Ev.bind (a := (0, false)) ?_ (Ev.const rfl)
        refine Ev.bindc (together_ok n l t) ?_
        refine Ev.to (fun k => by rw [hg, if_pos rfl]) ?_
        refine Ev.bindc (within_ok _ _ _) ?_
        refine Ev.to (fun k => by rw [hm, if_neg (by decide)]) ?_
        exact Ev.succ (fun k => by simp only [impl_RunBelow.j0]; first | rfl | rw [if_pos rfl]) (Ev.const rfl)
    | true =>
      obtain ⟨r, hr1, hr2⟩ := grRun_both hS hlen t htl most [] (fun c hc => by cases hc) (by decide)
      refine ⟨(r, true), ?_, ?_⟩
      · refine Ev.bind (grGiven_ok n l t (by omega) (by omega)) ?_
        refine Ev.to (fun k => by rw [hg, if_pos rfl]) ?_
        refine Ev.bindc hcosts ?_
        refine Ev.to (fun k => by rw [hm, if_pos rfl]) ?_
        exact Ev.bind hr1 (Ev.const rfl)
      · refine Ev.bind (a := (r, true)) ?_ (Ev.const rfl)
        refine Ev.bindc (together_ok n l t) ?_
        refine Ev.to (fun k => by rw [hg, if_pos rfl]) ?_
        refine Ev.bindc (within_ok _ _ _) ?_
        refine Ev.to (fun k => by rw [hm, if_pos rfl]) ?_
        refine Ev.bindc (areChoices_ok []) ?_
        exact hr2
theorem FnExactKeptBelow : PureFnExactKeptBelow := by
  intro n0 l0 l1 a2 _ _ hl0 _ hl1 _
  refine Ev.rounds ?_
  unfold laws_FnExactKeptBelow.f
  by_cases hb0 : (1048576 : Int) < l0.length
  · refine Ev.bindc (szSpace_over n0 l0 _ (by omega) hl0 hb0 (by omega)) ?_
    exact Ev.to (fun k => by rw [if_pos (by decide)]) (Ev.const rfl)
  · refine Ev.bindc (szSpace_fits n0 l0 _ (by omega) (by omega)) ?_
    refine Ev.to (fun k => by rw [if_neg (by omega)]) ?_
    by_cases hb1 : (1048576 - l0.length : Int) < l1.length
    · refine Ev.bindc (szTaskS_over l1 _ (by omega) hl1 hb1 (by omega)) ?_
      exact Ev.to (fun k => by rw [if_pos (by decide)]) (Ev.const rfl)
    · refine Ev.bindc (szTaskS_fits l1 _ (by omega) (by omega)) ?_
      refine Ev.to (fun k => by rw [if_neg (by omega)]) ?_
      have hm1 : (l1.map taskOf).length = l1.length := List.length_map _
      obtain ⟨⟨r0, r1⟩, h1, h2⟩ := keptBelow_both n0 l0 (l1.map taskOf) a2 (by omega) (by omega)
      have a0_ := toSpace_ok n0 l0 (by omega)
      have e0_ := eqSpace_refl n0 l0 (by omega)
      have a1_ := toTaskS_ok l1 (by omega)
      have e1_ := eqTaskS_refl (l1.map taskOf) (by omega)
      repeat (first | exact Ev.const rfl | (with_reducible refine Ev.bind h1 ?_) | (with_reducible refine Ev.bind h2 ?_) | (with_reducible refine Ev.bind a0_ ?_) | (with_reducible refine Ev.bind e0_ ?_) | (with_reducible refine Ev.bind a1_ ?_) | (with_reducible refine Ev.bind e1_ ?_) | refine Ev.to (fun k => by rw [if_pos rfl]) ?_ | refine Ev.to (fun k => by rw [if_neg (by omega)]) ?_ | refine Ev.to (fun k => by rw [if_neg (by simp)]) ?_ | refine Ev.succ (fun k => by simp only [laws_FnExactKeptBelow.j0]; rw [if_neg (by simp)]) ?_ | refine Ev.succ (fun k => by simp only [laws_FnExactKeptBelow.j1]; rw [if_neg (by simp)]) ?_ | refine Ev.succ (fun k => by simp only [laws_FnExactKeptBelow.j2]; rw [if_neg (by simp)]) ?_ | refine Ev.succ (fun k => by simp only [laws_FnExactKeptBelow.j3]; rw [if_neg (by simp)]) ?_)


end Go.Proofs.Ytomcemkfpfjogaa.Q
