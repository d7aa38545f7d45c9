/- The pure side of the law FnExactBestQuestion: the program and the reference tell the same best question. Conditions: none. -/
import Derived.Test.YtkepeflplmkcmaaPx1
import Derived.Test.YtkepeflplmkcmaaPx2
import Derived.Test.YtkepeflplmkcmaaPx3
import Derived.Test.YtkepeflplmkcmaaPx5
import Derived.Test.YtkepeflplmkcmaaPx6
import Derived.Test.YtkepeflplmkcmaaPx7
import Derived.Test.YtkepeflplmkcmaaOpens
namespace Go.Proofs.Ytkepeflplmkcmaa.Q
open Go.RowKit Go.Proofs.Ytkepeflplmkcmaa.Opens Go.Proofs.YtkepeflplmkcmaaW.PrintWords Go.Proofs.YtkepeflplmkcmaaW.PrintLast Go.Proofs.YtkepeflplmkcmaaW.PrintMore
set_option linter.unusedVariables false
set_option linter.unusedSimpArgs false

/-- THE ONE PURE STATEMENT of FnExactBestQuestion. -/
def PureFnExactBestQuestion : Prop := ∀ (a0_0 : Int) (l0_1 : List Int) (a1 : Int) (a2 : Int), Int64 a0_0 → AllOk Int64 l0_1 → l0_1.length ≤ 9223372036854775807 → Int64 a1 → Int64 a2 → ∃ k, laws_FnExactBestQuestion.f k a0_0 l0_1 a1 a2 = some true
theorem bestq_both (n : Int) (l : List Int) (y m : Int) (hlen : l.length < 1048577) : ∃ r, Ev (fun k => spec_BestQuestion.f k n l y m) r ∧ Ev (fun k => impl_BestQuestion.f k n l y m) r := by
  unfold spec_BestQuestion.f impl_BestQuestion.f
  have hag := asGood_ok n l y m (by omega)
  have hgo := goOn_ok n l y m
  cases hg : goOnB n l y m with
  | false =>
    rw [hg] at hag hgo
    exact ⟨(0, false), Ev.bind hag (Ev.to (fun k => by rw [if_neg (by decide)]) (Ev.const rfl)), Ev.bind hgo (Ev.to (fun k => by rw [if_neg (by decide)]) (Ev.const rfl))⟩
  | true =>
    rw [hg] at hag hgo
    by_cases h1 : ((leftL l y m).length : Int) = 1
    · exact ⟨(0, false), Ev.bind hag (Ev.to (fun k => by rw [if_pos rfl, if_pos rfl, if_pos h1]) (Ev.const rfl)), Ev.bind hgo (Ev.to (fun k => by rw [if_pos rfl, if_pos rfl, if_pos h1]) (Ev.const rfl))⟩
    · exact ⟨(((bestV (leftL l y m) : Nat) : Int), true), Ev.bind hag (Ev.to (fun k => by rw [if_pos rfl, if_pos rfl, if_neg h1]) (Ev.const rfl)), Ev.bind hgo (Ev.to (fun k => by rw [if_pos rfl, if_pos rfl, if_neg h1]) (Ev.const rfl))⟩
theorem FnExactBestQuestion : PureFnExactBestQuestion := by
  intro n0 l0 a1 a2 _ _ hl0 _ _
  refine Ev.rounds ?_
  unfold laws_FnExactBestQuestion.f
  by_cases hb0 : (1048576 : Int) < l0.length
  · refine Ev.bindc (szSpace_over n0 l0 _ (by omega) hl0 hb0 (by omega)) ?_
    exact Ev.to (fun k => by rw [if_pos (by decide)]) (Ev.const rfl)
  · refine Ev.bindc (szSpace_fits n0 l0 _ (by omega) (by omega)) ?_
    refine Ev.to (fun k => by rw [if_neg (by omega)]) ?_
    obtain ⟨⟨r0, r1⟩, h1, h2⟩ := bestq_both n0 l0 a1 a2 (by omega)
    have a0_ := toSpace_ok n0 l0 (by omega)
    have e0_ := eqSpace_refl n0 l0 (by omega)
    repeat (first | exact Ev.const rfl | (with_reducible refine Ev.bind h1 ?_) | (with_reducible refine Ev.bind h2 ?_) | (with_reducible refine Ev.bind a0_ ?_) | (with_reducible refine Ev.bind e0_ ?_) | refine Ev.to (fun k => by rw [if_pos rfl]) ?_ | refine Ev.to (fun k => by rw [if_neg (by omega)]) ?_ | refine Ev.to (fun k => by rw [if_neg (by simp)]) ?_ | refine Ev.succ (fun k => by simp only [laws_FnExactBestQuestion.j0]; rw [if_neg (by simp)]) ?_ | refine Ev.succ (fun k => by simp only [laws_FnExactBestQuestion.j1]; rw [if_neg (by simp)]) ?_ | refine Ev.succ (fun k => by simp only [laws_FnExactBestQuestion.j2]; rw [if_neg (by simp)]) ?_ | refine Ev.succ (fun k => by simp only [laws_FnExactBestQuestion.j3]; rw [if_neg (by simp)]) ?_)


end Go.Proofs.Ytkepeflplmkcmaa.Q
