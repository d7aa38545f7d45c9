/- The pure side of the law FnExactLeastTotal: the program and the reference tell the same least sum of the numbers of questions. Conditions: none. -/
import Derived.Test.YtkepeflplmkcmaaPx1
import Derived.Test.YtkepeflplmkcmaaPx2
import Derived.Test.YtkepeflplmkcmaaPx4
import Derived.Test.YtkepeflplmkcmaaPx5
import Derived.Test.YtkepeflplmkcmaaPx7
import Derived.Test.YtkepeflplmkcmaaOpens
namespace Go.Proofs.Ytkepeflplmkcmaa.Q
open Go.RowKit Go.Proofs.Ytkepeflplmkcmaa.Opens Go.Proofs.YtkepeflplmkcmaaW.PrintWords Go.Proofs.YtkepeflplmkcmaaW.PrintLast Go.Proofs.YtkepeflplmkcmaaW.PrintMore
set_option linter.unusedVariables false
set_option linter.unusedSimpArgs false

/-- THE ONE PURE STATEMENT of FnExactLeastTotal. -/
def PureFnExactLeastTotal : Prop := ∀ (a0_0 : Int) (l0_1 : List Int), Int64 a0_0 → AllOk Int64 l0_1 → l0_1.length ≤ 9223372036854775807 → ∃ k, laws_FnExactLeastTotal.f k a0_0 l0_1 = some true
theorem total_both (n : Int) (l : List Int) (hlen : l.length < 1048577) : ∃ r, Ev (fun k => spec_LeastTotal.f k n l) r ∧ impl_LeastTotal.f n l = some r := by
  unfold spec_LeastTotal.f impl_LeastTotal.f
  have hag := spGood_ok n l (by omega)
  cases hg : isSpaceB n l with
  | false =>
    rw [hg] at hag
    exact ⟨(0, false), Ev.bind hag (Ev.to (fun k => by rw [if_neg (by decide)]) (Ev.const rfl)), by rw [if_neg (by decide)]⟩
  | true =>
    rw [hg] at hag
    exact ⟨(valV cT 7 (leftL l 0 0), true), Ev.bind hag (Ev.to (fun k => by rw [if_pos rfl, if_pos rfl]) (Ev.const rfl)), by rw [if_pos rfl]⟩
theorem FnExactLeastTotal : PureFnExactLeastTotal := by
  intro n0 l0 _ _ hl0
  refine Ev.rounds ?_
  unfold laws_FnExactLeastTotal.f
  by_cases hb0 : (1048576 : Int) < l0.length
  · refine Ev.bindc (szSpace_over n0 l0 _ (by omega) hl0 hb0 (by omega)) ?_
    exact Ev.to (fun k => by rw [if_pos (by decide)]) (Ev.const rfl)
  · refine Ev.bindc (szSpace_fits n0 l0 _ (by omega) (by omega)) ?_
    refine Ev.to (fun k => by rw [if_neg (by omega)]) ?_
    obtain ⟨⟨r0, r1⟩, h1, h2⟩ := total_both n0 l0 (by omega)
    have a0_ := toSpace_ok n0 l0 (by omega)
    have e0_ := eqSpace_refl n0 l0 (by omega)
    repeat (first | exact Ev.const rfl | (with_reducible refine Ev.bind h1 ?_) | (with_reducible refine Ev.bindc h2 ?_) | (with_reducible refine Ev.bind a0_ ?_) | (with_reducible refine Ev.bind e0_ ?_) | refine Ev.to (fun k => by rw [if_pos rfl]) ?_ | refine Ev.to (fun k => by rw [if_neg (by omega)]) ?_ | refine Ev.to (fun k => by rw [if_neg (by simp)]) ?_ | refine Ev.succ (fun k => by simp only [laws_FnExactLeastTotal.j0]; rw [if_neg (by simp)]) ?_ | refine Ev.succ (fun k => by simp only [laws_FnExactLeastTotal.j1]; rw [if_neg (by simp)]) ?_ | refine Ev.succ (fun k => by simp only [laws_FnExactLeastTotal.j2]; rw [if_neg (by simp)]) ?_ | refine Ev.succ (fun k => by simp only [laws_FnExactLeastTotal.j3]; rw [if_neg (by simp)]) ?_)


end Go.Proofs.Ytkepeflplmkcmaa.Q
