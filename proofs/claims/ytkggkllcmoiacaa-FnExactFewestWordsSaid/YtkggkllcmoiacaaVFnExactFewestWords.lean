/- The pure side of the law FnExactFewestWords: the program and the reference tell the same least number of words. Conditions: none. -/
import Derived.Test.YtkggkllcmoiacaaPx1
import Derived.Test.YtkggkllcmoiacaaPx2
import Derived.Test.YtkggkllcmoiacaaPx5
import Derived.Test.YtkggkllcmoiacaaPx6
import Derived.Test.YtkggkllcmoiacaaOpens
namespace Go.Proofs.Ytkggkllcmoiacaa.Q
open Go.RowKit Go.Proofs.Ytkggkllcmoiacaa.Opens Go.Proofs.YtkggkllcmoiacaaW.PrintWords Go.Proofs.YtkggkllcmoiacaaW.PrintLast Go.Proofs.YtkggkllcmoiacaaW.PrintMore
set_option linter.unusedVariables false
set_option linter.unusedSimpArgs false

/-- THE ONE PURE STATEMENT of FnExactFewestWords. -/
def PureFnExactFewestWords : Prop := ∀ (a0_0 : Int) (l0_1 : List Int), Int64 a0_0 → AllOk Int64 l0_1 → l0_1.length ≤ 9223372036854775807 → ∃ k, laws_FnExactFewestWords.f k a0_0 l0_1 = some true
theorem fewest_both (n : Int) (l : List Int) (hlen : l.length < 1048577) : ∃ r, Ev (fun k => spec_FewestWords.f k n l) r ∧ Ev (fun k => impl_FewestWords.f k n l) r := by
  obtain ⟨r, h1, h2⟩ := widthOf_both n l hlen
  refine ⟨r, ?_, ?_⟩
  · unfold spec_FewestWords.f
    exact Ev.bind h1 (Ev.const rfl)
  · unfold impl_FewestWords.f
    exact Ev.bind h2 (Ev.const rfl)
theorem FnExactFewestWords : PureFnExactFewestWords := by
  intro n0 l0 _ _ hl0
  refine Ev.rounds ?_
  unfold laws_FnExactFewestWords.f
  by_cases hb0 : (1048576 : Int) < l0.length
  · refine Ev.bindc (szSpace_over n0 l0 _ (by omega) hl0 hb0 (by omega)) ?_
    exact Ev.to (fun k => by rw [if_pos (by decide)]) (Ev.const rfl)
  · refine Ev.bindc (szSpace_fits n0 l0 _ (by omega) (by omega)) ?_
    refine Ev.to (fun k => by rw [if_neg (by omega)]) ?_
    obtain ⟨⟨r0, r1⟩, h1, h2⟩ := fewest_both n0 l0 (by omega)
    have a0_ := toSpace_ok n0 l0 (by omega)
    have e0_ := eqSpace_refl n0 l0 (by omega)
    repeat (first | exact Ev.const rfl | (with_reducible refine Ev.bind h1 ?_) | (with_reducible refine Ev.bind h2 ?_) | (with_reducible refine Ev.bind a0_ ?_) | (with_reducible refine Ev.bind e0_ ?_) | refine Ev.to (fun k => by rw [if_pos rfl]) ?_ | refine Ev.to (fun k => by rw [if_neg (by omega)]) ?_ | refine Ev.to (fun k => by rw [if_neg (by simp)]) ?_ | refine Ev.succ (fun k => by simp only [laws_FnExactFewestWords.j0]; rw [if_neg (by simp)]) ?_ | refine Ev.succ (fun k => by simp only [laws_FnExactFewestWords.j1]; rw [if_neg (by simp)]) ?_ | refine Ev.succ (fun k => by simp only [laws_FnExactFewestWords.j2]; rw [if_neg (by simp)]) ?_ | refine Ev.succ (fun k => by simp only [laws_FnExactFewestWords.j3]; rw [if_neg (by simp)]) ?_)


end Go.Proofs.Ytkggkllcmoiacaa.Q
