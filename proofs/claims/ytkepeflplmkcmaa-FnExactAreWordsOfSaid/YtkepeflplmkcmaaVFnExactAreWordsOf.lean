/- The pure side of the law FnExactAreWordsOf: the program and the reference agree on whether lists are just the full words of a space. Conditions: none. -/
import Derived.Test.YtkepeflplmkcmaaPx1
import Derived.Test.YtkepeflplmkcmaaPx2
import Derived.Test.YtkepeflplmkcmaaPx3
import Derived.Test.YtkepeflplmkcmaaPx4
import Derived.Test.YtkepeflplmkcmaaPx7
import Derived.Test.YtkepeflplmkcmaaPx8
import Derived.Test.YtkepeflplmkcmaaPx9
import Derived.Test.YtkepeflplmkcmaaPx10
import Derived.Test.YtkepeflplmkcmaaOpens
namespace Go.Proofs.Ytkepeflplmkcmaa.Q
open Go.RowKit Go.Proofs.Ytkepeflplmkcmaa.Opens Go.Proofs.YtkepeflplmkcmaaW.PrintWords Go.Proofs.YtkepeflplmkcmaaW.PrintLast Go.Proofs.YtkepeflplmkcmaaW.PrintMore
set_option linter.unusedVariables false
set_option linter.unusedSimpArgs false

/-- THE ONE PURE STATEMENT of FnExactAreWordsOf. -/
def PureFnExactAreWordsOf : Prop := ∀ (a0_0 : Int) (l0_1 : List Int) (l1 : List (List Int)), Int64 a0_0 → AllOk Int64 l0_1 → l0_1.length ≤ 9223372036854775807 → AllOk (fun x_ : List Int => x_.length ≤ 9223372036854775807 ∧ AllOk Int64 x_) l1 → l1.length ≤ 9223372036854775807 → ∃ k, laws_FnExactAreWordsOf.f k a0_0 l0_1 l1 = some true
theorem areWords_both (n : Int) (l : List Int) (ws : List (List Int)) (hlen : l.length < 1048577) : ∃ r, Ev (fun k => spec_AreWordsOf.f k n l ws) r ∧ impl_AreWordsOf.f n l ws = some r := by
  unfold spec_AreWordsOf.f impl_AreWordsOf.f
  have hg := spGood_ok n l (by omega)
  cases hS : isSpaceB n l with
  | false =>
    rw [hS] at hg
    refine ⟨(false, false), Ev.bind hg (Ev.to (fun k => by rw [if_neg (by decide)]) (Ev.const rfl)), ?_⟩
    unfold wordsV
    rw [hS, if_neg (by rintro ⟨h, _⟩; cases h)]
  | true =>
    rw [hS] at hg
    have he : ∃ r, wordsV n l ws = some r := by
      unfold wordsV
      split
      · split
        · exact ⟨_, rfl⟩
        · exact ⟨_, rfl⟩
      · exact ⟨_, rfl⟩
    obtain ⟨r, hr⟩ := he
    exact ⟨r, Ev.bind hg (Ev.to (fun k => by rw [if_pos rfl, if_pos rfl]) (Ev.const hr)), hr⟩
theorem FnExactAreWordsOf : PureFnExactAreWordsOf := by
  intro n l ws _ _ hlen hrows hwl
  refine Ev.rounds ?_
  unfold laws_FnExactAreWordsOf.f
  by_cases hb : (1048576 : Int) < l.length
  · refine Ev.bindc (szSpace_over n l 1048576 (by omega) hlen hb (by omega)) ?_
    exact Ev.to (fun k => by rw [if_pos (by decide)]) (Ev.const rfl)
  · refine Ev.bindc (szSpace_fits n l 1048576 (by omega) (by omega)) ?_
    refine Ev.to (fun k => by rw [if_neg (by omega)]) ?_
    obtain ⟨r, hr1, hr2⟩ := szIntSS_ok ws (1048576 - l.length) (by omega) (by omega) hwl (fun w hw => (hrows w hw).1)
    refine Ev.bind hr1 ?_
    rcases hr2 with hr2 | ⟨hr0, hwn, hww⟩
    · exact Ev.to (fun k => by rw [if_pos hr2]) (Ev.const rfl)
    · refine Ev.to (fun k => by rw [if_neg (by omega)]) ?_
      have hw1 : ∀ w ∈ ws, w.length ≤ 1048576 := fun w hw => by have := hww w hw; omega
      have hw2 : ∀ w ∈ ws, w.length ≤ 35184372088832 := fun w hw => by have := hww w hw; omega
      obtain ⟨⟨r0, r1⟩, h1, h2⟩ := areWords_both n l ws (by omega)
      have a0_ := toSpace_ok n l (by omega)
      have e0_ := eqSpace_refl n l (by omega)
      have a1_ := toIntSS_ok ws (by omega) hw2
      have e1_ := eqIntSS_refl ws (by omega) hw2
      repeat (first | exact Ev.const rfl | (with_reducible refine Ev.bind h1 ?_) | (with_reducible refine Ev.bindc h2 ?_) | (with_reducible refine Ev.bind a0_ ?_) | (with_reducible refine Ev.bind e0_ ?_) | (with_reducible refine Ev.bind a1_ ?_) | (with_reducible refine Ev.bind e1_ ?_) | refine Ev.to (fun k => by rw [if_pos rfl]) ?_ | refine Ev.to (fun k => by rw [if_neg (by simp)]) ?_ | refine Ev.succ (fun k => by simp only [laws_FnExactAreWordsOf.j0]; rw [if_neg (by simp)]) ?_)

end Go.Proofs.Ytkepeflplmkcmaa.Q
