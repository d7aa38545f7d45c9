/- The pure side of the law FnExactProofOf: both fringes are the same in the program and in the reference. Conditions: none. -/
import Derived.Test.YtneibmhbcjbmjaaQx1
import Derived.Test.YtneibmhbcjbmjaaQx4
import Derived.Test.YtneibmhbcjbmjaaQx5
import Derived.Test.YtneibmhbcjbmjaaQx6
import Derived.Test.YtneibmhbcjbmjaaQx7
import Derived.Test.YtneibmhbcjbmjaaQx8
import Derived.Test.YtneibmhbcjbmjaaOpens
namespace Go.Proofs.Ytneibmhbcjbmjaa.Q
open Go.RowKit Go.Proofs.Ytneibmhbcjbmjaa.Opens Go.Proofs.YtneibmhbcjbmjaaW.PrintWords Go.Proofs.YtneibmhbcjbmjaaW.PrintLast Go.Proofs.YtneibmhbcjbmjaaW.PrintMore
set_option linter.unusedVariables false
set_option linter.unusedSimpArgs false

/-- THE ONE PURE STATEMENT of FnExactProofOf. -/
def PureFnExactProofOf : Prop := ∀ (a0_0 : Int) (l0_1 : List Int) (a1 : Int), Int64 a0_0 → AllOk Int64 l0_1 → l0_1.length ≤ 9223372036854775807 → Int64 a1 → ∃ k, laws_FnExactProofOf.f k a0_0 l0_1 a1 = some true
theorem proofOf_both (n : Int) (l : List Int) (x : Int) (hlen : l.length < 4611686018427387904) : ∃ r, Ev (fun k => spec_ProofOf.f k n l x) r ∧ impl_ProofOf.f n l x = some r := by
  refine ⟨_, ?_, rfl⟩
  unfold spec_ProofOf.f
  refine Ev.bind (spOne_ok n l x hlen) ?_
  cases h : isKnownB n l x with
  | false => exact Ev.val (r := (0, 0, false)) (Ev.to (fun k => by rw [if_neg (by decide)]) (Ev.const rfl)) (by simp)
  | true =>
    have hK : isSpaceB n l = true ∧ x ∈ l := by unfold isKnownB at h; simpa using h
    have hx := isSpaceB_128 hK.1 x hK.2
    refine Ev.val (r := ((innerF (famOf l) x.toNat : Int), (outerF (famOf l) x.toNat : Int), true)) (Ev.to (fun k => by rw [if_pos rfl]) ?_) (by simp)
    refine Ev.bind (spInner_ok (risingB_rise (isSpaceB_parts hK.1).2.2.2.1) hlen x hx.1 hx.2) ?_
    refine Ev.bind (spOuter_ok hK.1 hlen x hx.1 hx.2) ?_
    exact Ev.const rfl
theorem FnExactProofOf : PureFnExactProofOf := by
  intro n l x _ _ hlen _
  refine Ev.rounds ?_
  unfold laws_FnExactProofOf.f
  by_cases hl : (1048576 : Int) < l.length
  · refine Ev.bindc (szSpace_over n l 1048576 (by omega) hlen hl (by omega)) ?_
    exact Ev.to (fun k => by rw [if_pos (by decide)]) (Ev.const rfl)
  · obtain ⟨r, h1, h2⟩ := proofOf_both n l x (by omega)
    refine Ev.bindc (szSpace_fits n l 1048576 (by omega) (by omega)) ?_
    refine Ev.to (fun k => by rw [if_neg (by omega)]) ?_
    have hts := toSpace_ok n l (by omega)
    refine Ev.bind hts ?_
    refine Ev.bind h1 ?_
    refine Ev.bind hts ?_
    refine Ev.bindc h2 ?_
    refine Ev.to (fun k => by rw [if_pos rfl, if_pos rfl]) ?_
    refine Ev.succ (fun k => by simp only [laws_FnExactProofOf.j0]; rw [if_neg (by simp)]) ?_
    refine Ev.bind hts ?_
    refine Ev.bind (eqSpace_refl n l (by omega)) ?_
    exact Ev.to (fun k => by rw [if_pos rfl]) (Ev.const rfl)


end Go.Proofs.Ytneibmhbcjbmjaa.Q
