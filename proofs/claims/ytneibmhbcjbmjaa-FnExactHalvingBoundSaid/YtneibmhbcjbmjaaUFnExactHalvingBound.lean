/- The pure side of the law FnExactHalvingBound: the program and the reference find the same number, as both read the same space. Conditions: none. -/
import Derived.Test.YtneibmhbcjbmjaaQx1
import Derived.Test.YtneibmhbcjbmjaaQx4
import Derived.Test.YtneibmhbcjbmjaaQx5
import Derived.Test.YtneibmhbcjbmjaaQx6
import Derived.Test.YtneibmhbcjbmjaaOpens
namespace Go.Proofs.Ytneibmhbcjbmjaa.Q
open Go.RowKit Go.Proofs.Ytneibmhbcjbmjaa.Opens Go.Proofs.YtneibmhbcjbmjaaW.PrintWords Go.Proofs.YtneibmhbcjbmjaaW.PrintLast Go.Proofs.YtneibmhbcjbmjaaW.PrintMore
set_option linter.unusedVariables false
set_option linter.unusedSimpArgs false

/-- THE ONE PURE STATEMENT of FnExactHalvingBound. -/
def PureFnExactHalvingBound : Prop := ∀ (a0_0 : Int) (l0_1 : List Int), Int64 a0_0 → AllOk Int64 l0_1 → l0_1.length ≤ 9223372036854775807 → ∃ k, laws_FnExactHalvingBound.f k a0_0 l0_1 = some true
theorem halving_loops (n : Int) (l : List Int) (hl : l.length ≤ 1048576) : ∀ (d i : Nat), 20 - i = d → i ≤ 20 → ∃ r, Ev (fun k => spec_HalvingBound.l0 k i n l) (r, true) ∧ Ev (fun k => impl_HalvingBound.l0 k i n l) (r, true) := by
  have stop : ∀ i : Nat, i ≤ 20 → ¬ shl .i64 1 (i : Int) < (l.length : Int) → ∃ r, Ev (fun k => spec_HalvingBound.l0 k i n l) (r, true) ∧ Ev (fun k => impl_HalvingBound.l0 k i n l) (r, true) := by
    intro i hi h
    exact ⟨i, Ev.succ (fun k => by simp only [spec_HalvingBound.l0]; rw [if_pos (by omega), if_neg h]) (Ev.const rfl), Ev.succ (fun k => by simp only [impl_HalvingBound.l0]; rw [if_pos (by omega), if_neg h]) (Ev.const rfl)⟩
  intro d
  induction d with
  | zero =>
    intro i hd hi
    obtain rfl : i = 20 := by omega
    refine stop 20 (by omega) ?_
    rw [shl_one 20 (by omega)]
    omega
  | succ d ih =>
    intro i hd hi
    by_cases h : shl .i64 1 (i : Int) < (l.length : Int)
    · obtain ⟨r, h1, h2⟩ := ih (i + 1) (by omega) (by omega)
      push_cast at h1 h2
      exact ⟨r, Ev.succ (fun k => by simp only [spec_HalvingBound.l0]; rw [if_pos (by omega), if_pos h, wrap_succ (by omega) (by omega)]) h1, Ev.succ (fun k => by simp only [impl_HalvingBound.l0]; rw [if_pos (by omega), if_pos h, wrap_succ (by omega) (by omega)]) h2⟩
    · exact stop i hi h
theorem halving_both (n : Int) (l : List Int) (hl : l.length ≤ 1048576) : ∃ r b, Ev (fun k => spec_HalvingBound.f k n l) (r, b) ∧ Ev (fun k => impl_HalvingBound.f k n l) (r, b) := by
  have hg := spGood_ok n l (by omega)
  cases h : isSpaceB n l with
  | false =>
    rw [h] at hg
    refine ⟨0, false, Ev.bind hg (Ev.to (fun k => by rw [if_neg (by decide)]) (Ev.const rfl)), ?_⟩
    unfold impl_HalvingBound.f impl_IsSpace.f
    refine Ev.bindc (congrArg some h) ?_
    exact Ev.to (fun k => by rw [if_neg (by decide)]) (Ev.const rfl)
  | true =>
    rw [h] at hg
    obtain ⟨r, h1, h2⟩ := halving_loops n l hl 20 0 (by omega) (by omega)
    refine ⟨r, true, Ev.bind hg (Ev.to (fun k => by rw [if_pos rfl]) (show Ev (fun k => spec_HalvingBound.l0 k 0 n l) (r, true) from h1)), ?_⟩
    unfold impl_HalvingBound.f impl_IsSpace.f
    refine Ev.bindc (congrArg some h) ?_
    exact Ev.to (fun k => by rw [if_pos rfl]) (show Ev (fun k => impl_HalvingBound.l0 k 0 n l) (r, true) from h2)
theorem FnExactHalvingBound : PureFnExactHalvingBound := by
  intro n l _ _ hlen
  refine Ev.rounds ?_
  unfold laws_FnExactHalvingBound.f
  by_cases hl : (1048576 : Int) < l.length
  · refine Ev.bindc (szSpace_over n l 1048576 (by omega) hlen hl (by omega)) ?_
    exact Ev.to (fun k => by rw [if_pos (by decide)]) (Ev.const rfl)
  · obtain ⟨r, b, h1, h2⟩ := halving_both n l (by omega)
    refine Ev.bindc (szSpace_fits n l 1048576 (by omega) (by omega)) ?_
    refine Ev.to (fun k => by rw [if_neg (by omega)]) ?_
    have hts := toSpace_ok n l (by omega)
    refine Ev.bind hts ?_
    refine Ev.bind h1 ?_
    refine Ev.bind hts ?_
    refine Ev.bind h2 ?_
    refine Ev.to (fun k => by rw [if_pos rfl]) ?_
    refine Ev.succ (fun k => by simp only [laws_FnExactHalvingBound.j0]; rw [if_neg (by simp)]) ?_
    refine Ev.bind hts ?_
    refine Ev.bind (eqSpace_refl n l (by omega)) ?_
    exact Ev.to (fun k => by rw [if_pos rfl]) (Ev.const rfl)

end Go.Proofs.Ytneibmhbcjbmjaa.Q
