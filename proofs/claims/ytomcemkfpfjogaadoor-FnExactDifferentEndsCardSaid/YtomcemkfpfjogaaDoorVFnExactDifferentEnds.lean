/- The pure side of the law FnExactDifferentEnds: the program and the reference count the same items that are ends of more than one path. Conditions: none. -/
import Derived.Test.YtomcemkfpfjogaaDoorPx1
import Derived.Test.YtomcemkfpfjogaaDoorPx3
import Derived.Test.YtomcemkfpfjogaaDoorPx4
import Derived.Test.YtomcemkfpfjogaaDoorPx5
import Derived.Test.YtomcemkfpfjogaaDoorOpens
namespace Go.Proofs.YtomcemkfpfjogaaDoor.Q
open Go.RowKit Go.Proofs.YtomcemkfpfjogaaDoor.Opens Go.Proofs.YtomcemkfpfjogaaDoorW.PrintWords Go.Proofs.YtomcemkfpfjogaaDoorW.PrintLast Go.Proofs.YtomcemkfpfjogaaDoorW.PrintMore
set_option linter.unusedVariables false
set_option linter.unusedSimpArgs false

/-- THE ONE PURE STATEMENT of FnExactDifferentEnds. -/
def PureFnExactDifferentEnds : Prop := ∀ (a0_0 : Int) (l0_1 : List Int), Int64 a0_0 → AllOk Int64 l0_1 → l0_1.length ≤ 9223372036854775807 → ∃ k, laws_FnExactDifferentEnds.f k a0_0 l0_1 = some true
theorem diff_loop {n : Int} {l : List Int} (hS : isSpaceB n l = true) (hlen : l.length < 1048577) : ∀ (d i : Nat) (a : Int), i + d = n.toNat → 0 ≤ a → a ≤ i → Ev (fun k => impl_DifferentEnds.l0 k a n i n l) (moreN (famOf l) l d i a, true)
  | 0, i, a, hd, ha0, ha => by
    obtain ⟨n1, n7, _⟩ := isSpaceB_parts hS
    exact Ev.succ (fun k => by simp only [impl_DifferentEnds.l0]; rw [if_neg (by omega)]) (show Ev _ (a, true) from Ev.const rfl)
  | d + 1, i, a, hd, ha0, ha => by
    obtain ⟨n1, n7, _⟩ := isSpaceB_parts hS
    have hn := diff_loop hS hlen d (i + 1) (if 1 < (pathsToL (famOf l) l i).length then a + 1 else a) (by omega) (by split <;> omega) (by push_cast; split <;> omega)
    push_cast at hn
    have hws : wrap64 ((i : Int) + 1) = i + 1 := wrap_succ (by omega) (by omega)
    have hwa : wrap64 (a + 1) = a + 1 := wrap_succ (by omega) (by omega)
    refine Ev.succ (fun k => by simp only [impl_DifferentEnds.l0]; rw [if_pos (by omega), hws, hwa]) ?_
    refine Ev.bind (pathsTo_ok hS hlen i) ?_
    by_cases h : 1 < (pathsToL (famOf l) l i).length
    · rw [if_pos h] at hn
      refine Ev.to (fun k => by rw [if_pos (by omega)]) ?_
      show Ev _ (moreN (famOf l) l d (i + 1) _, true)
      rw [if_pos h]
      exact hn
    · rw [if_neg h] at hn
      refine Ev.to (fun k => by rw [if_neg (by omega)]) ?_
      show Ev _ (moreN (famOf l) l d (i + 1) _, true)
      rw [if_neg h]
      exact hn
theorem differentEnds_both (n : Int) (l : List Int) (hlen : l.length < 1048577) : ∃ r, Ev (fun k => spec_DifferentEnds.f k n l) r ∧ Ev (fun k => impl_DifferentEnds.f k n l) r := by
  unfold spec_DifferentEnds.f impl_DifferentEnds.f
  cases hS : isSpaceB n l with
  | false =>
    refine ⟨(0, false), ?_, ?_⟩
    · refine Ev.bind (spGood_ok n l (by omega)) ?_
      exact Ev.to (fun k => by rw [hS, if_neg (by decide)]) (Ev.const rfl)
    · refine Ev.bindc (show impl_IsSpace.f n l = some false from congrArg some hS) ?_
      exact Ev.to (fun k => by rw [if_neg (by decide)]) (Ev.const rfl)
  | true =>
    refine ⟨(moreN (famOf l) l n.toNat 0 0, true), ?_, ?_⟩
    · refine Ev.bind (spGood_ok n l (by omega)) ?_
      refine Ev.to (fun k => by rw [hS, if_pos rfl]) ?_
      exact Ev.bind (paMore_ok hS hlen) (Ev.const rfl)
    · refine Ev.bindc (show impl_IsSpace.f n l = some true from congrArg some hS) ?_
      refine Ev.to (fun k => by rw [if_pos rfl]) ?_
      exact diff_loop hS hlen n.toNat 0 0 (by omega) (Int.le_refl _) (Int.le_refl _)
theorem FnExactDifferentEnds : PureFnExactDifferentEnds := by
  intro n0 l0 _ _ hl0
  refine Ev.rounds ?_
  unfold laws_FnExactDifferentEnds.f
  by_cases hb0 : (1048576 : Int) < l0.length
  · refine Ev.bindc (szSpace_over n0 l0 _ (by omega) hl0 hb0 (by omega)) ?_
    exact Ev.to (fun k => by rw [if_pos (by decide)]) (Ev.const rfl)
  · refine Ev.bindc (szSpace_fits n0 l0 _ (by omega) (by omega)) ?_
    refine Ev.to (fun k => by rw [if_neg (by omega)]) ?_
    obtain ⟨⟨r0, r1⟩, h1, h2⟩ := differentEnds_both n0 l0 (by omega)
    have a0_ := toSpace_ok n0 l0 (by omega)
    have e0_ := eqSpace_refl n0 l0 (by omega)
    repeat (first | exact Ev.const rfl | (with_reducible refine Ev.bind h1 ?_) | (with_reducible refine Ev.bind h2 ?_) | (with_reducible refine Ev.bind a0_ ?_) | (with_reducible refine Ev.bind e0_ ?_) | refine Ev.to (fun k => by rw [if_pos rfl]) ?_ | refine Ev.to (fun k => by rw [if_neg (by omega)]) ?_ | refine Ev.to (fun k => by rw [if_neg (by simp)]) ?_ | refine Ev.succ (fun k => by simp only [laws_FnExactDifferentEnds.j0]; rw [if_neg (by simp)]) ?_ | refine Ev.succ (fun k => by simp only [laws_FnExactDifferentEnds.j1]; rw [if_neg (by simp)]) ?_ | refine Ev.succ (fun k => by simp only [laws_FnExactDifferentEnds.j2]; rw [if_neg (by simp)]) ?_ | refine Ev.succ (fun k => by simp only [laws_FnExactDifferentEnds.j3]; rw [if_neg (by simp)]) ?_)


end Go.Proofs.YtomcemkfpfjogaaDoor.Q
