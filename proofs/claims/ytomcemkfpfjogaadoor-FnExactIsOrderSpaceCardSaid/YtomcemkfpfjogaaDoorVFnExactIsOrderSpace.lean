/- The pure side of the law FnExactIsOrderSpace: the program and the reference tell the same whether a space is one of an order. Conditions: none. -/
import Derived.Test.YtomcemkfpfjogaaDoorPx1
import Derived.Test.YtomcemkfpfjogaaDoorPx3
import Derived.Test.YtomcemkfpfjogaaDoorPx4
import Derived.Test.YtomcemkfpfjogaaDoorPx5
import Derived.Test.YtomcemkfpfjogaaDoorPx6
import Derived.Test.YtomcemkfpfjogaaDoorOpens
namespace Go.Proofs.YtomcemkfpfjogaaDoor.Q
open Go.RowKit Go.Proofs.YtomcemkfpfjogaaDoor.Opens Go.Proofs.YtomcemkfpfjogaaDoorW.PrintWords Go.Proofs.YtomcemkfpfjogaaDoorW.PrintLast Go.Proofs.YtomcemkfpfjogaaDoorW.PrintMore
set_option linter.unusedVariables false
set_option linter.unusedSimpArgs false

/-- THE ONE PURE STATEMENT of FnExactIsOrderSpace. -/
def PureFnExactIsOrderSpace : Prop := ∀ (a0_0 : Int) (l0_1 : List Int), Int64 a0_0 → AllOk Int64 l0_1 → l0_1.length ≤ 9223372036854775807 → ∃ k, laws_FnExactIsOrderSpace.f k a0_0 l0_1 = some true
theorem order_loop {n : Int} {l : List Int} (hS : isSpaceB n l = true) (hlen : l.length < 1048577) : ∀ (d i : Nat), i + d = n.toNat → Ev (fun k => impl_IsOrderSpace.l0 k n i n l) (moreN (famOf l) l d i 0 == 0, true)
  | 0, i, hd => by
    obtain ⟨n1, n7, _⟩ := isSpaceB_parts hS
    exact Ev.succ (fun k => by simp only [impl_IsOrderSpace.l0]; rw [if_neg (by omega)]) (show Ev _ (true, true) from Ev.const rfl)
  | d + 1, i, hd => by
    obtain ⟨n1, n7, _⟩ := isSpaceB_parts hS
    have hn := order_loop hS hlen d (i + 1) (by omega)
    push_cast at hn
    have hws : wrap64 ((i : Int) + 1) = i + 1 := wrap_succ (by omega) (by omega)
    have hone := has_path hS (i := i) (by omega)
    have hadd := moreN_add (famOf l) l d (i + 1) (0 + 1)
    refine Ev.succ (fun k => by simp only [impl_IsOrderSpace.l0]; rw [if_pos (by omega), hws]) ?_
    refine Ev.bind (pathsTo_ok hS hlen i) ?_
    by_cases h : 1 < (pathsToL (famOf l) l i).length
    · refine Ev.to (fun k => by rw [if_neg (by omega)]) (Ev.const (congrArg some ?_))
      show _ = (moreN (famOf l) l d (i + 1) _ == 0, true)
      rw [if_pos h, show (moreN (famOf l) l d (i + 1) (0 + 1) == 0) = false from beq_eq_false_iff_ne.2 (by omega)]
    · refine Ev.to (fun k => by rw [if_pos (by omega)]) ?_
      show Ev _ (moreN (famOf l) l d (i + 1) _ == 0, true)
      rw [if_neg h]
      exact hn
theorem isOrderSpace_both (n : Int) (l : List Int) (hlen : l.length < 1048577) : ∃ r, Ev (fun k => spec_IsOrderSpace.f k n l) r ∧ Ev (fun k => impl_IsOrderSpace.f k n l) r := by
  unfold spec_IsOrderSpace.f impl_IsOrderSpace.f
  cases hS : isSpaceB n l with
  | false =>
    refine ⟨(false, false), ?_, ?_⟩
    · refine Ev.bind (spGood_ok n l (by omega)) ?_
      exact Ev.to (fun k => by rw [hS, if_neg (by decide)]) (Ev.const rfl)
    · refine Ev.bindc (show impl_IsSpace.f n l = some false from congrArg some hS) ?_
      exact Ev.to (fun k => by rw [if_neg (by decide)]) (Ev.const rfl)
  | true =>
    refine ⟨(moreN (famOf l) l n.toNat 0 0 == 0, true), ?_, ?_⟩
    · refine Ev.bind (spGood_ok n l (by omega)) ?_
      refine Ev.to (fun k => by rw [hS, if_pos rfl]) ?_
      exact Ev.bind (paMore_ok hS hlen) (Ev.const rfl)
    · refine Ev.bindc (show impl_IsSpace.f n l = some true from congrArg some hS) ?_
      refine Ev.to (fun k => by rw [if_pos rfl]) ?_
      exact order_loop hS hlen n.toNat 0 (by omega)
theorem FnExactIsOrderSpace : PureFnExactIsOrderSpace := by
  intro n0 l0 _ _ hl0
  refine Ev.rounds ?_
  unfold laws_FnExactIsOrderSpace.f
  by_cases hb0 : (1048576 : Int) < l0.length
  · refine Ev.bindc (szSpace_over n0 l0 _ (by omega) hl0 hb0 (by omega)) ?_
    exact Ev.to (fun k => by rw [if_pos (by decide)]) (Ev.const rfl)
  · refine Ev.bindc (szSpace_fits n0 l0 _ (by omega) (by omega)) ?_
    refine Ev.to (fun k => by rw [if_neg (by omega)]) ?_
    obtain ⟨⟨r0, r1⟩, h1, h2⟩ := isOrderSpace_both n0 l0 (by omega)
    have a0_ := toSpace_ok n0 l0 (by omega)
    have e0_ := eqSpace_refl n0 l0 (by omega)
    repeat (first | exact Ev.const rfl | (with_reducible refine Ev.bind h1 ?_) | (with_reducible refine Ev.bind h2 ?_) | (with_reducible refine Ev.bind a0_ ?_) | (with_reducible refine Ev.bind e0_ ?_) | refine Ev.to (fun k => by rw [if_pos rfl]) ?_ | refine Ev.to (fun k => by rw [if_neg (by omega)]) ?_ | refine Ev.to (fun k => by rw [if_neg (by simp)]) ?_ | refine Ev.succ (fun k => by simp only [laws_FnExactIsOrderSpace.j0]; rw [if_neg (by simp)]) ?_ | refine Ev.succ (fun k => by simp only [laws_FnExactIsOrderSpace.j1]; rw [if_neg (by simp)]) ?_ | refine Ev.succ (fun k => by simp only [laws_FnExactIsOrderSpace.j2]; rw [if_neg (by simp)]) ?_ | refine Ev.succ (fun k => by simp only [laws_FnExactIsOrderSpace.j3]; rw [if_neg (by simp)]) ?_)


end Go.Proofs.YtomcemkfpfjogaaDoor.Q
