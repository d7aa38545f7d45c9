/- The pure side of the law FnExactBestCost: the program and the reference tell the same least cost. Conditions: none. -/
import Derived.Test.YtpamaelmdncpoaaPx1
import Derived.Test.YtpamaelmdncpoaaPx2
import Derived.Test.YtpamaelmdncpoaaPx5
import Derived.Test.YtpamaelmdncpoaaPx6
import Derived.Test.YtpamaelmdncpoaaPx7
import Derived.Test.YtpamaelmdncpoaaOpens
namespace Go.Proofs.Ytpamaelmdncpoaa.Q
open Go.RowKit Go.Proofs.Ytpamaelmdncpoaa.Opens Go.Proofs.YtpamaelmdncpoaaW.PrintWords Go.Proofs.YtpamaelmdncpoaaW.PrintLast Go.Proofs.YtpamaelmdncpoaaW.PrintMore
set_option linter.unusedVariables false
set_option linter.unusedSimpArgs false

/-- THE ONE PURE STATEMENT of FnExactBestCost. -/
def PureFnExactBestCost : Prop := ∀ (a0_0 : Int) (l0_1 : List Int) (l1 : List (S63)), Int64 a0_0 → AllOk Int64 l0_1 → l0_1.length ≤ 9223372036854775807 → AllOk (fun x : S63 => Int64 x.f0 ∧ Int64 x.f1 ∧ Int64 x.f2) l1 → l1.length ≤ 9223372036854775807 → ∃ k, laws_FnExactBestCost.f k a0_0 l0_1 l1 = some true
theorem bestCost_both (n : Int) (l : List Int) (t : List S61) (hlen : l.length < 1048577) (ht : t.length < 1048577) : ∃ r, Ev (fun k => spec_BestCost.f k n l t) r ∧ Ev (fun k => impl_BestCost.f k n l t) r := by
  unfold spec_BestCost.f impl_BestCost.f
  cases hg : isSpaceB n l && areTasksB t n with
  | false =>
    refine ⟨(0, false), ?_, ?_⟩
    · refine Ev.bind (grGiven_ok n l t (by omega) (by omega)) ?_
      exact Ev.to (fun k => by rw [hg, if_neg (by decide)]) (Ev.const rfl)
    · refine Ev.bindc (together_ok n l t) ?_
      exact Ev.to (fun k => by rw [hg, if_neg (by decide)]) (Ev.const rfl)
  | true =>
    have hS : isSpaceB n l = true := by
      cases h : isSpaceB n l with
      | true => rfl
      | false => rw [h] at hg; cases hg
    have hT : areTasksB t n = true := by rw [hS] at hg; exact hg
    obtain ⟨n1, n7, htl, hf⟩ := areTasks_facts hT
    have hWl : (greedyW (costX t) (famOf l) n.toNat 0 []).length = n.toNat := by rw [greedyW_len]; simp
    have hWm := greedyW_mem hS (costX t) n.toNat 0 [] (by simp) (GInv.start hS) (fun i hi => absurd hi (by simp))
    obtain ⟨r, h1, h2⟩ := costOf_both hf (by omega) (greedyW (costX t) (famOf l) n.toNat 0 []) (fun i hi => by have := hWm i hi; omega) (by omega) (fun e => by rw [e] at hWl; simp at hWl; omega)
    refine ⟨(r, true), ?_, ?_⟩
    · refine Ev.bind (grGiven_ok n l t (by omega) (by omega)) ?_
      refine Ev.to (fun k => by rw [hg, if_pos rfl]) ?_
      refine Ev.bind (grGreedy_ok hS hlen t htl) ?_
      exact Ev.bind h1 (Ev.const rfl)
    · refine Ev.bindc (together_ok n l t) ?_
      refine Ev.to (fun k => by rw [hg, if_pos rfl]) ?_
      refine Ev.bind (best_ok hS t htl) ?_
      exact Ev.bind h2 (Ev.const rfl)
theorem FnExactBestCost : PureFnExactBestCost := by
  intro n0 l0 l1 _ _ hl0 _ hl1
  refine Ev.rounds ?_
  unfold laws_FnExactBestCost.f
  by_cases hb0 : (1048576 : Int) < l0.length
  · refine Ev.bindc (szSpace_over n0 l0 _ (by omega) hl0 hb0 (by omega)) ?_
    exact Ev.to (fun k => by rw [if_pos (by decide)]) (Ev.const rfl)
  · refine Ev.bindc (szSpace_fits n0 l0 _ (by omega) (by omega)) ?_
    refine Ev.to (fun k => by rw [if_neg (by omega)]) ?_
    by_cases hb1 : (1048576 - l0.length : Int) < l1.length
    · refine Ev.bindc (szTaskS_over l1 _ (by omega) hl1 hb1 (by omega)) ?_
      exact Ev.to (fun k => by rw [if_pos (by decide)]) (Ev.const rfl)
    · refine Ev.bindc (szTaskS_fits l1 _ (by omega) (by omega)) ?_
      refine Ev.to (fun k => by rw [if_neg (by omega)]) ?_
      have hm1 : (l1.map taskOf).length = l1.length := List.length_map _
      obtain ⟨⟨r0, r1⟩, h1, h2⟩ := bestCost_both n0 l0 (l1.map taskOf) (by omega) (by omega)
      have a0_ := toSpace_ok n0 l0 (by omega)
      have e0_ := eqSpace_refl n0 l0 (by omega)
      have a1_ := toTaskS_ok l1 (by omega)
      have e1_ := eqTaskS_refl (l1.map taskOf) (by omega)
      repeat (first | exact Ev.const rfl | (with_reducible refine Ev.bind h1 ?_) | (with_reducible refine Ev.bind h2 ?_) | (with_reducible refine Ev.bind a0_ ?_) | (with_reducible refine Ev.bind e0_ ?_) | (with_reducible refine Ev.bind a1_ ?_) | (with_reducible refine Ev.bind e1_ ?_) | refine Ev.to (fun k => by rw [if_pos rfl]) ?_ | refine Ev.to (fun k => by rw [if_neg (by omega)]) ?_ | refine Ev.to (fun k => by rw [if_neg (by simp)]) ?_ | refine Ev.succ (fun k => by simp only [laws_FnExactBestCost.j0]; rw [if_neg (by simp)]) ?_ | refine Ev.succ (fun k => by simp only [laws_FnExactBestCost.j1]; rw [if_neg (by simp)]) ?_ | refine Ev.succ (fun k => by simp only [laws_FnExactBestCost.j2]; rw [if_neg (by simp)]) ?_ | refine Ev.succ (fun k => by simp only [laws_FnExactBestCost.j3]; rw [if_neg (by simp)]) ?_)


end Go.Proofs.Ytpamaelmdncpoaa.Q
