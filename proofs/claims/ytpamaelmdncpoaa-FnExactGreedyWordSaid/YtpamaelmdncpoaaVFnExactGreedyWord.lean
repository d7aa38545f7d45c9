/- The pure side of the law FnExactGreedyWord: the program and the reference tell the same greedy word. Conditions: none. -/
import Derived.Test.YtpamaelmdncpoaaPx1
import Derived.Test.YtpamaelmdncpoaaPx2
import Derived.Test.YtpamaelmdncpoaaPx5
import Derived.Test.YtpamaelmdncpoaaPx6
import Derived.Test.YtpamaelmdncpoaaPx7
import Derived.Test.YtpamaelmdncpoaaPx8
import Derived.Test.YtpamaelmdncpoaaOpens
namespace Go.Proofs.Ytpamaelmdncpoaa.Q
open Go.RowKit Go.Proofs.Ytpamaelmdncpoaa.Opens Go.Proofs.YtpamaelmdncpoaaW.PrintWords Go.Proofs.YtpamaelmdncpoaaW.PrintLast Go.Proofs.YtpamaelmdncpoaaW.PrintMore
set_option linter.unusedVariables false
set_option linter.unusedSimpArgs false

/-- THE ONE PURE STATEMENT of FnExactGreedyWord. -/
def PureFnExactGreedyWord : Prop := ∀ (a0_0 : Int) (l0_1 : List Int) (l1 : List (S63)), Int64 a0_0 → AllOk Int64 l0_1 → l0_1.length ≤ 9223372036854775807 → AllOk (fun x : S63 => Int64 x.f0 ∧ Int64 x.f1 ∧ Int64 x.f2) l1 → l1.length ≤ 9223372036854775807 → ∃ k, laws_FnExactGreedyWord.f k a0_0 l0_1 l1 = some true
theorem greedyWord_both (n : Int) (l : List Int) (t : List S61) (hlen : l.length < 1048577) (ht : t.length < 1048577) : ∃ r, Ev (fun k => spec_GreedyWord.f k n l t) r ∧ Ev (fun k => impl_GreedyWord.f k n l t) r ∧ r.1.length ≤ 1048577 := by
  unfold spec_GreedyWord.f impl_GreedyWord.f
  cases hg : isSpaceB n l && areTasksB t n with
  | false =>
    refine ⟨([], false), ?_, ?_, by show (0 : Nat) ≤ _; omega⟩
    · refine Ev.bind (grGiven_ok n l t (by omega) (by omega)) ?_
      exact Ev.to (fun k => by rw [hg, if_neg (by decide)]) (Ev.const rfl)
    · refine Ev.bindc (together_ok n l t) ?_
      exact Ev.to (fun k => by rw [hg, if_neg (by decide)]) (Ev.const rfl)
  | true =>
    have hS : isSpaceB n l = true := by
      cases h : isSpaceB n l with
      | true => rfl
      | false => rw [h] at hg; cases hg
    have hT : areTasksB t n = true := by rw [hS] at hg; exact hg
    obtain ⟨n1, n7, htl, hf⟩ := areTasks_facts hT
    refine ⟨(greedyW (costX t) (famOf l) n.toNat 0 [], true), ?_, ?_, ?_⟩
    · refine Ev.bind (grGiven_ok n l t (by omega) (by omega)) ?_
      refine Ev.to (fun k => by rw [hg, if_pos rfl]) ?_
      exact Ev.bind (grGreedy_ok hS hlen t htl) (Ev.const rfl)
    · refine Ev.bindc (together_ok n l t) ?_
      refine Ev.to (fun k => by rw [hg, if_pos rfl]) ?_
      exact Ev.bind (best_ok hS t htl) (Ev.const rfl)
    · show (greedyW _ _ _ _ _).length ≤ _
      rw [greedyW_len]
      simp
      omega
theorem FnExactGreedyWord : PureFnExactGreedyWord := by
  intro n0 l0 l1 _ _ hl0 _ hl1
  refine Ev.rounds ?_
  unfold laws_FnExactGreedyWord.f
  by_cases hb0 : (1048576 : Int) < l0.length
  · refine Ev.bindc (szSpace_over n0 l0 _ (by omega) hl0 hb0 (by omega)) ?_
    exact Ev.to (fun k => by rw [if_pos (by decide)]) (Ev.const rfl)
  · refine Ev.bindc (szSpace_fits n0 l0 _ (by omega) (by omega)) ?_
    refine Ev.to (fun k => by rw [if_neg (by omega)]) ?_
    by_cases hb1 : (1048576 - l0.length : Int) < l1.length
    · refine Ev.bindc (szTaskS_over l1 _ (by omega) hl1 hb1 (by omega)) ?_
      exact Ev.to (fun k => by rw [if_pos (by decide)]) (Ev.const rfl)
    · refine Ev.bindc (szTaskS_fits l1 _ (by omega) (by omega)) ?_
      refine Ev.to (fun k => by rw [if_neg (by omega)]) ?_
      have hm1 : (l1.map taskOf).length = l1.length := List.length_map _
      obtain ⟨⟨r0, r1⟩, h1, h2, z0⟩ := greedyWord_both n0 l0 (l1.map taskOf) (by omega) (by omega)
      replace z0 : r0.length ≤ 1048577 := z0
      have a0_ := toSpace_ok n0 l0 (by omega)
      have e0_ := eqSpace_refl n0 l0 (by omega)
      have a1_ := toTaskS_ok l1 (by omega)
      have e1_ := eqTaskS_refl (l1.map taskOf) (by omega)
      have m0_ := markSpace_ok n0 l0 (1) (by omega) (by omega)
      obtain ⟨y1_, m1_⟩ := markTaskS_ok (l1.map taskOf) (1 + l0.length) (by omega) (by omega) (by omega)
      have g0_ := eqIntS_refl r0 (by omega)
      have p0_ := markIntS_ok r0 (1) (by omega) (by omega)
      have d0_ := heldIntS_ok (1) r0.length (by omega) (by omega)
      repeat (first | exact Ev.const rfl | (with_reducible refine Ev.bind h1 ?_) | (with_reducible refine Ev.bind h2 ?_) | (with_reducible refine Ev.bind a0_ ?_) | (with_reducible refine Ev.bind e0_ ?_) | (with_reducible refine Ev.bind a1_ ?_) | (with_reducible refine Ev.bind e1_ ?_) | (with_reducible refine Ev.bind m0_ ?_) | (with_reducible refine Ev.bind m1_ ?_) | (with_reducible refine Ev.bind g0_ ?_) | (with_reducible refine Ev.bind p0_ ?_) | (with_reducible refine Ev.bind d0_ ?_) | refine Ev.to (fun k => by rw [if_pos rfl]) ?_ | refine Ev.to (fun k => by rw [if_neg (by omega)]) ?_ | refine Ev.to (fun k => by rw [if_neg (by simp)]) ?_ | refine Ev.succ (fun k => by simp only [laws_FnExactGreedyWord.j0]; rw [if_neg (by simp)]) ?_ | refine Ev.succ (fun k => by simp only [laws_FnExactGreedyWord.j1]; rw [if_neg (by simp)]) ?_ | refine Ev.succ (fun k => by simp only [laws_FnExactGreedyWord.j2]; rw [if_neg (by simp)]) ?_ | refine Ev.succ (fun k => by simp only [laws_FnExactGreedyWord.j3]; rw [if_neg (by simp)]) ?_)


end Go.Proofs.Ytpamaelmdncpoaa.Q
