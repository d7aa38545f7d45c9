/- The pure side of the law FnExactRunBelow: the program and the reference tell the same set that is learnt by choices. Conditions: none. -/
import Derived.Test.YtomcemkfpfjogaaPx1
import Derived.Test.YtomcemkfpfjogaaPx2
import Derived.Test.YtomcemkfpfjogaaPx3
import Derived.Test.YtomcemkfpfjogaaPx5
import Derived.Test.YtomcemkfpfjogaaPx6
import Derived.Test.YtomcemkfpfjogaaPx7
import Derived.Test.YtomcemkfpfjogaaPx8
import Derived.Test.YtomcemkfpfjogaaOpens
namespace Go.Proofs.Ytomcemkfpfjogaa.Q
open Go.RowKit Go.Proofs.Ytomcemkfpfjogaa.Opens Go.Proofs.YtomcemkfpfjogaaW.PrintWords Go.Proofs.YtomcemkfpfjogaaW.PrintLast Go.Proofs.YtomcemkfpfjogaaW.PrintMore
set_option linter.unusedVariables false
set_option linter.unusedSimpArgs false

/-- THE ONE PURE STATEMENT of FnExactRunBelow. -/
def PureFnExactRunBelow : Prop := ∀ (a0_0 : Int) (l0_1 : List Int) (l1 : List (S84)) (a2 : Int) (l3 : List Int), Int64 a0_0 → AllOk Int64 l0_1 → l0_1.length ≤ 9223372036854775807 → AllOk (fun x : S84 => Int64 x.f0 ∧ Int64 x.f1 ∧ Int64 x.f2) l1 → l1.length ≤ 9223372036854775807 → Int64 a2 → AllOk Int64 l3 → l3.length ≤ 9223372036854775807 → ∃ k, laws_FnExactRunBelow.f k a0_0 l0_1 l1 a2 l3 = some true
theorem specChoices {n : Int} {l : List Int} (t : List S82) (most : Int) (C : List Int) (hCl : C.length < 1048577) (R : Int) (hR : (∀ c ∈ C, 0 ≤ c) → Ev (fun k => spec_grRun.f k n l t most C) R) :
    ∀ (d i : Nat), C.length - i = d → i ≤ C.length → (∀ j, j < i → 0 ≤ rd C (j : Int)) → Ev (fun k => spec_RunBelow.l0 k t most C C C.length i n l) (if (C.any fun x => decide (x < 0)) = true then (0, false) else (R, true))
  | 0, i, hd, hi, hp => by
    have hall : ∀ c ∈ C, 0 ≤ c := fun c hc => by
      obtain ⟨j, hj, rfl⟩ := List.getElem_of_mem hc
      rw [← rd_get hj]
      exact hp j (by omega)
    rw [if_neg (by simp only [List.any_eq_true, decide_eq_true_eq]; rintro ⟨c, hc, hlt⟩; have := hall c hc; omega)]
    refine Ev.succ (fun k => by simp only [spec_RunBelow.l0]; rw [if_neg (by omega)]) ?_
    exact Ev.bind (hR hall) (Ev.const rfl)
  | d + 1, i, hd, hi, hp => by
    have hws : wrap64 ((i : Int) + 1) = i + 1 := wrap_succ (by omega) (by omega)
    by_cases h0 : rd C (i : Int) < 0
    · rw [if_pos (by simp only [List.any_eq_true, decide_eq_true_eq]; exact ⟨_, rd_mem (by omega) (by omega), h0⟩)]
      exact Ev.succ (fun k => by simp only [spec_RunBelow.l0]; rw [if_pos (by omega), if_pos (by omega), if_pos (by omega), if_pos h0]) (Ev.const rfl)
    · have hn := specChoices t most C hCl R hR d (i + 1) (by omega) (by omega) (fun j hj => by
        by_cases e : j = i
        · subst e; omega
        · exact hp j (by omega))
      push_cast at hn
      exact Ev.succ (fun k => by simp only [spec_RunBelow.l0]; rw [if_pos (by omega), if_pos (by omega), if_pos (by omega), if_neg h0, hws]) hn
theorem runBelow_both (n : Int) (l : List Int) (t : List S82) (most : Int) (C : List Int) (hlen : l.length < 1048577) (ht : t.length < 1048577) (hCl : C.length < 1048577) : ∃ r, Ev (fun k => spec_RunBelow.f k n l t most C) r ∧ Ev (fun k => impl_RunBelow.f k n l t most C) r := by
  unfold spec_RunBelow.f impl_RunBelow.f
  cases hg : isSpaceB n l && areTasksB t n with
  | false =>
    refine ⟨(0, false), ?_, ?_⟩
    · refine Ev.bind (grGiven_ok n l t (by omega) (by omega)) ?_
      refine Ev.to (fun k => by rw [hg, if_neg (by decide)]) ?_
      exact Ev.succ (fun k => by simp only [spec_RunBelow.j0]; first | rfl | rw [if_pos rfl]) (Ev.const rfl)
    · refine Ev.bindc (together_ok n l t) ?_
      refine Ev.to (fun k => by rw [hg, if_neg (by decide)]) ?_
      exact Ev.succ (fun k => by simp only [impl_RunBelow.j0]; first | rfl | rw [if_pos rfl]) (Ev.const rfl)
  | true =>
    have hS : isSpaceB n l = true := by
      cases h : isSpaceB n l with
      | true => rfl
      | false => rw [h] at hg; cases hg
    have hT : areTasksB t n = true := by rw [hS] at hg; exact hg
    obtain ⟨n1, n7, htl, hf⟩ := areTasks_facts hT
    have hcosts : spec_grCosts.f most = some (decide (-10000 ≤ most) && decide (most ≤ 10000)) := by
      unfold spec_grCosts.f
      rw [l1In_ok]
      rfl
    cases hm : decide (-10000 ≤ most) && decide (most ≤ 10000) with
    | false =>
      refine ⟨(0, false), ?_, ?_⟩
      · refine Ev.bind (grGiven_ok n l t (by omega) (by omega)) ?_
        refine Ev.to (fun k => by rw [hg, if_pos rfl]) ?_
        refine Ev.bindc hcosts ?_
        refine Ev.to (fun k => by rw [hm, if_neg (by decide)]) ?_
        exact Ev.succ (fun k => by simp only [spec_RunBelow.j0]; first | rfl | rw [if_pos rfl]) (Ev.const rfl)
      · refine Ev.bindc (together_ok n l t) ?_
        refine Ev.to (fun k => by rw [hg, if_pos rfl]) ?_
        refine Ev.bindc (within_ok _ _ _) ?_
        refine Ev.to (fun k => by rw [hm, if_neg (by decide)]) ?_
        exact Ev.succ (fun k => by simp only [impl_RunBelow.j0]; first | rfl | rw [if_pos rfl]) (Ev.const rfl)
    | true =>
      by_cases hl : C.length ≤ 20
      · by_cases ha : (C.any fun x => decide (x < 0)) = true
        · refine ⟨(0, false), ?_, ?_⟩
          · refine Ev.bind (grGiven_ok n l t (by omega) (by omega)) ?_
            refine Ev.to (fun k => by rw [hg, if_pos rfl]) ?_
            refine Ev.bindc hcosts ?_
            refine Ev.to (fun k => by rw [hm, if_pos rfl]) ?_
            refine Ev.succ (fun k => by simp only [spec_RunBelow.j0]; rw [if_neg (by rw [decide_eq_false (by omega : ¬ (C.length : Int) > 20)]; decide)]) ?_
            have := specChoices (n := n) (l := l) t most C hCl 0 (fun hall => absurd ha (by simp only [List.any_eq_true, decide_eq_true_eq]; rintro ⟨c, hc, hlt⟩; have := hall c hc; omega)) C.length 0 (by omega) (by omega) (fun j hj => absurd hj (Nat.not_lt_zero _))
            rw [if_pos ha] at this
            exact this
          · refine Ev.bindc (together_ok n l t) ?_
            refine Ev.to (fun k => by rw [hg, if_pos rfl]) ?_
            refine Ev.bindc (within_ok _ _ _) ?_
            refine Ev.to (fun k => by rw [hm, if_pos rfl]) ?_
            refine Ev.bindc (areChoices_ok C) ?_
            refine Ev.to (fun k => by rw [ha, decide_eq_true hl]) ?_
            exact Ev.succ (fun k => by simp only [impl_RunBelow.j0]; first | rfl | rw [if_pos rfl]) (Ev.const rfl)
        · have hall : ∀ c ∈ C, 0 ≤ c := fun c hc => by
            apply Classical.byContradiction
            intro hlt
            exact ha (by simp only [List.any_eq_true, decide_eq_true_eq]; exact ⟨c, hc, by omega⟩)
          obtain ⟨r, hr1, hr2⟩ := grRun_both hS hlen t htl most C hall hCl
          refine ⟨(r, true), ?_, ?_⟩
          · refine Ev.bind (grGiven_ok n l t (by omega) (by omega)) ?_
            refine Ev.to (fun k => by rw [hg, if_pos rfl]) ?_
            refine Ev.bindc hcosts ?_
            refine Ev.to (fun k => by rw [hm, if_pos rfl]) ?_
            refine Ev.succ (fun k => by simp only [spec_RunBelow.j0]; rw [if_neg (by rw [decide_eq_false (by omega : ¬ (C.length : Int) > 20)]; decide)]) ?_
            have := specChoices (n := n) (l := l) t most C hCl r (fun _ => hr1) C.length 0 (by omega) (by omega) (fun j hj => absurd hj (Nat.not_lt_zero _))
            rw [if_neg ha] at this
            exact this
          · refine Ev.bindc (together_ok n l t) ?_
            refine Ev.to (fun k => by rw [hg, if_pos rfl]) ?_
            refine Ev.bindc (within_ok _ _ _) ?_
            refine Ev.to (fun k => by rw [hm, if_pos rfl]) ?_
            refine Ev.bindc (areChoices_ok C) ?_
            refine Ev.to (fun k => by rw [Bool.eq_false_iff.2 ha, decide_eq_true hl]) ?_
            exact hr2
      · refine ⟨(0, false), ?_, ?_⟩
        · refine Ev.bind (grGiven_ok n l t (by omega) (by omega)) ?_
          refine Ev.to (fun k => by rw [hg, if_pos rfl]) ?_
          refine Ev.bindc hcosts ?_
          refine Ev.to (fun k => by rw [hm, if_pos rfl]) ?_
          exact Ev.succ (fun k => by simp only [spec_RunBelow.j0]; rw [if_pos (decide_eq_true (by omega))]) (Ev.const rfl)
        · refine Ev.bindc (together_ok n l t) ?_
          refine Ev.to (fun k => by rw [hg, if_pos rfl]) ?_
          refine Ev.bindc (within_ok _ _ _) ?_
          refine Ev.to (fun k => by rw [hm, if_pos rfl]) ?_
          refine Ev.bindc (areChoices_ok C) ?_
          refine Ev.to (fun k => by rw [decide_eq_false hl]) ?_
          exact Ev.succ (fun k => by simp only [impl_RunBelow.j0]; first | rfl | rw [if_pos rfl]) (Ev.const rfl)
theorem FnExactRunBelow : PureFnExactRunBelow := by
  intro n0 l0 l1 a2 l3 _ _ hl0 _ hl1 _ _ hl3
  refine Ev.rounds ?_
  unfold laws_FnExactRunBelow.f
  by_cases hb3 : (l3.length : Int) > 1048576
  · exact Ev.to (fun k => by rw [if_pos hb3]) (Ev.const rfl)
  · refine Ev.to (fun k => by rw [if_neg hb3]) ?_
    by_cases hb0 : (1048576 : Int) < l0.length
    · refine Ev.bindc (szSpace_over n0 l0 _ (by omega) hl0 hb0 (by omega)) ?_
      exact Ev.to (fun k => by rw [if_pos (by decide)]) (Ev.const rfl)
    · refine Ev.bindc (szSpace_fits n0 l0 _ (by omega) (by omega)) ?_
      refine Ev.to (fun k => by rw [if_neg (by omega)]) ?_
      by_cases hb1 : (1048576 - l0.length : Int) < l1.length
      · refine Ev.bindc (szTaskS_over l1 _ (by omega) hl1 hb1 (by omega)) ?_
        exact Ev.to (fun k => by rw [if_pos (by decide)]) (Ev.const rfl)
      · refine Ev.bindc (szTaskS_fits l1 _ (by omega) (by omega)) ?_
        refine Ev.to (fun k => by rw [if_neg (by omega)]) ?_
        have hm1 : (l1.map taskOf).length = l1.length := List.length_map _
        obtain ⟨⟨r0, r1⟩, h1, h2⟩ := runBelow_both n0 l0 (l1.map taskOf) a2 l3 (by omega) (by omega) (by omega)
        have a0_ := toSpace_ok n0 l0 (by omega)
        have e0_ := eqSpace_refl n0 l0 (by omega)
        have a1_ := toTaskS_ok l1 (by omega)
        have e1_ := eqTaskS_refl (l1.map taskOf) (by omega)
        have a3_ := toIntS_ok l3 (by omega)
        have e3_ := eqIntS_refl l3 (by omega)
        repeat (first | exact Ev.const rfl | (with_reducible refine Ev.bind h1 ?_) | (with_reducible refine Ev.bind h2 ?_) | (with_reducible refine Ev.bind a0_ ?_) | (with_reducible refine Ev.bind e0_ ?_) | (with_reducible refine Ev.bind a1_ ?_) | (with_reducible refine Ev.bind e1_ ?_) | (with_reducible refine Ev.bind a3_ ?_) | (with_reducible refine Ev.bind e3_ ?_) | refine Ev.to (fun k => by rw [if_pos rfl]) ?_ | refine Ev.to (fun k => by rw [if_neg (by omega)]) ?_ | refine Ev.to (fun k => by rw [if_neg (by simp)]) ?_ | refine Ev.succ (fun k => by simp only [laws_FnExactRunBelow.j0]; rw [if_neg (by simp)]) ?_ | refine Ev.succ (fun k => by simp only [laws_FnExactRunBelow.j1]; rw [if_neg (by simp)]) ?_ | refine Ev.succ (fun k => by simp only [laws_FnExactRunBelow.j2]; rw [if_neg (by simp)]) ?_ | refine Ev.succ (fun k => by simp only [laws_FnExactRunBelow.j3]; rw [if_neg (by simp)]) ?_)


end Go.Proofs.Ytomcemkfpfjogaa.Q
