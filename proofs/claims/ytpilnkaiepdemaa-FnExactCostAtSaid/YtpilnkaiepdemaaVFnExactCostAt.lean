/- The pure side of the law FnExactCostAt: the program and the reference tell the same cost of an item behind a set. Conditions: none. -/
import Derived.Test.YtpilnkaiepdemaaPx1
import Derived.Test.YtpilnkaiepdemaaPx2
import Derived.Test.YtpilnkaiepdemaaPx4
import Derived.Test.YtpilnkaiepdemaaPx5
import Derived.Test.YtpilnkaiepdemaaPx6
import Derived.Test.YtpilnkaiepdemaaOpens
namespace Go.Proofs.Ytpilnkaiepdemaa.Q
open Go.RowKit Go.Proofs.Ytpilnkaiepdemaa.Opens Go.Proofs.YtpilnkaiepdemaaW.PrintWords Go.Proofs.YtpilnkaiepdemaaW.PrintLast Go.Proofs.YtpilnkaiepdemaaW.PrintMore
set_option linter.unusedVariables false
set_option linter.unusedSimpArgs false

/-- THE ONE PURE STATEMENT of FnExactCostAt. -/
def PureFnExactCostAt : Prop := ∀ (a0_0 : Int) (l0_1 : List Int) (l1 : List (S86)) (a2 : Int) (a3 : Int), Int64 a0_0 → AllOk Int64 l0_1 → l0_1.length ≤ 9223372036854775807 → AllOk (fun x : S86 => Int64 x.f0 ∧ Int64 x.f1 ∧ Int64 x.f2) l1 → l1.length ≤ 9223372036854775807 → Int64 a2 → Int64 a3 → ∃ k, laws_FnExactCostAt.f k a0_0 l0_1 l1 a2 a3 = some true
theorem areTasksB_len {t : List S84} {n : Int} (h : areTasksB t n = true) : (t.length : Int) = n := by
  unfold areTasksB at h
  simp only [Bool.and_eq_true, decide_eq_true_eq] at h
  exact h.1.2
theorem costAt_both (n : Int) (l : List Int) (t : List S84) (x i : Int) (hlen : l.length < 1048577) (ht : t.length < 1048577) : ∃ r, Ev (fun k => spec_CostAt.f k n l t x i) r ∧ Ev (fun k => impl_CostAt.f k n l t x i) r := by
  unfold spec_CostAt.f impl_CostAt.f
  cases hg : isSpaceB n l && areTasksB t n with
  | false =>
    refine ⟨(0, false), ?_, ?_⟩
    · refine Ev.bind (grGiven_ok n l t (by omega) (by omega)) ?_
      exact Ev.to (fun k => by rw [hg, if_neg (by decide)]) (Ev.const rfl)
    · refine Ev.bindc (together_ok n l t) ?_
      exact Ev.to (fun k => by rw [hg, if_neg (by decide)]) (Ev.const rfl)
  | true =>
    have hS : isSpaceB n l = true := by
      cases h : isSpaceB n l with
      | true => rfl
      | false => rw [h] at hg; cases hg
    have hT : areTasksB t n = true := by rw [hS] at hg; exact hg
    obtain ⟨n1, n7, _⟩ := isSpaceB_parts hS
    have hw : wrap64 (n - 1) = n - 1 := wrap_in (by omega) (by omega)
    have htl := areTasksB_len hT
    cases hk : isKnownB n l x with
    | false =>
      refine ⟨(0, false), ?_, ?_⟩
      · refine Ev.bind (grGiven_ok n l t (by omega) (by omega)) ?_
        refine Ev.to (fun k => by rw [hg, if_pos rfl]) ?_
        refine Ev.bind (spOne_ok n l x (by omega)) ?_
        exact Ev.to (fun k => by rw [hk, if_neg (by decide)]) (Ev.const rfl)
      · refine Ev.bindc (together_ok n l t) ?_
        refine Ev.to (fun k => by rw [hg, if_pos rfl]) ?_
        refine Ev.bindc (show impl_isKnown.f n l x = some (isKnownB n l x) from rfl) ?_
        exact Ev.to (fun k => by rw [hk, if_neg (by decide)]) (Ev.const rfl)
    | true =>
      have hx : x ∈ l := by
        unfold isKnownB at hk
        simp only [Bool.and_eq_true, decide_eq_true_eq] at hk
        exact hk.2
      have hx2 := isSpaceB_128 hS x hx
      by_cases hi : 0 ≤ i ∧ i ≤ n - 1
      · have hin : (decide (0 ≤ i) && decide (i ≤ n - 1)) = true := by simp [hi]
        obtain ⟨i, rfl⟩ := Int.eq_ofNat_of_zero_le hi.1
        have ho : outerF (famOf l) x.toNat < 128 := maskOf_lt _
        cases hb : (outerF (famOf l) x.toNat).testBit i with
        | false =>
          refine ⟨(0, false), ?_, ?_⟩
          · refine Ev.bind (grGiven_ok n l t (by omega) (by omega)) ?_
            refine Ev.to (fun k => by rw [hg, if_pos rfl]) ?_
            refine Ev.bind (spOne_ok n l x (by omega)) ?_
            refine Ev.to (fun k => by rw [hk, if_pos rfl, hw]) ?_
            refine Ev.bindc (l1In_ok _ _ _) ?_
            refine Ev.to (fun k => by rw [hin, if_pos rfl]) ?_
            refine Ev.bind (spOuter_ok hS (by omega) x hx2.1 hx2.2) ?_
            refine Ev.bindc (spIn_ok _ i (by omega)) ?_
            exact Ev.to (fun k => by rw [hb, if_neg (by decide)]) (Ev.const rfl)
          · refine Ev.bindc (together_ok n l t) ?_
            refine Ev.to (fun k => by rw [hg, if_pos rfl]) ?_
            refine Ev.bindc (show impl_isKnown.f n l x = some (isKnownB n l x) from rfl) ?_
            refine Ev.to (fun k => by rw [hk, if_pos rfl, hw]) ?_
            refine Ev.bindc (within_ok _ _ _) ?_
            refine Ev.to (fun k => by rw [hin, if_pos rfl]) ?_
            refine Ev.bindc (family_f hS) ?_
            refine Ev.bindc (outer_f _ (famOf_length l) x hx2.1 hx2.2) ?_
            exact Ev.to (fun k => by rw [if_pos hi.1, shr_nat _ i (by omega), bit_and _ i (lt63 ho), hb, if_pos (by decide)]) (Ev.const rfl)
        | true =>
          refine ⟨(costV t x.toNat i, true), ?_, ?_⟩
          · refine Ev.bind (grGiven_ok n l t (by omega) (by omega)) ?_
            refine Ev.to (fun k => by rw [hg, if_pos rfl]) ?_
            refine Ev.bind (spOne_ok n l x (by omega)) ?_
            refine Ev.to (fun k => by rw [hk, if_pos rfl, hw]) ?_
            refine Ev.bindc (l1In_ok _ _ _) ?_
            refine Ev.to (fun k => by rw [hin, if_pos rfl]) ?_
            refine Ev.bind (spOuter_ok hS (by omega) x hx2.1 hx2.2) ?_
            refine Ev.bindc (spIn_ok _ i (by omega)) ?_
            refine Ev.to (fun k => by rw [hb, if_pos rfl]) ?_
            exact Ev.bind (grCost_ok t x i hx2.1 hi.1 (by omega) (by omega)) (Ev.const rfl)
          · refine Ev.bindc (together_ok n l t) ?_
            refine Ev.to (fun k => by rw [hg, if_pos rfl]) ?_
            refine Ev.bindc (show impl_isKnown.f n l x = some (isKnownB n l x) from rfl) ?_
            refine Ev.to (fun k => by rw [hk, if_pos rfl, hw]) ?_
            refine Ev.bindc (within_ok _ _ _) ?_
            refine Ev.to (fun k => by rw [hin, if_pos rfl]) ?_
            refine Ev.bindc (family_f hS) ?_
            refine Ev.bindc (outer_f _ (famOf_length l) x hx2.1 hx2.2) ?_
            refine Ev.to (fun k => by rw [if_pos hi.1, shr_nat _ i (by omega), bit_and _ i (lt63 ho), hb, if_pos rfl, if_neg (by decide)]) ?_
            exact Ev.bind (cost_ok t x i hx2.1 hx2.2 hi.1 (by omega) (by omega)) (Ev.const rfl)
      · have hin : (decide (0 ≤ i) && decide (i ≤ n - 1)) = false := by simp; omega
        refine ⟨(0, false), ?_, ?_⟩
        · refine Ev.bind (grGiven_ok n l t (by omega) (by omega)) ?_
          refine Ev.to (fun k => by rw [hg, if_pos rfl]) ?_
          refine Ev.bind (spOne_ok n l x (by omega)) ?_
          refine Ev.to (fun k => by rw [hk, if_pos rfl, hw]) ?_
          refine Ev.bindc (l1In_ok _ _ _) ?_
          exact Ev.to (fun k => by rw [hin, if_neg (by decide)]) (Ev.const rfl)
        · refine Ev.bindc (together_ok n l t) ?_
          refine Ev.to (fun k => by rw [hg, if_pos rfl]) ?_
          refine Ev.bindc (show impl_isKnown.f n l x = some (isKnownB n l x) from rfl) ?_
          refine Ev.to (fun k => by rw [hk, if_pos rfl, hw]) ?_
          refine Ev.bindc (within_ok _ _ _) ?_
          exact Ev.to (fun k => by rw [hin, if_neg (by decide)]) (Ev.const rfl)
theorem FnExactCostAt : PureFnExactCostAt := by
  intro n0 l0 l1 a2 a3 _ _ hl0 _ hl1 _ _
  refine Ev.rounds ?_
  unfold laws_FnExactCostAt.f
  by_cases hb0 : (1048576 : Int) < l0.length
  · refine Ev.bindc (szSpace_over n0 l0 _ (by omega) hl0 hb0 (by omega)) ?_
    exact Ev.to (fun k => by rw [if_pos (by decide)]) (Ev.const rfl)
  · refine Ev.bindc (szSpace_fits n0 l0 _ (by omega) (by omega)) ?_
    refine Ev.to (fun k => by rw [if_neg (by omega)]) ?_
    by_cases hb1 : (1048576 - l0.length : Int) < l1.length
    · refine Ev.bindc (szTaskS_over l1 _ (by omega) hl1 hb1 (by omega)) ?_
      exact Ev.to (fun k => by rw [if_pos (by decide)]) (Ev.const rfl)
    · refine Ev.bindc (szTaskS_fits l1 _ (by omega) (by omega)) ?_
      refine Ev.to (fun k => by rw [if_neg (by omega)]) ?_
      have hm1 : (l1.map taskOf).length = l1.length := List.length_map _
      obtain ⟨⟨r0, r1⟩, h1, h2⟩ := costAt_both n0 l0 (l1.map taskOf) a2 a3 (by omega) (by omega)
      have a0_ := toSpace_ok n0 l0 (by omega)
      have e0_ := eqSpace_refl n0 l0 (by omega)
      have a1_ := toTaskS_ok l1 (by omega)
      have e1_ := eqTaskS_refl (l1.map taskOf) (by omega)
      repeat (first | exact Ev.const rfl | (with_reducible refine Ev.bind h1 ?_) | (with_reducible refine Ev.bind h2 ?_) | (with_reducible refine Ev.bind a0_ ?_) | (with_reducible refine Ev.bind e0_ ?_) | (with_reducible refine Ev.bind a1_ ?_) | (with_reducible refine Ev.bind e1_ ?_) | refine Ev.to (fun k => by rw [if_pos rfl]) ?_ | refine Ev.to (fun k => by rw [if_neg (by omega)]) ?_ | refine Ev.to (fun k => by rw [if_neg (by simp)]) ?_ | refine Ev.succ (fun k => by simp only [laws_FnExactCostAt.j0]; rw [if_neg (by simp)]) ?_ | refine Ev.succ (fun k => by simp only [laws_FnExactCostAt.j1]; rw [if_neg (by simp)]) ?_ | refine Ev.succ (fun k => by simp only [laws_FnExactCostAt.j2]; rw [if_neg (by simp)]) ?_ | refine Ev.succ (fun k => by simp only [laws_FnExactCostAt.j3]; rw [if_neg (by simp)]) ?_)


end Go.Proofs.Ytpilnkaiepdemaa.Q
