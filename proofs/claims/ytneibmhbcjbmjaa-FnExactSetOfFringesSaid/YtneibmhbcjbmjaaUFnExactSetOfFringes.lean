/- The pure side of the law FnExactSetOfFringes: the program and the reference find the same set, the first one with these fringes. Conditions: none. -/
import Derived.Test.YtneibmhbcjbmjaaQx1
import Derived.Test.YtneibmhbcjbmjaaQx4
import Derived.Test.YtneibmhbcjbmjaaQx5
import Derived.Test.YtneibmhbcjbmjaaQx6
import Derived.Test.YtneibmhbcjbmjaaQx7
import Derived.Test.YtneibmhbcjbmjaaQx10
import Derived.Test.YtneibmhbcjbmjaaOpens
namespace Go.Proofs.Ytneibmhbcjbmjaa.Q
open Go.RowKit Go.Proofs.Ytneibmhbcjbmjaa.Opens Go.Proofs.YtneibmhbcjbmjaaW.PrintWords Go.Proofs.YtneibmhbcjbmjaaW.PrintLast Go.Proofs.YtneibmhbcjbmjaaW.PrintMore
set_option linter.unusedVariables false
set_option linter.unusedSimpArgs false

/-- THE ONE PURE STATEMENT of FnExactSetOfFringes. -/
def PureFnExactSetOfFringes : Prop := ∀ (a0_0 : Int) (l0_1 : List Int) (a1 : Int) (a2 : Int), Int64 a0_0 → AllOk Int64 l0_1 → l0_1.length ≤ 9223372036854775807 → Int64 a1 → Int64 a2 → ∃ k, laws_FnExactSetOfFringes.f k a0_0 l0_1 a1 a2 = some true
theorem setOfFringes_loop {n : Int} {l : List Int} (h : isSpaceB n l = true) (hlen : l.length < 4611686018427387904) (p q : Int) : ∀ (d i : Nat), l.length - i = d → i ≤ l.length → allTo (fun x => !fringesAre l p q x) l i = true →
    Ev (fun k => spec_SetOfFringes.l0 k p q l l.length i n l) (fringeFind l p q) := by
  have hr := risingB_rise (isSpaceB_parts h).2.2.2.1
  intro d
  induction d with
  | zero =>
    intro i hd hi hz
    obtain rfl : i = l.length := by omega
    rw [allTo_end _ _ _ rfl] at hz
    unfold fringeFind
    rw [find_no hz]
    exact Ev.succ (fun k => by simp only [spec_SetOfFringes.l0]; rw [if_neg (by omega)]) (Ev.const rfl)
  | succ d ih =>
    intro i hd hi hz
    have hil : i < l.length := by omega
    have hmem := rd_mem (l := l) (i := (i : Int)) (by omega) (by omega)
    have hx := isSpaceB_128 h _ hmem
    have hfa : fringesAre l p q (rd l i) = (((innerF (famOf l) (rd l i).toNat : Int) == p) && ((outerF (famOf l) (rd l i).toNat : Int) == q)) := rfl
    have hnext : fringesAre l p q (rd l i) = false → Ev (fun k => spec_SetOfFringes.l0 k p q l l.length (wrap64 ((i : Int) + 1)) n l) (fringeFind l p q) := fun hf => by
      have := ih (i + 1) (by omega) (by omega) (by rw [allTo_nat _ _ _ hil, hz, hf]; rfl)
      push_cast at this
      rw [wrap_succ (by omega) (by omega)]
      exact this
    refine Ev.succ (fun k => by simp only [spec_SetOfFringes.l0]; rw [if_pos (by omega), if_pos (by omega), if_pos (by omega)]) ?_
    refine Ev.bind (spInner_ok hr hlen _ hx.1 hx.2) ?_
    by_cases h1 : (innerF (famOf l) (rd l (i : Int)).toNat : Int) = p
    · refine Ev.to (fun k => by rw [if_pos h1]) ?_
      refine Ev.bind (spOuter_ok h hlen _ hx.1 hx.2) ?_
      by_cases h2 : (outerF (famOf l) (rd l (i : Int)).toNat : Int) = q
      · unfold fringeFind
        rw [find_at (by omega) (by omega) hz (hfa.trans (by rw [h1, h2]; simp))]
        exact Ev.to (fun k => by rw [if_pos h2]) (Ev.const rfl)
      · refine Ev.to (fun k => by rw [if_neg h2]) (hnext (hfa.trans ?_))
        rw [beq_eq_false_iff_ne.2 h2, Bool.and_false]
    · refine Ev.to (fun k => by rw [if_neg h1]) (hnext (hfa.trans ?_))
      rw [beq_eq_false_iff_ne.2 h1, Bool.false_and]
theorem setOfFringes_both (n : Int) (l : List Int) (p q : Int) (hlen : l.length < 4611686018427387904) : ∃ r, Ev (fun k => spec_SetOfFringes.f k n l p q) r ∧ impl_SetOfFringes.f n l p q = some r := by
  refine ⟨_, ?_, rfl⟩
  have hj : ∀ n l, Ev (fun k => spec_SetOfFringes.j0 k p q true n l) (0, false) := fun n l => Ev.succ (fun k => by simp only [spec_SetOfFringes.j0]; rw [if_pos trivial]) (Ev.const rfl)
  unfold spec_SetOfFringes.f hasSetB
  refine Ev.bind (spGood_ok n l hlen) ?_
  cases h : isSpaceB n l with
  | false => exact Ev.val (Ev.to (fun k => by rw [if_neg (by decide)]) (hj n l)) (by simp)
  | true =>
    have hp := isSpaceB_parts h
    refine Ev.to (fun k => by rw [if_pos rfl, if_pos (by omega), wrapPow (by omega) hp.2.1]) ?_
    refine Ev.bindc (l1In_ok _ _ _) ?_
    rw [show decide (p ≤ 2 ^ n.toNat - 1) = decide (p < 2 ^ n.toNat) from decide_eq_decide.2 (by omega)]
    cases h1 : (decide (0 ≤ p) && decide (p < 2 ^ n.toNat)) with
    | false => exact Ev.val (Ev.to (fun k => by rw [if_neg (by decide)]) (hj n l)) (by simp)
    | true =>
      refine Ev.to (fun k => by rw [if_pos rfl]) ?_
      refine Ev.bindc (l1In_ok _ _ _) ?_
      rw [show decide (q ≤ 2 ^ n.toNat - 1) = decide (q < 2 ^ n.toNat) from decide_eq_decide.2 (by omega)]
      cases h2 : (decide (0 ≤ q) && decide (q < 2 ^ n.toNat)) with
      | false => exact Ev.val (hj n l) (by simp)
      | true =>
        refine Ev.succ (fun k => by simp only [spec_SetOfFringes.j0]; rw [if_neg (by decide)]) ?_
        exact Ev.val (setOfFringes_loop h hlen p q l.length 0 (by omega) (by omega) rfl) (by simp)
theorem FnExactSetOfFringes : PureFnExactSetOfFringes := by
  intro n l p q _ _ hlen _ _
  refine Ev.rounds ?_
  unfold laws_FnExactSetOfFringes.f
  by_cases hl : (1048576 : Int) < l.length
  · refine Ev.bindc (szSpace_over n l 1048576 (by omega) hlen hl (by omega)) ?_
    exact Ev.to (fun k => by rw [if_pos (by decide)]) (Ev.const rfl)
  · obtain ⟨r, h1, h2⟩ := setOfFringes_both n l p q (by omega)
    refine Ev.bindc (szSpace_fits n l 1048576 (by omega) (by omega)) ?_
    refine Ev.to (fun k => by rw [if_neg (by omega)]) ?_
    have hts := toSpace_ok n l (by omega)
    refine Ev.bind hts ?_
    refine Ev.bind h1 ?_
    refine Ev.bind hts ?_
    refine Ev.bindc h2 ?_
    refine Ev.to (fun k => by rw [if_pos rfl]) ?_
    refine Ev.succ (fun k => by simp only [laws_FnExactSetOfFringes.j0]; rw [if_neg (by simp)]) ?_
    refine Ev.bind hts ?_
    refine Ev.bind (eqSpace_refl n l (by omega)) ?_
    exact Ev.to (fun k => by rw [if_pos rfl]) (Ev.const rfl)


end Go.Proofs.Ytneibmhbcjbmjaa.Q
