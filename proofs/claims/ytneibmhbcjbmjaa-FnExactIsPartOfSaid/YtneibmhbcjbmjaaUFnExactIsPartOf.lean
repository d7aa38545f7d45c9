/- The pure side of the law FnExactIsPartOf: the program and the reference say the same of two spaces. Conditions: none. -/
import Derived.Test.YtneibmhbcjbmjaaQx1
import Derived.Test.YtneibmhbcjbmjaaQx3
import Derived.Test.YtneibmhbcjbmjaaQx4
import Derived.Test.YtneibmhbcjbmjaaQx5
import Derived.Test.YtneibmhbcjbmjaaOpens
namespace Go.Proofs.Ytneibmhbcjbmjaa.Q
open Go.RowKit Go.Proofs.Ytneibmhbcjbmjaa.Opens Go.Proofs.YtneibmhbcjbmjaaW.PrintWords Go.Proofs.YtneibmhbcjbmjaaW.PrintLast Go.Proofs.YtneibmhbcjbmjaaW.PrintMore
set_option linter.unusedVariables false
set_option linter.unusedSimpArgs false

/-- THE ONE PURE STATEMENT of FnExactIsPartOf. -/
def PureFnExactIsPartOf : Prop := ∀ (a0_0 : Int) (l0_1 : List Int) (a1_0 : Int) (l1_1 : List Int), Int64 a0_0 → AllOk Int64 l0_1 → l0_1.length ≤ 9223372036854775807 → Int64 a1_0 → AllOk Int64 l1_1 → l1_1.length ≤ 9223372036854775807 → ∃ k, laws_FnExactIsPartOf.f k a0_0 l0_1 a1_0 l1_1 = some true
theorem isPartOf_loop {n : Int} {l l2 : List Int} (hr : Rise l2) (hlen : l.length < 4611686018427387904) (hlen2 : l2.length < 4611686018427387904) (hM : ∀ x ∈ l, 0 ≤ x ∧ x < 128) : ∀ (d i : Nat), l.length - i = d → i ≤ l.length → allTo (fun x => (famOf l2).getD x.toNat false) l i = true →
    Ev (fun k => spec_IsPartOf.l0 k l l.length i n l2) (l.all (fun x => (famOf l2).getD x.toNat false), true) := by
  intro d
  induction d with
  | zero =>
    intro i hd hi hz
    obtain rfl : i = l.length := by omega
    rw [allTo_end _ _ _ rfl] at hz
    rw [hz]
    exact Ev.succ (fun k => by simp only [spec_IsPartOf.l0]; rw [if_neg (by omega)]) (Ev.const rfl)
  | succ d ih =>
    intro i hd hi hz
    have hil : i < l.length := by omega
    have hmem := rd_mem (l := l) (i := (i : Int)) (by omega) (by omega)
    have hx := hM _ hmem
    have hF : (famOf l2).getD (rd l (i : Int)).toNat false = decide (rd l (i : Int) ∈ l2) := by rw [famOf_getD l2 _ (by omega), show (((rd l (i : Int)).toNat : Nat) : Int) = rd l i by omega]
    refine Ev.succ (fun k => by simp only [spec_IsPartOf.l0]; rw [if_pos (by omega), if_pos (by omega), if_pos (by omega)]) ?_
    refine Ev.bind (spHas_ok hr hlen2 _) ?_
    cases hb : decide (rd l (i : Int) ∈ l2) with
    | true =>
      refine Ev.to (fun k => by rw [if_pos rfl, wrap_succ (by omega) (by omega)]) ?_
      have := ih (i + 1) (by omega) (by omega) (by rw [allTo_nat _ _ _ hil, hz, hF, hb]; rfl)
      push_cast at this
      exact this
    | false =>
      rw [all_not (P := fun x => (famOf l2).getD x.toNat false) hmem (hF.trans hb)]
      exact Ev.to (fun k => by rw [if_neg (by decide)]) (Ev.const rfl)
theorem any_all (P : Int → Bool) (l : List Int) : (!l.any fun x => !P x) = l.all P := by
  induction l with
  | nil => rfl
  | cons x l ih => simp only [List.any_cons, List.all_cons, Bool.not_or, Bool.not_not, ih]
theorem isPartOf_both (n : Int) (l : List Int) (n2 : Int) (l2 : List Int) (hlen : l.length < 4611686018427387904) (hlen2 : l2.length < 4611686018427387904) : ∃ r, Ev (fun k => spec_IsPartOf.f k n l n2 l2) r ∧ impl_IsPartOf.f n l n2 l2 = some r := by
  refine ⟨_, ?_, rfl⟩
  have hj : ∀ n l n2 l2, Ev (fun k => spec_IsPartOf.j0 k true n l n2 l2) (false, false) := fun n l n2 l2 => Ev.succ (fun k => by simp only [spec_IsPartOf.j0]; rw [if_pos trivial]) (Ev.const rfl)
  unfold spec_IsPartOf.f
  refine Ev.bind (spGood_ok n l hlen) ?_
  cases h : isSpaceB n l with
  | false => exact Ev.val (Ev.to (fun k => by rw [if_neg (by decide)]) (hj n l n2 l2)) (by simp)
  | true =>
    refine Ev.to (fun k => by rw [if_pos rfl]) ?_
    refine Ev.bind (spGood_ok n2 l2 hlen2) ?_
    cases h2 : isSpaceB n2 l2 with
    | false => exact Ev.val (hj n l n2 l2) (by simp)
    | true =>
      refine Ev.succ (fun k => by simp only [spec_IsPartOf.j0]; rw [if_neg (by decide)]) ?_
      by_cases hn : n = n2
      · refine Ev.to (fun k => by rw [if_pos hn]) ?_
        refine Ev.val (isPartOf_loop (n := n2) (risingB_rise (isSpaceB_parts h2).2.2.2.1) hlen hlen2 (isSpaceB_128 h) l.length 0 (by omega) (by omega) rfl) ?_
        simp only [Bool.and_self, if_true, hn]
        rw [any_all]
      · refine Ev.val (Ev.to (fun k => by rw [if_neg hn]) (Ev.const rfl)) ?_
        simp [hn]
theorem FnExactIsPartOf : PureFnExactIsPartOf := by
  intro n l n2 l2 _ _ hlen _ _ hlen2
  refine Ev.rounds ?_
  unfold laws_FnExactIsPartOf.f
  by_cases hl : (1048576 : Int) < l.length
  · refine Ev.bindc (szSpace_over n l 1048576 (by omega) hlen hl (by omega)) ?_
    exact Ev.to (fun k => by rw [if_pos (by decide)]) (Ev.const rfl)
  · refine Ev.bindc (szSpace_fits n l 1048576 (by omega) (by omega)) ?_
    refine Ev.to (fun k => by rw [if_neg (by omega)]) ?_
    by_cases hl2 : (1048576 : Int) - l.length < l2.length
    · refine Ev.bindc (szSpace_over n2 l2 _ (by omega) hlen2 hl2 (by omega)) ?_
      exact Ev.to (fun k => by rw [if_pos (by decide)]) (Ev.const rfl)
    · refine Ev.bindc (szSpace_fits n2 l2 _ (by omega) (by omega)) ?_
      refine Ev.to (fun k => by rw [if_neg (by omega)]) ?_
      obtain ⟨r, h1, h2⟩ := isPartOf_both n l n2 l2 (by omega) (by omega)
      have hts := toSpace_ok n l (by omega)
      have hts2 := toSpace_ok n2 l2 (by omega)
      refine Ev.bind hts ?_
      refine Ev.bind hts2 ?_
      refine Ev.bind h1 ?_
      refine Ev.bind hts ?_
      refine Ev.bind hts2 ?_
      refine Ev.bindc h2 ?_
      refine Ev.to (fun k => by rw [if_neg (by simp)]) ?_
      refine Ev.succ (fun k => by simp only [laws_FnExactIsPartOf.j0]; rw [if_neg (by simp)]) ?_
      refine Ev.bind hts ?_
      refine Ev.bind (eqSpace_refl n l (by omega)) ?_
      refine Ev.to (fun k => by rw [if_pos rfl]) ?_
      refine Ev.bind hts2 ?_
      refine Ev.bind (eqSpace_refl n2 l2 (by omega)) ?_
      exact Ev.to (fun k => by rw [if_pos rfl]) (Ev.const rfl)

end Go.Proofs.Ytneibmhbcjbmjaa.Q
