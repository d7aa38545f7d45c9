/- The pure side of the law FnExactIsProof: the program and the reference agree whether answers are a proof of a set. Conditions: none. -/
import Derived.Test.YtmmbcacjhocioaaPx1
import Derived.Test.YtmmbcacjhocioaaPx2
import Derived.Test.YtmmbcacjhocioaaPx3
import Derived.Test.YtmmbcacjhocioaaPx4
import Derived.Test.YtmmbcacjhocioaaPx5
import Derived.Test.YtmmbcacjhocioaaOpens
namespace Go.Proofs.Ytmmbcacjhocioaa.Q
open Go.RowKit Go.Proofs.Ytmmbcacjhocioaa.Opens Go.Proofs.YtmmbcacjhocioaaW.PrintWords Go.Proofs.YtmmbcacjhocioaaW.PrintLast Go.Proofs.YtmmbcacjhocioaaW.PrintMore
set_option linter.unusedVariables false
set_option linter.unusedSimpArgs false

/-- THE ONE PURE STATEMENT of FnExactIsProof. -/
def PureFnExactIsProof : Prop := ∀ (a0_0 : Int) (l0_1 : List Int) (a1 : Int) (a2 : Int) (a3 : Int), Int64 a0_0 → AllOk Int64 l0_1 → l0_1.length ≤ 9223372036854775807 → Int64 a1 → Int64 a2 → Int64 a3 → ∃ k, laws_FnExactIsProof.f k a0_0 l0_1 a1 a2 a3 = some true
def isProofV (n : Int) (l : List Int) (x y m : Int) : Bool × Bool := if isKnownB n l x = true then (if answersB n l y m = true then (decide (leftL l y m = [x]), true) else (false, false)) else (false, false)
theorem isProof_both (n : Int) (l : List Int) (x y m : Int) (hlen : l.length < 4611686018427387904) : ∃ r, Ev (fun k => spec_IsProof.f k n l x y m) r ∧ Ev (fun k => impl_IsProof.f k n l x y m) r := by
  refine ⟨isProofV n l x y m, ?_, ?_⟩
  · unfold spec_IsProof.f isProofV
    refine Ev.bind (spOne_ok n l x hlen) ?_
    cases h : isKnownB n l x with
    | false => exact Ev.val (r := (false, false)) (Ev.to (fun k => by rw [if_neg (by decide)]) (Ev.const rfl)) (by simp)
    | true =>
      have hs : isSpaceB n l = true := by unfold isKnownB at h; simp only [Bool.and_eq_true] at h; exact h.1
      have hl := isSpaceB_len hs
      have hp := isSpaceB_parts hs
      have hpw := pow128 (n := n) (by omega) hp.2.1
      refine Ev.val (r := if answersB n l y m = true then (decide (leftL l y m = [x]), true) else (false, false)) (Ev.to (fun k => by rw [if_pos rfl, if_pos (by omega), wrapPow (by omega) hp.2.1]) ?_) (by simp)
      refine Ev.bindc (l1In_ok _ _ _) ?_
      rw [show decide (y ≤ 2 ^ n.toNat - 1) = decide (y < 2 ^ n.toNat) from decide_eq_decide.2 (by omega)]
      unfold answersB hasSetB
      rw [hs, Bool.true_and]
      cases h1 : (decide (0 ≤ y) && decide (y < 2 ^ n.toNat)) with
      | false => exact Ev.val (r := (false, false)) (Ev.to (fun k => by rw [if_neg (by decide)]) (Ev.const rfl)) (by simp)
      | true =>
        refine Ev.to (fun k => by rw [if_pos rfl]) ?_
        refine Ev.bindc (l1In_ok _ _ _) ?_
        rw [show decide (m ≤ 2 ^ n.toNat - 1) = decide (m < 2 ^ n.toNat) from decide_eq_decide.2 (by omega)]
        cases h2 : (decide (0 ≤ m) && decide (m < 2 ^ n.toNat)) with
        | false => exact Ev.val (r := (false, false)) (Ev.to (fun k => by rw [if_neg (by decide)]) (Ev.const rfl)) (by simp)
        | true =>
          simp only [Bool.and_eq_true, decide_eq_true_eq] at h1 h2
          have hy : I128 y := ⟨h1.1, by omega⟩
          have hm : I128 m := ⟨h2.1, by omega⟩
          by_cases h3 : y.toNat &&& m.toNat = 0
          · refine Ev.val (r := (decide (leftL l y m = [x]), true)) (Ev.to (fun k => by rw [if_pos rfl, and_int hy hm, if_pos (by omega)]) ?_) (by rw [decide_eq_true h3]; simp)
            refine Ev.bind (asLeft_ok n hy hm (isSpaceB_i128 hs) (by omega)) ?_
            refine Ev.const ?_
            generalize leftL l y m = q
            match q with
            | [] => simp
            | [z] =>
              simp [rd]
              rfl
            | z :: z2 :: q => 
              rw [if_neg (by simp only [List.length_cons]; omega)]
              simp
          · refine Ev.val (r := (false, false)) (Ev.to (fun k => by rw [if_pos rfl, and_int hy hm, if_neg (by omega)]) (Ev.const rfl)) ?_
            rw [decide_eq_false h3]
            simp
  · unfold impl_IsProof.f isProofV
    refine Ev.bindc (show impl_isKnown.f n l x = some (isKnownB n l x) from rfl) ?_
    cases h : isKnownB n l x with
    | false =>
      refine Ev.val (r := (false, false)) (Ev.to (fun k => by rw [if_neg (by decide)]) ?_) (by simp)
      exact Ev.succ (fun k => by simp only [impl_IsProof.j0]; rw [if_pos trivial]) (Ev.const rfl)
    | true =>
      refine Ev.val (r := if answersB n l y m = true then (decide (leftL l y m = [x]), true) else (false, false)) (Ev.to (fun k => by rw [if_pos rfl]) ?_) (by simp)
      refine Ev.bindc (areAnswers_ok n l y m) ?_
      cases h2 : answersB n l y m with
      | false => exact Ev.succ (fun k => by simp only [impl_IsProof.j0]; rw [if_pos (by simp)]) (Ev.const (by simp))
      | true =>
        obtain ⟨hs, hy, hm, _⟩ := answersB_parts h2
        have hl := isSpaceB_len hs
        have hle := leftL_length l y m
        refine Ev.succ (fun k => by simp only [impl_IsProof.j0]; rw [if_neg (by simp)]) ?_
        refine Ev.bind (left_ok n hy hm (isSpaceB_i128 hs) (by omega)) ?_
        exact Ev.val (Ev.bind (sEqual_ok (leftL l y m) [x] (by omega)) (Ev.const rfl)) (by simp)
theorem FnExactIsProof : PureFnExactIsProof := by
  intro n l x y m _ _ hlen _ _ _
  refine Ev.rounds ?_
  unfold laws_FnExactIsProof.f
  by_cases hl : (1048576 : Int) < l.length
  · refine Ev.bindc (szSpace_over n l 1048576 (by omega) hlen hl (by omega)) ?_
    exact Ev.to (fun k => by rw [if_pos (by decide)]) (Ev.const rfl)
  · obtain ⟨r, h1, h2⟩ := isProof_both n l x y m (by omega)
    refine Ev.bindc (szSpace_fits n l 1048576 (by omega) (by omega)) ?_
    refine Ev.to (fun k => by rw [if_neg (by omega)]) ?_
    have hts := toSpace_ok n l (by omega)
    refine Ev.bind hts ?_
    refine Ev.bind h1 ?_
    refine Ev.bind hts ?_
    refine Ev.bind h2 ?_
    refine Ev.to (fun k => by rw [if_neg (by simp)]) ?_
    refine Ev.succ (fun k => by simp only [laws_FnExactIsProof.j0]; rw [if_neg (by simp)]) ?_
    refine Ev.bind hts ?_
    refine Ev.bind (eqSpace_refl n l (by omega)) ?_
    exact Ev.to (fun k => by rw [if_pos rfl]) (Ev.const rfl)

end Go.Proofs.Ytmmbcacjhocioaa.Q
