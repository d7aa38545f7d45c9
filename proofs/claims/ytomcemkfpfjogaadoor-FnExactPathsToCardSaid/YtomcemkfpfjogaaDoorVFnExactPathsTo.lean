/- The pure side of the law FnExactPathsTo: the program and the reference tell the same paths with an end. Conditions: none. -/
import Derived.Test.YtomcemkfpfjogaaDoorPx1
import Derived.Test.YtomcemkfpfjogaaDoorPx3
import Derived.Test.YtomcemkfpfjogaaDoorPx4
import Derived.Test.YtomcemkfpfjogaaDoorPx5
import Derived.Test.YtomcemkfpfjogaaDoorPx6
import Derived.Test.YtomcemkfpfjogaaDoorOpens
namespace Go.Proofs.YtomcemkfpfjogaaDoor.Q
open Go.RowKit Go.Proofs.YtomcemkfpfjogaaDoor.Opens Go.Proofs.YtomcemkfpfjogaaDoorW.PrintWords Go.Proofs.YtomcemkfpfjogaaDoorW.PrintLast Go.Proofs.YtomcemkfpfjogaaDoorW.PrintMore
set_option linter.unusedVariables false
set_option linter.unusedSimpArgs false

/-- THE ONE PURE STATEMENT of FnExactPathsTo. -/
def PureFnExactPathsTo : Prop := ∀ (a0_0 : Int) (l0_1 : List Int) (a1 : Int), Int64 a0_0 → AllOk Int64 l0_1 → l0_1.length ≤ 9223372036854775807 → Int64 a1 → ∃ k, laws_FnExactPathsTo.f k a0_0 l0_1 a1 = some true
theorem specTo_loop {n : Int} {l : List Int} (hS : isSpaceB n l = true) (hlen : l.length < 1048577) (P : List Int) (hP : ∀ x ∈ P, (0 ≤ x ∧ x < 128) ∧ innerF (famOf l) x.toNat ≠ 0) (hPl : P.length < 1048577) (item : Int) : ∀ (d i : Nat) (acc : List Int), P.length - i = d → i ≤ P.length → acc.length + d ≤ P.length → Ev (fun k => spec_PathsTo.l0 k item acc P P.length i n l) (acc ++ (P.drop i).filter (fun x => decide ((endN (famOf l) x : Int) = item)), true)
  | 0, i, acc, hd, hi, ha => by
    rw [List.drop_of_length_le (by omega)]
    exact Ev.succ (fun k => by simp only [spec_PathsTo.l0]; rw [if_neg (by omega)]) (Ev.const (by simp))
  | d + 1, i, acc, hd, hi, ha => by
    have hlt : i < P.length := by omega
    obtain ⟨⟨h0, h1⟩, hin⟩ := hP P[i] (List.getElem_mem hlt)
    have hn := fun acc' h' => specTo_loop hS hlen P hP hPl item d (i + 1) acc' (by omega) (by omega) h'
    push_cast at hn
    have hws : wrap64 ((i : Int) + 1) = i + 1 := wrap_succ (by omega) (by omega)
    rw [List.drop_eq_getElem_cons hlt, List.filter_cons]
    refine Ev.succ (fun k => by simp only [spec_PathsTo.l0]; rw [if_pos (by omega), if_pos (by omega), if_pos (by omega), hws, rd_get hlt]) ?_
    refine Ev.bind (paEnd_ok hS hlen h0 h1 hin) ?_
    by_cases e : (endN (famOf l) P[i] : Int) = item
    · refine Ev.to (fun k => by rw [if_pos e, if_pos (by omega)]) ?_
      rw [if_pos (decide_eq_true e)]
      refine Ev.val (hn (acc ++ [P[i]]) (by rw [List.length_append, List.length_singleton]; omega)) ?_
      rw [List.append_assoc]
      rfl
    · refine Ev.to (fun k => by rw [if_neg e]) ?_
      rw [if_neg (by rw [decide_eq_false e]; decide)]
      exact hn acc (by omega)
theorem pathsTo_both (n : Int) (l : List Int) (item : Int) (hlen : l.length < 1048577) : ∃ r, Ev (fun k => spec_PathsTo.f k n l item) r ∧ Ev (fun k => impl_PathsTo.f k n l item) r ∧ r.1.length ≤ 1048577 := by
  unfold spec_PathsTo.f impl_PathsTo.f
  cases hS : isSpaceB n l with
  | false =>
    refine ⟨([], false), ?_, ?_, by show (0 : Nat) ≤ _; omega⟩
    · refine Ev.bind (spGood_ok n l (by omega)) ?_
      refine Ev.to (fun k => by rw [hS, if_neg (by decide)]) ?_
      exact Ev.succ (fun k => by simp only [spec_PathsTo.j0]; first | rfl | rw [if_pos rfl]) (Ev.const rfl)
    · refine Ev.bindc (show impl_IsSpace.f n l = some false from congrArg some hS) ?_
      exact Ev.to (fun k => by rw [if_neg (by decide)]) (Ev.const rfl)
  | true =>
    cases hm : decide (0 ≤ item) && decide (item ≤ wrap64 (n - 1)) with
    | false =>
      refine ⟨([], false), ?_, ?_, by show (0 : Nat) ≤ _; omega⟩
      · refine Ev.bind (spGood_ok n l (by omega)) ?_
        refine Ev.to (fun k => by rw [hS, if_pos rfl]) ?_
        refine Ev.bindc (l1In_ok _ _ _) ?_
        refine Ev.to (fun k => by rw [hm]) ?_
        exact Ev.succ (fun k => by simp only [spec_PathsTo.j0]; first | rfl | rw [if_pos rfl]) (Ev.const rfl)
      · refine Ev.bindc (show impl_IsSpace.f n l = some true from congrArg some hS) ?_
        refine Ev.to (fun k => by rw [if_pos rfl]) ?_
        refine Ev.bindc (within_ok _ _ _) ?_
        exact Ev.to (fun k => by rw [hm, if_neg (by decide)]) (Ev.const rfl)
    | true =>
      have hl1 : (pathsL (famOf l) l).length < 1048577 := Nat.lt_of_le_of_lt (List.length_filter_le _ _) hlen
      refine ⟨(pathsToL (famOf l) l item, true), ?_, ?_, ?_⟩
      · refine Ev.bind (spGood_ok n l (by omega)) ?_
        refine Ev.to (fun k => by rw [hS, if_pos rfl]) ?_
        refine Ev.bindc (l1In_ok _ _ _) ?_
        refine Ev.to (fun k => by rw [hm]) ?_
        refine Ev.succ (fun k => by simp only [spec_PathsTo.j0]; rw [if_neg (by decide)]) ?_
        refine Ev.bind (paAll_ok hS hlen) ?_
        exact specTo_loop hS hlen _ (fun x hx => ⟨isSpaceB_128 hS x (pathsL_mem hx).1, (pathsL_mem hx).2⟩) hl1 item _ 0 [] rfl (Nat.zero_le _) (by simp)
      · refine Ev.bindc (show impl_IsSpace.f n l = some true from congrArg some hS) ?_
        refine Ev.to (fun k => by rw [if_pos rfl]) ?_
        refine Ev.bindc (within_ok _ _ _) ?_
        refine Ev.to (fun k => by rw [hm, if_pos rfl]) ?_
        exact Ev.bind (pathsTo_ok hS hlen item) (Ev.const rfl)
      · show (pathsToL (famOf l) l item).length ≤ _
        have := List.length_filter_le (fun x => decide ((endN (famOf l) x : Int) = item)) (pathsL (famOf l) l)
        unfold pathsToL
        omega
theorem FnExactPathsTo : PureFnExactPathsTo := by
  intro n0 l0 a1 _ _ hl0 _
  refine Ev.rounds ?_
  unfold laws_FnExactPathsTo.f
  by_cases hb0 : (1048576 : Int) < l0.length
  · refine Ev.bindc (szSpace_over n0 l0 _ (by omega) hl0 hb0 (by omega)) ?_
    exact Ev.to (fun k => by rw [if_pos (by decide)]) (Ev.const rfl)
  · refine Ev.bindc (szSpace_fits n0 l0 _ (by omega) (by omega)) ?_
    refine Ev.to (fun k => by rw [if_neg (by omega)]) ?_
    obtain ⟨⟨r0, r1⟩, h1, h2, z0⟩ := pathsTo_both n0 l0 a1 (by omega)
    replace z0 : r0.length ≤ 1048577 := z0
    have a0_ := toSpace_ok n0 l0 (by omega)
    have e0_ := eqSpace_refl n0 l0 (by omega)
    have m0_ := markSpace_ok n0 l0 (1) (by omega) (by omega)
    have g0_ := eqIntS_refl r0 (by omega)
    have p0_ := markIntS_ok r0 (1) (by omega) (by omega)
    have d0_ := heldIntS_ok (1) r0.length (by omega) (by omega)
    repeat (first | exact Ev.const rfl | (with_reducible refine Ev.bind h1 ?_) | (with_reducible refine Ev.bind h2 ?_) | (with_reducible refine Ev.bind a0_ ?_) | (with_reducible refine Ev.bind e0_ ?_) | (with_reducible refine Ev.bind m0_ ?_) | (with_reducible refine Ev.bind g0_ ?_) | (with_reducible refine Ev.bind p0_ ?_) | (with_reducible refine Ev.bind d0_ ?_) | refine Ev.to (fun k => by rw [if_pos rfl]) ?_ | refine Ev.to (fun k => by rw [if_neg (by omega)]) ?_ | refine Ev.to (fun k => by rw [if_neg (by simp)]) ?_ | refine Ev.succ (fun k => by simp only [laws_FnExactPathsTo.j0]; rw [if_neg (by simp)]) ?_ | refine Ev.succ (fun k => by simp only [laws_FnExactPathsTo.j1]; rw [if_neg (by simp)]) ?_ | refine Ev.succ (fun k => by simp only [laws_FnExactPathsTo.j2]; rw [if_neg (by simp)]) ?_ | refine Ev.succ (fun k => by simp only [laws_FnExactPathsTo.j3]; rw [if_neg (by simp)]) ?_)


end Go.Proofs.YtomcemkfpfjogaaDoor.Q
