/- The law FnExactPrefixSets holds of the given program for every input: the call returns true, and its arguments read afterwards as they read before. Conditions: none. -/
import Derived.Test.YtneibmhbcjbmjaaRows
import Derived.Test.YtneibmhbcjbmjaaUFnExactPrefixSets
import Derived.Test.YtneibmhbcjbmjaaOpens
import Derived.Test.YtneibmhbcjbmjaaQx4
import Derived.WalkKit
import Derived.ProofKit
import Derived.OpenShut
import Derived.ShutString
import Derived.ChangeOld
import Derived.Below
import Derived.SizedLaws
namespace Go.Proofs.Ytneibmhbcjbmjaa.fnExactPrefixSets
open Go.ChangeShapes Go.WideShapes Go.ChangeAt Go.RowKit Go.Proofs.Ytneibmhbcjbmjaa.Opens Go.Proofs.Ytneibmhbcjbmjaa.Q Go.Proofs.YtneibmhbcjbmjaaW.PrintWords
open Go.ChangeMaps (open_string shut_string)
set_option linter.unusedVariables false
theorem own : ownKnob Try.prog.godebug = none := by kernel_rfl
theorem laidOut : laidOutB Try.prog = true := by kernel_rfl
set_option maxRecDepth 100000 in
theorem o29 {H : Type} (enc : TypeId × Value → H) (W : World) : Opens enc Try.prog W 29 (Kd.slice 3 (Kd.int .i64)) (AllOk Int64) := Opens.slice Try.underlying29 (by kernel_rfl) (Opens.int Try.underlying3 (by kernel_rfl))
set_option maxRecDepth 100000 in
theorem lifted (os : Os) (started : os.Started) (H : Type) (enc : TypeId × Value → H) :
    ReturnsInHanded {} Try.checked os 4 .any (Rows.fnExactPrefixSetsSpec.pre6 enc Try.prog Try.f4 Rows.fnExactPrefixSetsRow.domain false) (Rows.fnExactPrefixSetsSpec.post enc Try.prog Try.f4 false true false false) := by
  refine returnsInHanded_of_change_sized (C := Try.checked) own started (by kernel_rfl) Try.func4
    (ChangeSpec.witness6 (enc := enc) (C := Try.checked) false ⟨#[], #[.slice none 0 0], []⟩ 8 (by kernel_rfl) (by kernel_rfl) (by kernel_rfl) (by kernel_rfl)) ?_
  intro W base args ds gs before hval0 hW hcnd hsz0 _
  have hsz : (DataW.weightsEach Try.prog (Try.f4.params.toList ++ Rows.fnExactPrefixSetsSpec.plain.varTypes Try.prog) (ds ++ gs)).all (· ≤ reachBytes) = true := hsz0
  have hval : ∀ (j : Nat) t v, Try.f4.params[j]? = some t → args[j]? = some v → Value.okWide Try.prog W .any base t v := hval0
  have hW' := hW
  obtain ⟨p, q, hA0, hV, rfl, hfz, hnd⟩ := hW
  have hA : DataW.TrodAll enc Try.prog W 0 (fun _ => true) true Try.f4.params.toList args.toList ds p := hA0
  rw [Try.params4] at hA hval hsz
  obtain ⟨v0, vs0, d0, ds0, p0, q0, hargs, rfl, rfl, h0, r0⟩ := trodAll_cons hA
  obtain ⟨rfl, rfl, rfl⟩ := trodAll_nil r0
  obtain rfl : args = #[v0] := by cases args; simp_all
  obtain ⟨rfl, rfl⟩ := trodVars_none hV
  have k0 := h0
  have lt0 : ∀ x ∈ p0, x.block < W.heap.size := by obtain ⟨m, hm⟩ := k0; exact DataW.trod_lt m _ _ _ hm
  obtain ⟨a0, len0, cap0, rfl⟩ := okWide_slice Try.underlying29 (hval 0 29 v0 rfl rfl)
  obtain ⟨l0, rfl, hc0, C0, ok0⟩ := (o29 enc W).get_slice h0
  obtain ⟨k, hk⟩ := FnExactPrefixSets l0 ok0 (Kd.C_max C0)
  clear hA0 hval0 hsz0 hsz
  refine (laws_FnExactPrefixSets.calls k _ _ l0 true W C0 hc0 hk).mono fun e W' ⟨he, bel0⟩ => ?_
  have bel : Below W.heap.size W W' := bel0
  subst he
  exact ⟨_, rfl, _, _, _, [], _, [], hW', trodAll_mk1 (shut_bool Try.underlying4 _), (trodAll_cons_mk (Below.trod laidOut (by kernel_rfl) (of_decide_eq_true (by kernel_rfl)) k0 bel lt0) trodAll_mk0), rfl, bel.frame _, fun h => by cases h⟩
theorem over : Rows.fnExactPrefixSetsRow.holds Try.pinned (OpenSpec.ofChange Rows.fnExactPrefixSetsSpec) :=
  OpenClaim.holds_of_wide 4 Try.f4 rfl rfl rfl rfl rfl rfl rfl ⟨rfl, rfl, rfl, rfl, rfl⟩ rfl rfl rfl rfl rfl (by kernel_rfl) Try.func4 (by kernel_rfl)
    (of_decide_eq_true (by kernel_rfl)) (by unfold Func.isWrapper; first | (rw [if_pos (by decide +kernel)]; kernel_rfl) | (rw [if_neg (by decide +kernel)]; exact ⟨rfl, rfl⟩))
    (fun os started H enc _ => lifted os started H enc)
theorem proved : Rows.FnExactPrefixSetsSaid := over
#print axioms proved
end Go.Proofs.Ytneibmhbcjbmjaa.fnExactPrefixSets
namespace Go.Proofs.Ytneibmhbcjbmjaa
/-- The row, under a short name, for the claim. -/
theorem fnExactPrefixSets_holds : Rows.FnExactPrefixSetsSaid := fnExactPrefixSets.proved
end Go.Proofs.Ytneibmhbcjbmjaa
