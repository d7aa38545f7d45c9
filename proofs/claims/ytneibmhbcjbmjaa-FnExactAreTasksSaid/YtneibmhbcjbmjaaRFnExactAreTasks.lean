/- The law FnExactAreTasks holds of the given program for every input: the call returns true, and its arguments read afterwards as they read before. Conditions: none. -/
import Derived.Test.YtneibmhbcjbmjaaRows
import Derived.Test.YtneibmhbcjbmjaaUFnExactAreTasks
import Derived.Test.YtneibmhbcjbmjaaOpens
import Derived.Test.YtneibmhbcjbmjaaQx2
import Derived.WalkKit
import Derived.ProofKit
import Derived.OpenShut
import Derived.ShutString
import Derived.ChangeOld
import Derived.Below
import Derived.SizedLaws
namespace Go.Proofs.Ytneibmhbcjbmjaa.fnExactAreTasks
open Go.ChangeShapes Go.WideShapes Go.ChangeAt Go.RowKit Go.Proofs.Ytneibmhbcjbmjaa.Opens Go.Proofs.Ytneibmhbcjbmjaa.Q Go.Proofs.YtneibmhbcjbmjaaW.PrintWords
open Go.ChangeMaps (open_string shut_string)
set_option linter.unusedVariables false
theorem own : ownKnob Try.prog.godebug = none := by kernel_rfl
theorem laidOut : laidOutB Try.prog = true := by kernel_rfl
set_option maxRecDepth 100000 in
theorem o22 {H : Type} (enc : TypeId × Value → H) (W : World) : Opens enc Try.prog W 22 (Kd.slice 56 k56) (AllOk (fun x : S56 => Int64 x.f0 ∧ Int64 x.f1 ∧ Int64 x.f2)) := Opens.slice Try.underlying22 (by kernel_rfl) (Opens.iso (β := S56) (fun x => ⟨x.1, x.2.1, x.2.2⟩) (fun _ => rfl) (Opens.struct3 Try.underlying56 rfl rfl rfl (by kernel_rfl) (Opens.int Try.underlying3 (by kernel_rfl)) (Opens.int Try.underlying3 (by kernel_rfl)) (Opens.int Try.underlying3 (by kernel_rfl))))
set_option maxRecDepth 100000 in
theorem lifted (os : Os) (started : os.Started) (H : Type) (enc : TypeId × Value → H) :
    ReturnsInHanded {} Try.checked os 3 .any (Rows.fnExactAreTasksSpec.pre6 enc Try.prog Try.f3 Rows.fnExactAreTasksRow.domain false) (Rows.fnExactAreTasksSpec.post enc Try.prog Try.f3 false true false false) := by
  refine returnsInHanded_of_change_sized (C := Try.checked) own started (by kernel_rfl) Try.func3
    (ChangeSpec.witness6 (enc := enc) (C := Try.checked) false ⟨#[], #[.slice none 0 0, .int .i64 0], []⟩ 8 (by kernel_rfl) (by kernel_rfl) (by kernel_rfl) (by kernel_rfl)) ?_
  intro W base args ds gs before hval0 hW hcnd hsz0 _
  have hsz : (DataW.weightsEach Try.prog (Try.f3.params.toList ++ Rows.fnExactAreTasksSpec.plain.varTypes Try.prog) (ds ++ gs)).all (· ≤ reachBytes) = true := hsz0
  have hval : ∀ (j : Nat) t v, Try.f3.params[j]? = some t → args[j]? = some v → Value.okWide Try.prog W .any base t v := hval0
  have hW' := hW
  obtain ⟨p, q, hA0, hV, rfl, hfz, hnd⟩ := hW
  have hA : DataW.TrodAll enc Try.prog W 0 (fun _ => true) true Try.f3.params.toList args.toList ds p := hA0
  rw [Try.params3] at hA hval hsz
  obtain ⟨v0, vs0, d0, ds0, p0, q0, hargs, rfl, rfl, h0, r0⟩ := trodAll_cons hA
  obtain ⟨v1, vs1, d1, ds1, p1, q1, rfl, rfl, rfl, h1, r1⟩ := trodAll_cons r0
  obtain ⟨rfl, rfl, rfl⟩ := trodAll_nil r1
  obtain rfl : args = #[v0, v1] := by cases args; simp_all
  obtain ⟨rfl, rfl⟩ := trodVars_none hV
  have k0 := h0
  have lt0 : ∀ x ∈ p0, x.block < W.heap.size := by obtain ⟨m, hm⟩ := k0; exact DataW.trod_lt m _ _ _ hm
  obtain ⟨a0, len0, cap0, rfl⟩ := okWide_slice Try.underlying22 (hval 0 22 v0 rfl rfl)
  obtain ⟨l0, rfl, hc0, C0, ok0⟩ := (o22 enc W).get_slice h0
  obtain ⟨a1, rfl, rfl, rfl, w1⟩ := open_int Try.underlying3 (hval 1 3 v1 rfl rfl) h1
  obtain ⟨k, hk⟩ := FnExactAreTasks l0 a1 ok0 (Kd.C_max C0) (int64_of_wf w1)
  clear hA0 hval0 hsz0 hsz
  refine (laws_FnExactAreTasks.calls k _ _ l0 a1 true W C0 hc0 hk).mono fun e W' ⟨he, bel0⟩ => ?_
  have bel : Below W.heap.size W W' := bel0
  subst he
  exact ⟨_, rfl, _, _, _, [], _, [], hW', trodAll_mk1 (shut_bool Try.underlying4 _), (trodAll_cons_mk (Below.trod laidOut (by kernel_rfl) (of_decide_eq_true (by kernel_rfl)) k0 bel lt0) (trodAll_cons_mk (shut_int Try.underlying3 w1) trodAll_mk0)), rfl, bel.frame _, fun h => by cases h⟩
theorem over : Rows.fnExactAreTasksRow.holds Try.pinned (OpenSpec.ofChange Rows.fnExactAreTasksSpec) :=
  OpenClaim.holds_of_wide 3 Try.f3 rfl rfl rfl rfl rfl rfl rfl ⟨rfl, rfl, rfl, rfl, rfl⟩ rfl rfl rfl rfl rfl (by kernel_rfl) Try.func3 (by kernel_rfl)
    (of_decide_eq_true (by kernel_rfl)) (by unfold Func.isWrapper; first | (rw [if_pos (by decide +kernel)]; kernel_rfl) | (rw [if_neg (by decide +kernel)]; exact ⟨rfl, rfl⟩))
    (fun os started H enc _ => lifted os started H enc)
theorem proved : Rows.FnExactAreTasksSaid := over
#print axioms proved
end Go.Proofs.Ytneibmhbcjbmjaa.fnExactAreTasks
namespace Go.Proofs.Ytneibmhbcjbmjaa
/-- The row, under a short name, for the claim. -/
theorem fnExactAreTasks_holds : Rows.FnExactAreTasksSaid := fnExactAreTasks.proved
end Go.Proofs.Ytneibmhbcjbmjaa
