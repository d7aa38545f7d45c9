/- The law FnExactAreWordsOf holds of the given program for every input: the call returns true, and its arguments read afterwards as they read before. Conditions: none. -/
import Derived.Test.YtkepeflplmkcmaaRows
import Derived.Test.YtkepeflplmkcmaaVFnExactAreWordsOf
import Derived.Test.YtkepeflplmkcmaaOpens
import Derived.Test.YtkepeflplmkcmaaPx10
import Derived.WalkKit
import Derived.ProofKit
import Derived.OpenShut
import Derived.ShutString
import Derived.ChangeOld
import Derived.Below
import Derived.SizedLaws
namespace Go.Proofs.Ytkepeflplmkcmaa.fnExactAreWordsOf
open Go.ChangeShapes Go.WideShapes Go.ChangeAt Go.RowKit Go.Proofs.Ytkepeflplmkcmaa.Opens Go.Proofs.Ytkepeflplmkcmaa.Q Go.Proofs.YtkepeflplmkcmaaW.PrintWords
open Go.ChangeMaps (open_string shut_string)
set_option linter.unusedVariables false
theorem own : ownKnob Try.prog.godebug = none := by kernel_rfl
theorem laidOut : laidOutB Try.prog = true := by kernel_rfl
set_option maxRecDepth 100000 in
theorem o24 {H : Type} (enc : TypeId × Value → H) (W : World) : Opens enc Try.prog W 24 k24 (fun x : S24 => Int64 x.f0 ∧ (AllOk Int64) x.f1) := Opens.iso (β := S24) (fun x => ⟨x.1, x.2⟩) (fun _ => rfl) (Opens.struct2 Try.underlying24 rfl rfl (by kernel_rfl) (Opens.int Try.underlying3 (by kernel_rfl)) (Opens.slice Try.underlying22 (by kernel_rfl) (Opens.int Try.underlying3 (by kernel_rfl))))
set_option maxRecDepth 100000 in
theorem o40 {H : Type} (enc : TypeId × Value → H) (W : World) : Opens enc Try.prog W 40 (Kd.slice 22 (Kd.slice 3 (Kd.int .i64))) (AllOk (fun x_ : List Int => x_.length ≤ 9223372036854775807 ∧ AllOk Int64 x_)) := Opens.slice Try.underlying40 (by kernel_rfl) (Opens.sliceL (Opens.slice Try.underlying22 (by kernel_rfl) (Opens.int Try.underlying3 (by kernel_rfl))))
set_option maxRecDepth 100000 in
theorem lifted (os : Os) (started : os.Started) (H : Type) (enc : TypeId × Value → H) :
    ReturnsInHanded {} Try.checked os 10 .any (Rows.fnExactAreWordsOfSpec.pre6 enc Try.prog Try.f10 Rows.fnExactAreWordsOfRow.domain false) (Rows.fnExactAreWordsOfSpec.post enc Try.prog Try.f10 false true false false) := by
  refine returnsInHanded_of_change_sized (C := Try.checked) own started (by kernel_rfl) Try.func10
    (ChangeSpec.witness6 (enc := enc) (C := Try.checked) false ⟨#[], #[.agg #[.int .i64 0, .slice none 0 0], .slice none 0 0], []⟩ 8 (by kernel_rfl) (by kernel_rfl) (by kernel_rfl) (by kernel_rfl)) ?_
  intro W base args ds gs before hval0 hW hcnd hsz0 _
  have hsz : (DataW.weightsEach Try.prog (Try.f10.params.toList ++ Rows.fnExactAreWordsOfSpec.plain.varTypes Try.prog) (ds ++ gs)).all (· ≤ reachBytes) = true := hsz0
  have hval : ∀ (j : Nat) t v, Try.f10.params[j]? = some t → args[j]? = some v → Value.okWide Try.prog W .any base t v := hval0
  have hW' := hW
  obtain ⟨p, q, hA0, hV, rfl, hfz, hnd⟩ := hW
  have hA : DataW.TrodAll enc Try.prog W 0 (fun _ => true) true Try.f10.params.toList args.toList ds p := hA0
  rw [Try.params10] at hA hval hsz
  obtain ⟨v0, vs0, d0, ds0, p0, q0, hargs, rfl, rfl, h0, r0⟩ := trodAll_cons hA
  obtain ⟨v1, vs1, d1, ds1, p1, q1, rfl, rfl, rfl, h1, r1⟩ := trodAll_cons r0
  obtain ⟨rfl, rfl, rfl⟩ := trodAll_nil r1
  obtain rfl : args = #[v0, v1] := by cases args; simp_all
  obtain ⟨rfl, rfl⟩ := trodVars_none hV
  have k0 := h0
  have lt0 : ∀ x ∈ p0, x.block < W.heap.size := by obtain ⟨m, hm⟩ := k0; exact DataW.trod_lt m _ _ _ hm
  obtain ⟨x0, cs0, rfl, K0, ok0⟩ := (o24 enc W).get_agg Try.underlying24 (hval 0 24 v0 rfl rfl) h0
  obtain ⟨A0_1, c0_1, hcs0, hc0_1, C0_1⟩ := k24_open K0
  obtain rfl : cs0 = #[.int .i64 x0.f0, .slice A0_1 x0.f1.length c0_1] := by cases cs0; simp_all
  have k1 := h1
  have lt1 : ∀ x ∈ p1, x.block < W.heap.size := by obtain ⟨m, hm⟩ := k1; exact DataW.trod_lt m _ _ _ hm
  obtain ⟨a1, len1, cap1, rfl⟩ := okWide_slice Try.underlying40 (hval 1 40 v1 rfl rfl)
  obtain ⟨l1, rfl, hc1, C1, ok1⟩ := (o40 enc W).get_slice h1
  obtain ⟨k, hk⟩ := FnExactAreWordsOf x0.f0 x0.f1 l1 ok0.1 ok0.2 (Kd.C_max C0_1) ok1 (Kd.C_max C1)
  clear hA0 hval0 hsz0 hsz
  refine (laws_FnExactAreWordsOf.calls k x0.f0 _ _ x0.f1 _ _ l1 true W C0_1 hc0_1 C1 hc1 hk ⟨rfl⟩).mono fun e W' ⟨he, bel0⟩ => ?_
  have bel : Below W.heap.size W W' := bel0
  subst he
  exact ⟨_, rfl, _, _, _, [], _, [], hW', trodAll_mk1 (shut_bool Try.underlying4 _), (trodAll_cons_mk (Below.trod laidOut (by kernel_rfl) (of_decide_eq_true (by kernel_rfl)) k0 bel lt0) (trodAll_cons_mk (Below.trod laidOut (by kernel_rfl) (of_decide_eq_true (by kernel_rfl)) k1 bel lt1) trodAll_mk0)), rfl, bel.frame _, fun h => by cases h⟩
theorem over : Rows.fnExactAreWordsOfRow.holds Try.pinned (OpenSpec.ofChange Rows.fnExactAreWordsOfSpec) :=
  OpenClaim.holds_of_wide 10 Try.f10 rfl rfl rfl rfl rfl rfl rfl ⟨rfl, rfl, rfl, rfl, rfl⟩ rfl rfl rfl rfl rfl (by kernel_rfl) Try.func10 (by kernel_rfl)
    (of_decide_eq_true (by kernel_rfl)) (by unfold Func.isWrapper; first | (rw [if_pos (by decide +kernel)]; kernel_rfl) | (rw [if_neg (by decide +kernel)]; exact ⟨rfl, rfl⟩))
    (fun os started H enc _ => lifted os started H enc)
theorem proved : Rows.FnExactAreWordsOfSaid := over
#print axioms proved
end Go.Proofs.Ytkepeflplmkcmaa.fnExactAreWordsOf
namespace Go.Proofs.Ytkepeflplmkcmaa
/-- The row, under a short name, for the claim. -/
theorem fnExactAreWordsOf_holds : Rows.FnExactAreWordsOfSaid := fnExactAreWordsOf.proved
end Go.Proofs.Ytkepeflplmkcmaa
