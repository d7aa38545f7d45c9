/-
  No cell of these rows narrows 'for every input' (looked for: loops, veiled, ifaces, maps, wideKeys, modest, calm, conditions, laid).
  DERIVED. THE GIVEN ROWS OF THIS SEAT. 6 by the template 'for every input the law returns true; each argument reads behind the call as it read before'; 0 by the template 'total and deterministic' (their statements: YtneibmhbcjbmjaaTotals.lean).
  GIVEN WITH THE SEED: the statements are not yours to turn. If you find one false, say at which input.
  Laid BY PROGRAM, IN A SANDBOX (cutbox-rows.mjs): the forced cells as the released guide's own fill.sh prints them over the translation 4a7f55c2b185f3fd… (all of the seat's roots in one cut). By AI agents, Wed Nov 11 2026. No macro, syntax, notation, axiom, sorry.
-/
import Derived.Test.YtneibmhbcjbmjaaChecked
import GoSem.Claim
import GoSem.ClaimJoined
import GoSem.ClaimMapViews
import Derived.JoinedTies
import Derived.KernelRfl
namespace Go.Proofs.Ytneibmhbcjbmjaa
/- THE CELL 'sum', in the pinned program and in every row, IS THE sha256 OF THE DUMP (.gsa) THAT YtneibmhbcjbmjaaProg.lean LOADS. Nothing in Lean hashes anything: it is a label: what it is worth is what the hold of that sum in a sandbox is worth. -/
noncomputable def Try.pinned : Pinned := { name := "ytneibmhbcjbmjaa", sum := "4a7f55c2b185f3fd890d0b9dd3f1ebe951d19add6c9a741892c7fe6700a57b8a", checked := Try.checked }
namespace Rows
def none {H : Type} : Left H := { results := [], args := [] }

/-- 'laws.FnExactAreTasks': WHATEVER THE INPUT: true; the input reads as it did. -/
def fnExactAreTasksSpec : ChangeSpec := { name := "fnExactAreTasks", fn := fun _ => fun
  | [d1, d2] => { results := [.lit (.bool true)], args := [d1, d2] }
  | _ => none }
def fnExactAreTasksRow : OpenClaim := { program := "ytneibmhbcjbmjaa", sum := "4a7f55c2b185f3fd890d0b9dd3f1ebe951d19add6c9a741892c7fe6700a57b8a", func := "loop.example/g01137/laws.FnExactAreTasks", spec := "fnExactAreTasks", unfollowed := true, recurses := true, apart := false }
def FnExactAreTasksSaid : Prop := fnExactAreTasksRow.holds Try.pinned (OpenSpec.ofChange fnExactAreTasksSpec)

/-- ITS FALSE NEIGHBOUR: 'it returns false'. Refute it at one input. -/
def fnExactAreTasksWrong : ChangeSpec := { name := "fnExactAreTasks", fn := fun _ => fun
  | [d1, d2] => { results := [.lit (.bool false)], args := [d1, d2] }
  | _ => none }
def FnExactAreTasksWrongFalsely : Prop := fnExactAreTasksRow.holds Try.pinned (OpenSpec.ofChange fnExactAreTasksWrong)

/-- 'laws.FnExactPrefixSets': WHATEVER THE INPUT: true; the input reads as it did. -/
def fnExactPrefixSetsSpec : ChangeSpec := { name := "fnExactPrefixSets", fn := fun _ => fun
  | [d] => { results := [.lit (.bool true)], args := [d] }
  | _ => none }
def fnExactPrefixSetsRow : OpenClaim := { program := "ytneibmhbcjbmjaa", sum := "4a7f55c2b185f3fd890d0b9dd3f1ebe951d19add6c9a741892c7fe6700a57b8a", func := "loop.example/g01137/laws.FnExactPrefixSets", spec := "fnExactPrefixSets", apart := false }
def FnExactPrefixSetsSaid : Prop := fnExactPrefixSetsRow.holds Try.pinned (OpenSpec.ofChange fnExactPrefixSetsSpec)

/-- ITS FALSE NEIGHBOUR: 'it returns false'. Refute it at one input. -/
def fnExactPrefixSetsWrong : ChangeSpec := { name := "fnExactPrefixSets", fn := fun _ => fun
  | [d] => { results := [.lit (.bool false)], args := [d] }
  | _ => none }
def FnExactPrefixSetsWrongFalsely : Prop := fnExactPrefixSetsRow.holds Try.pinned (OpenSpec.ofChange fnExactPrefixSetsWrong)

/-- 'laws.FnExactHalvingBound': WHATEVER THE INPUT: true; the input reads as it did. -/
def fnExactHalvingBoundSpec : ChangeSpec := { name := "fnExactHalvingBound", fn := fun _ => fun
  | [d] => { results := [.lit (.bool true)], args := [d] }
  | _ => none }
def fnExactHalvingBoundRow : OpenClaim := { program := "ytneibmhbcjbmjaa", sum := "4a7f55c2b185f3fd890d0b9dd3f1ebe951d19add6c9a741892c7fe6700a57b8a", func := "loop.example/g01137/laws.FnExactHalvingBound", spec := "fnExactHalvingBound", apart := false }
def FnExactHalvingBoundSaid : Prop := fnExactHalvingBoundRow.holds Try.pinned (OpenSpec.ofChange fnExactHalvingBoundSpec)

/-- ITS FALSE NEIGHBOUR: 'it returns false'. Refute it at one input. -/
def fnExactHalvingBoundWrong : ChangeSpec := { name := "fnExactHalvingBound", fn := fun _ => fun
  | [d] => { results := [.lit (.bool false)], args := [d] }
  | _ => none }
def FnExactHalvingBoundWrongFalsely : Prop := fnExactHalvingBoundRow.holds Try.pinned (OpenSpec.ofChange fnExactHalvingBoundWrong)

/-- 'laws.FnExactProofOf': WHATEVER THE INPUT: true; the input reads as it did. -/
def fnExactProofOfSpec : ChangeSpec := { name := "fnExactProofOf", fn := fun _ => fun
  | [d1, d2] => { results := [.lit (.bool true)], args := [d1, d2] }
  | _ => none }
def fnExactProofOfRow : OpenClaim := { program := "ytneibmhbcjbmjaa", sum := "4a7f55c2b185f3fd890d0b9dd3f1ebe951d19add6c9a741892c7fe6700a57b8a", func := "loop.example/g01137/laws.FnExactProofOf", spec := "fnExactProofOf", apart := false }
def FnExactProofOfSaid : Prop := fnExactProofOfRow.holds Try.pinned (OpenSpec.ofChange fnExactProofOfSpec)

/-- ITS FALSE NEIGHBOUR: 'it returns false'. Refute it at one input. -/
def fnExactProofOfWrong : ChangeSpec := { name := "fnExactProofOf", fn := fun _ => fun
  | [d1, d2] => { results := [.lit (.bool false)], args := [d1, d2] }
  | _ => none }
def FnExactProofOfWrongFalsely : Prop := fnExactProofOfRow.holds Try.pinned (OpenSpec.ofChange fnExactProofOfWrong)

/-- 'laws.FnExactIsPartOf': WHATEVER THE INPUT: true; the input reads as it did. -/
def fnExactIsPartOfSpec : ChangeSpec := { name := "fnExactIsPartOf", fn := fun _ => fun
  | [d1, d2] => { results := [.lit (.bool true)], args := [d1, d2] }
  | _ => none }
def fnExactIsPartOfRow : OpenClaim := { program := "ytneibmhbcjbmjaa", sum := "4a7f55c2b185f3fd890d0b9dd3f1ebe951d19add6c9a741892c7fe6700a57b8a", func := "loop.example/g01137/laws.FnExactIsPartOf", spec := "fnExactIsPartOf", unfollowed := true, recurses := true, apart := false }
def FnExactIsPartOfSaid : Prop := fnExactIsPartOfRow.holds Try.pinned (OpenSpec.ofChange fnExactIsPartOfSpec)

/-- ITS FALSE NEIGHBOUR: 'it returns false'. Refute it at one input. -/
def fnExactIsPartOfWrong : ChangeSpec := { name := "fnExactIsPartOf", fn := fun _ => fun
  | [d1, d2] => { results := [.lit (.bool false)], args := [d1, d2] }
  | _ => none }
def FnExactIsPartOfWrongFalsely : Prop := fnExactIsPartOfRow.holds Try.pinned (OpenSpec.ofChange fnExactIsPartOfWrong)

/-- 'laws.FnExactSetOfFringes': WHATEVER THE INPUT: true; the input reads as it did. -/
def fnExactSetOfFringesSpec : ChangeSpec := { name := "fnExactSetOfFringes", fn := fun _ => fun
  | [d1, d2, d3] => { results := [.lit (.bool true)], args := [d1, d2, d3] }
  | _ => none }
def fnExactSetOfFringesRow : OpenClaim := { program := "ytneibmhbcjbmjaa", sum := "4a7f55c2b185f3fd890d0b9dd3f1ebe951d19add6c9a741892c7fe6700a57b8a", func := "loop.example/g01137/laws.FnExactSetOfFringes", spec := "fnExactSetOfFringes", apart := false }
def FnExactSetOfFringesSaid : Prop := fnExactSetOfFringesRow.holds Try.pinned (OpenSpec.ofChange fnExactSetOfFringesSpec)

/-- ITS FALSE NEIGHBOUR: 'it returns false'. Refute it at one input. -/
def fnExactSetOfFringesWrong : ChangeSpec := { name := "fnExactSetOfFringes", fn := fun _ => fun
  | [d1, d2, d3] => { results := [.lit (.bool false)], args := [d1, d2, d3] }
  | _ => none }
def FnExactSetOfFringesWrongFalsely : Prop := fnExactSetOfFringesRow.holds Try.pinned (OpenSpec.ofChange fnExactSetOfFringesWrong)

/- THE SECOND FORM. 'bulk': how many values and letters a reading holds, each counted each time it is reached (what is shared counts as often as it is met; a slice's spare places count too). A statement '..UptoSaid' is the law's where the arguments, and the package variables that the reading takes, are together of bulk at most 1048576: NARROWER than '..Said'. Prove '..Said' where nothing that the law and all that it calls make is longer than what came in: it says more and counts as full. Else prove '..UptoSaid'. A law counts once. -/
mutual
def uptoBulk {H : Type} : DataW H → Nat
  | .lit (.string bytes) => bytes.length + 1
  | .lit _ => 1
  | .nil => 1
  | .ptr d => uptoBulk d + 1
  | .slice elems spare => uptoBulkAll elems + uptoBulkAll spare + 1
  | .agg parts => uptoBulkAll parts + 1
  | .iface _ d => uptoBulk d + 1
  | .map entries => uptoBulkEntries entries + 1
  | .held _ => 1
def uptoBulkAll {H : Type} : List (DataW H) → Nat
  | [] => 0
  | d :: r => uptoBulk d + uptoBulkAll r
def uptoBulkEntries {H : Type} : List (Lit × DataW H) → Nat
  | [] => 0
  | x :: r => uptoBulkEntry x + uptoBulkEntries r
def uptoBulkEntry {H : Type} : Lit × DataW H → Nat
  | (.string bytes, d) => bytes.length + uptoBulk d + 1
  | (_, d) => uptoBulk d + 1
 end
def uptoSmall : (H : Type) → List (DataW H) → Bool := fun _ ds => decide (uptoBulkAll ds ≤ 1048576)
def OpenSpec.upto (s : _root_.Go.ChangeSpec) : _root_.Go.OpenSpec := { _root_.Go.OpenSpec.ofChange s with cond := some uptoSmall }

/-- 'laws.FnExactAreTasks', WHERE WHAT IT READS IS OF BULK AT MOST 1048576: true; the input reads as it did. -/
def fnExactAreTasksUptoRow : OpenClaim := { program := "ytneibmhbcjbmjaa", sum := "4a7f55c2b185f3fd890d0b9dd3f1ebe951d19add6c9a741892c7fe6700a57b8a", func := "loop.example/g01137/laws.FnExactAreTasks", spec := "fnExactAreTasks", unfollowed := true, recurses := true, apart := false, narrowed := true }
def FnExactAreTasksUptoSaid : Prop := fnExactAreTasksUptoRow.holds Try.pinned (OpenSpec.upto fnExactAreTasksSpec)

/-- 'laws.FnExactPrefixSets', WHERE WHAT IT READS IS OF BULK AT MOST 1048576: true; the input reads as it did. -/
def fnExactPrefixSetsUptoRow : OpenClaim := { program := "ytneibmhbcjbmjaa", sum := "4a7f55c2b185f3fd890d0b9dd3f1ebe951d19add6c9a741892c7fe6700a57b8a", func := "loop.example/g01137/laws.FnExactPrefixSets", spec := "fnExactPrefixSets", apart := false, narrowed := true }
def FnExactPrefixSetsUptoSaid : Prop := fnExactPrefixSetsUptoRow.holds Try.pinned (OpenSpec.upto fnExactPrefixSetsSpec)

/-- 'laws.FnExactHalvingBound', WHERE WHAT IT READS IS OF BULK AT MOST 1048576: true; the input reads as it did. -/
def fnExactHalvingBoundUptoRow : OpenClaim := { program := "ytneibmhbcjbmjaa", sum := "4a7f55c2b185f3fd890d0b9dd3f1ebe951d19add6c9a741892c7fe6700a57b8a", func := "loop.example/g01137/laws.FnExactHalvingBound", spec := "fnExactHalvingBound", apart := false, narrowed := true }
def FnExactHalvingBoundUptoSaid : Prop := fnExactHalvingBoundUptoRow.holds Try.pinned (OpenSpec.upto fnExactHalvingBoundSpec)

/-- 'laws.FnExactProofOf', WHERE WHAT IT READS IS OF BULK AT MOST 1048576: true; the input reads as it did. -/
def fnExactProofOfUptoRow : OpenClaim := { program := "ytneibmhbcjbmjaa", sum := "4a7f55c2b185f3fd890d0b9dd3f1ebe951d19add6c9a741892c7fe6700a57b8a", func := "loop.example/g01137/laws.FnExactProofOf", spec := "fnExactProofOf", apart := false, narrowed := true }
def FnExactProofOfUptoSaid : Prop := fnExactProofOfUptoRow.holds Try.pinned (OpenSpec.upto fnExactProofOfSpec)

/-- 'laws.FnExactIsPartOf', WHERE WHAT IT READS IS OF BULK AT MOST 1048576: true; the input reads as it did. -/
def fnExactIsPartOfUptoRow : OpenClaim := { program := "ytneibmhbcjbmjaa", sum := "4a7f55c2b185f3fd890d0b9dd3f1ebe951d19add6c9a741892c7fe6700a57b8a", func := "loop.example/g01137/laws.FnExactIsPartOf", spec := "fnExactIsPartOf", unfollowed := true, recurses := true, apart := false, narrowed := true }
def FnExactIsPartOfUptoSaid : Prop := fnExactIsPartOfUptoRow.holds Try.pinned (OpenSpec.upto fnExactIsPartOfSpec)

/-- 'laws.FnExactSetOfFringes', WHERE WHAT IT READS IS OF BULK AT MOST 1048576: true; the input reads as it did. -/
def fnExactSetOfFringesUptoRow : OpenClaim := { program := "ytneibmhbcjbmjaa", sum := "4a7f55c2b185f3fd890d0b9dd3f1ebe951d19add6c9a741892c7fe6700a57b8a", func := "loop.example/g01137/laws.FnExactSetOfFringes", spec := "fnExactSetOfFringes", apart := false, narrowed := true }
def FnExactSetOfFringesUptoSaid : Prop := fnExactSetOfFringesUptoRow.holds Try.pinned (OpenSpec.upto fnExactSetOfFringesSpec)

end Rows
end Go.Proofs.Ytneibmhbcjbmjaa
