/-
  No cell of these rows narrows 'for every input' (looked for: loops, veiled, ifaces, maps, wideKeys, modest, calm, conditions, laid).
  DERIVED. THE GIVEN ROWS OF THIS SEAT. 12 by the template 'for every input the law returns true; each argument reads behind the call as it read before'; 0 by the template 'total and deterministic' (their statements: YtmmbcacjhocioaaTotals.lean).
  GIVEN WITH THE SEED: the statements are not yours to turn. If you find one false, say at which input.
  Laid BY PROGRAM, IN A SANDBOX (cutbox-rows.mjs): the forced cells as the released guide's own fill.sh prints them over the translation 3e6b07159a800e89… (all of the seat's roots in one cut). By AI agents, Wed Nov 11 2026. No macro, syntax, notation, axiom, sorry.
-/
import Derived.Test.YtmmbcacjhocioaaChecked
import GoSem.Claim
import GoSem.ClaimJoined
import GoSem.ClaimMapViews
import Derived.JoinedTies
import Derived.KernelRfl
namespace Go.Proofs.Ytmmbcacjhocioaa
/- THE CELL 'sum', in the pinned program and in every row, IS THE sha256 OF THE DUMP (.gsa) THAT YtmmbcacjhocioaaProg.lean LOADS. Nothing in Lean hashes anything: it is a label: what it is worth is what the hold of that sum in a sandbox is worth. -/
noncomputable def Try.pinned : Pinned := { name := "ytmmbcacjhocioaa", sum := "3e6b07159a800e89a93eebcfb035abaa72099ae38b363210cf4ec1a197111c63", checked := Try.checked }
namespace Rows
def none {H : Type} : Left H := { results := [], args := [] }

/-- 'laws.FnExactCountLeft': WHATEVER THE INPUT: true; the input reads as it did. -/
def fnExactCountLeftSpec : ChangeSpec := { name := "fnExactCountLeft", fn := fun _ => fun
  | [d1, d2, d3] => { results := [.lit (.bool true)], args := [d1, d2, d3] }
  | _ => none }
def fnExactCountLeftRow : OpenClaim := { program := "ytmmbcacjhocioaa", sum := "3e6b07159a800e89a93eebcfb035abaa72099ae38b363210cf4ec1a197111c63", func := "loop.example/g01137/laws.FnExactCountLeft", spec := "fnExactCountLeft", plainKeys := false, apart := false }
def FnExactCountLeftSaid : Prop := fnExactCountLeftRow.holds Try.pinned (OpenSpec.ofChange fnExactCountLeftSpec)

/-- ITS FALSE NEIGHBOUR: 'it returns false'. Refute it at one input. -/
def fnExactCountLeftWrong : ChangeSpec := { name := "fnExactCountLeft", fn := fun _ => fun
  | [d1, d2, d3] => { results := [.lit (.bool false)], args := [d1, d2, d3] }
  | _ => none }
def FnExactCountLeftWrongFalsely : Prop := fnExactCountLeftRow.holds Try.pinned (OpenSpec.ofChange fnExactCountLeftWrong)

/-- 'laws.FnExactIsProof': WHATEVER THE INPUT: true; the input reads as it did. -/
def fnExactIsProofSpec : ChangeSpec := { name := "fnExactIsProof", fn := fun _ => fun
  | [d1, d2, d3, d4] => { results := [.lit (.bool true)], args := [d1, d2, d3, d4] }
  | _ => none }
def fnExactIsProofRow : OpenClaim := { program := "ytmmbcacjhocioaa", sum := "3e6b07159a800e89a93eebcfb035abaa72099ae38b363210cf4ec1a197111c63", func := "loop.example/g01137/laws.FnExactIsProof", spec := "fnExactIsProof", plainKeys := false, apart := false }
def FnExactIsProofSaid : Prop := fnExactIsProofRow.holds Try.pinned (OpenSpec.ofChange fnExactIsProofSpec)

/-- ITS FALSE NEIGHBOUR: 'it returns false'. Refute it at one input. -/
def fnExactIsProofWrong : ChangeSpec := { name := "fnExactIsProof", fn := fun _ => fun
  | [d1, d2, d3, d4] => { results := [.lit (.bool false)], args := [d1, d2, d3, d4] }
  | _ => none }
def FnExactIsProofWrongFalsely : Prop := fnExactIsProofRow.holds Try.pinned (OpenSpec.ofChange fnExactIsProofWrong)

/-- 'laws.FnExactKnownOf': WHATEVER THE INPUT: true; the input reads as it did. -/
def fnExactKnownOfSpec : ChangeSpec := { name := "fnExactKnownOf", fn := fun _ => fun
  | [d1, d2, d3] => { results := [.lit (.bool true)], args := [d1, d2, d3] }
  | _ => none }
def fnExactKnownOfRow : OpenClaim := { program := "ytmmbcacjhocioaa", sum := "3e6b07159a800e89a93eebcfb035abaa72099ae38b363210cf4ec1a197111c63", func := "loop.example/g01137/laws.FnExactKnownOf", spec := "fnExactKnownOf", plainKeys := false, apart := false }
def FnExactKnownOfSaid : Prop := fnExactKnownOfRow.holds Try.pinned (OpenSpec.ofChange fnExactKnownOfSpec)

/-- ITS FALSE NEIGHBOUR: 'it returns false'. Refute it at one input. -/
def fnExactKnownOfWrong : ChangeSpec := { name := "fnExactKnownOf", fn := fun _ => fun
  | [d1, d2, d3] => { results := [.lit (.bool false)], args := [d1, d2, d3] }
  | _ => none }
def FnExactKnownOfWrongFalsely : Prop := fnExactKnownOfRow.holds Try.pinned (OpenSpec.ofChange fnExactKnownOfWrong)

/-- 'laws.FnExactSetsLeft': WHATEVER THE INPUT: true; the input reads as it did. -/
def fnExactSetsLeftSpec : ChangeSpec := { name := "fnExactSetsLeft", fn := fun _ => fun
  | [d1, d2, d3] => { results := [.lit (.bool true)], args := [d1, d2, d3] }
  | _ => none }
def fnExactSetsLeftRow : OpenClaim := { program := "ytmmbcacjhocioaa", sum := "3e6b07159a800e89a93eebcfb035abaa72099ae38b363210cf4ec1a197111c63", func := "loop.example/g01137/laws.FnExactSetsLeft", spec := "fnExactSetsLeft", plainKeys := false, apart := false }
def FnExactSetsLeftSaid : Prop := fnExactSetsLeftRow.holds Try.pinned (OpenSpec.ofChange fnExactSetsLeftSpec)

/-- ITS FALSE NEIGHBOUR: 'it returns false'. Refute it at one input. -/
def fnExactSetsLeftWrong : ChangeSpec := { name := "fnExactSetsLeft", fn := fun _ => fun
  | [d1, d2, d3] => { results := [.lit (.bool false)], args := [d1, d2, d3] }
  | _ => none }
def FnExactSetsLeftWrongFalsely : Prop := fnExactSetsLeftRow.holds Try.pinned (OpenSpec.ofChange fnExactSetsLeftWrong)

/-- 'laws.FnExactIsAntichain': WHATEVER THE INPUT: true; the input reads as it did. -/
def fnExactIsAntichainSpec : ChangeSpec := { name := "fnExactIsAntichain", fn := fun _ => fun
  | [d1, d2] => { results := [.lit (.bool true)], args := [d1, d2] }
  | _ => none }
def fnExactIsAntichainRow : OpenClaim := { program := "ytmmbcacjhocioaa", sum := "3e6b07159a800e89a93eebcfb035abaa72099ae38b363210cf4ec1a197111c63", func := "loop.example/g01137/laws.FnExactIsAntichain", spec := "fnExactIsAntichain", plainKeys := false, apart := false }
def FnExactIsAntichainSaid : Prop := fnExactIsAntichainRow.holds Try.pinned (OpenSpec.ofChange fnExactIsAntichainSpec)

/-- ITS FALSE NEIGHBOUR: 'it returns false'. Refute it at one input. -/
def fnExactIsAntichainWrong : ChangeSpec := { name := "fnExactIsAntichain", fn := fun _ => fun
  | [d1, d2] => { results := [.lit (.bool false)], args := [d1, d2] }
  | _ => none }
def FnExactIsAntichainWrongFalsely : Prop := fnExactIsAntichainRow.holds Try.pinned (OpenSpec.ofChange fnExactIsAntichainWrong)

/-- 'laws.FnExactMeetOfSpaces': WHATEVER THE INPUT: true; the input reads as it did. -/
def fnExactMeetOfSpacesSpec : ChangeSpec := { name := "fnExactMeetOfSpaces", fn := fun _ => fun
  | [d1, d2] => { results := [.lit (.bool true)], args := [d1, d2] }
  | _ => none }
def fnExactMeetOfSpacesRow : OpenClaim := { program := "ytmmbcacjhocioaa", sum := "3e6b07159a800e89a93eebcfb035abaa72099ae38b363210cf4ec1a197111c63", func := "loop.example/g01137/laws.FnExactMeetOfSpaces", spec := "fnExactMeetOfSpaces", plainKeys := false, apart := false }
def FnExactMeetOfSpacesSaid : Prop := fnExactMeetOfSpacesRow.holds Try.pinned (OpenSpec.ofChange fnExactMeetOfSpacesSpec)

/-- ITS FALSE NEIGHBOUR: 'it returns false'. Refute it at one input. -/
def fnExactMeetOfSpacesWrong : ChangeSpec := { name := "fnExactMeetOfSpaces", fn := fun _ => fun
  | [d1, d2] => { results := [.lit (.bool false)], args := [d1, d2] }
  | _ => none }
def FnExactMeetOfSpacesWrongFalsely : Prop := fnExactMeetOfSpacesRow.holds Try.pinned (OpenSpec.ofChange fnExactMeetOfSpacesWrong)

/-- 'laws.FnExactLongestProof': WHATEVER THE INPUT: true; the input reads as it did. -/
def fnExactLongestProofSpec : ChangeSpec := { name := "fnExactLongestProof", fn := fun _ => fun
  | [d] => { results := [.lit (.bool true)], args := [d] }
  | _ => none }
def fnExactLongestProofRow : OpenClaim := { program := "ytmmbcacjhocioaa", sum := "3e6b07159a800e89a93eebcfb035abaa72099ae38b363210cf4ec1a197111c63", func := "loop.example/g01137/laws.FnExactLongestProof", spec := "fnExactLongestProof", plainKeys := false, apart := false }
def FnExactLongestProofSaid : Prop := fnExactLongestProofRow.holds Try.pinned (OpenSpec.ofChange fnExactLongestProofSpec)

/-- ITS FALSE NEIGHBOUR: 'it returns false'. Refute it at one input. -/
def fnExactLongestProofWrong : ChangeSpec := { name := "fnExactLongestProof", fn := fun _ => fun
  | [d] => { results := [.lit (.bool false)], args := [d] }
  | _ => none }
def FnExactLongestProofWrongFalsely : Prop := fnExactLongestProofRow.holds Try.pinned (OpenSpec.ofChange fnExactLongestProofWrong)

/-- 'laws.FnExactWordThrough': WHATEVER THE INPUT: true; the input reads as it did. -/
def fnExactWordThroughSpec : ChangeSpec := { name := "fnExactWordThrough", fn := fun _ => fun
  | [d1, d2] => { results := [.lit (.bool true)], args := [d1, d2] }
  | _ => none }
def fnExactWordThroughRow : OpenClaim := { program := "ytmmbcacjhocioaa", sum := "3e6b07159a800e89a93eebcfb035abaa72099ae38b363210cf4ec1a197111c63", func := "loop.example/g01137/laws.FnExactWordThrough", spec := "fnExactWordThrough", plainKeys := false, apart := false }
def FnExactWordThroughSaid : Prop := fnExactWordThroughRow.holds Try.pinned (OpenSpec.ofChange fnExactWordThroughSpec)

/-- ITS FALSE NEIGHBOUR: 'it returns false'. Refute it at one input. -/
def fnExactWordThroughWrong : ChangeSpec := { name := "fnExactWordThrough", fn := fun _ => fun
  | [d1, d2] => { results := [.lit (.bool false)], args := [d1, d2] }
  | _ => none }
def FnExactWordThroughWrongFalsely : Prop := fnExactWordThroughRow.holds Try.pinned (OpenSpec.ofChange fnExactWordThroughWrong)

/-- 'laws.FnExactHalfQuestion': WHATEVER THE INPUT: true; the input reads as it did. -/
def fnExactHalfQuestionSpec : ChangeSpec := { name := "fnExactHalfQuestion", fn := fun _ => fun
  | [d1, d2, d3] => { results := [.lit (.bool true)], args := [d1, d2, d3] }
  | _ => none }
def fnExactHalfQuestionRow : OpenClaim := { program := "ytmmbcacjhocioaa", sum := "3e6b07159a800e89a93eebcfb035abaa72099ae38b363210cf4ec1a197111c63", func := "loop.example/g01137/laws.FnExactHalfQuestion", spec := "fnExactHalfQuestion", plainKeys := false, apart := false }
def FnExactHalfQuestionSaid : Prop := fnExactHalfQuestionRow.holds Try.pinned (OpenSpec.ofChange fnExactHalfQuestionSpec)

/-- ITS FALSE NEIGHBOUR: 'it returns false'. Refute it at one input. -/
def fnExactHalfQuestionWrong : ChangeSpec := { name := "fnExactHalfQuestion", fn := fun _ => fun
  | [d1, d2, d3] => { results := [.lit (.bool false)], args := [d1, d2, d3] }
  | _ => none }
def FnExactHalfQuestionWrongFalsely : Prop := fnExactHalfQuestionRow.holds Try.pinned (OpenSpec.ofChange fnExactHalfQuestionWrong)

/-- 'laws.FnExactLeastTotal': WHATEVER THE INPUT: true; the input reads as it did. -/
def fnExactLeastTotalSpec : ChangeSpec := { name := "fnExactLeastTotal", fn := fun _ => fun
  | [d] => { results := [.lit (.bool true)], args := [d] }
  | _ => none }
def fnExactLeastTotalRow : OpenClaim := { program := "ytmmbcacjhocioaa", sum := "3e6b07159a800e89a93eebcfb035abaa72099ae38b363210cf4ec1a197111c63", func := "loop.example/g01137/laws.FnExactLeastTotal", spec := "fnExactLeastTotal", recurses := true, plainKeys := false, apart := false }
def FnExactLeastTotalSaid : Prop := fnExactLeastTotalRow.holds Try.pinned (OpenSpec.ofChange fnExactLeastTotalSpec)

/-- ITS FALSE NEIGHBOUR: 'it returns false'. Refute it at one input. -/
def fnExactLeastTotalWrong : ChangeSpec := { name := "fnExactLeastTotal", fn := fun _ => fun
  | [d] => { results := [.lit (.bool false)], args := [d] }
  | _ => none }
def FnExactLeastTotalWrongFalsely : Prop := fnExactLeastTotalRow.holds Try.pinned (OpenSpec.ofChange fnExactLeastTotalWrong)

/-- 'laws.FnExactFirstWord': WHATEVER THE INPUT: true; the input reads as it did. -/
def fnExactFirstWordSpec : ChangeSpec := { name := "fnExactFirstWord", fn := fun _ => fun
  | [d1, d2] => { results := [.lit (.bool true)], args := [d1, d2] }
  | _ => none }
def fnExactFirstWordRow : OpenClaim := { program := "ytmmbcacjhocioaa", sum := "3e6b07159a800e89a93eebcfb035abaa72099ae38b363210cf4ec1a197111c63", func := "loop.example/g01137/laws.FnExactFirstWord", spec := "fnExactFirstWord", unfollowed := true, recurses := true, plainKeys := false, apart := false }
def FnExactFirstWordSaid : Prop := fnExactFirstWordRow.holds Try.pinned (OpenSpec.ofChange fnExactFirstWordSpec)

/-- ITS FALSE NEIGHBOUR: 'it returns false'. Refute it at one input. -/
def fnExactFirstWordWrong : ChangeSpec := { name := "fnExactFirstWord", fn := fun _ => fun
  | [d1, d2] => { results := [.lit (.bool false)], args := [d1, d2] }
  | _ => none }
def FnExactFirstWordWrongFalsely : Prop := fnExactFirstWordRow.holds Try.pinned (OpenSpec.ofChange fnExactFirstWordWrong)

/-- 'laws.FnExactLeastWorst': WHATEVER THE INPUT: true; the input reads as it did. -/
def fnExactLeastWorstSpec : ChangeSpec := { name := "fnExactLeastWorst", fn := fun _ => fun
  | [d1, d2, d3] => { results := [.lit (.bool true)], args := [d1, d2, d3] }
  | _ => none }
def fnExactLeastWorstRow : OpenClaim := { program := "ytmmbcacjhocioaa", sum := "3e6b07159a800e89a93eebcfb035abaa72099ae38b363210cf4ec1a197111c63", func := "loop.example/g01137/laws.FnExactLeastWorst", spec := "fnExactLeastWorst", recurses := true, plainKeys := false, apart := false }
def FnExactLeastWorstSaid : Prop := fnExactLeastWorstRow.holds Try.pinned (OpenSpec.ofChange fnExactLeastWorstSpec)

/-- ITS FALSE NEIGHBOUR: 'it returns false'. Refute it at one input. -/
def fnExactLeastWorstWrong : ChangeSpec := { name := "fnExactLeastWorst", fn := fun _ => fun
  | [d1, d2, d3] => { results := [.lit (.bool false)], args := [d1, d2, d3] }
  | _ => none }
def FnExactLeastWorstWrongFalsely : Prop := fnExactLeastWorstRow.holds Try.pinned (OpenSpec.ofChange fnExactLeastWorstWrong)

/- THE SECOND FORM. 'bulk': how many values and letters a reading holds, each counted each time it is reached (what is shared counts as often as it is met; a slice's spare places count too). A statement '..UptoSaid' is the law's where the arguments, and the package variables that the reading takes, are together of bulk at most 1048576: NARROWER than '..Said'. Prove '..Said' where nothing that the law and all that it calls make is longer than what came in: it says more and counts as full. Else prove '..UptoSaid'. A law counts once. -/
mutual
def uptoBulk {H : Type} : DataW H → Nat
  | .lit (.string bytes) => bytes.length + 1
  | .lit _ => 1
  | .nil => 1
  | .ptr d => uptoBulk d + 1
  | .slice elems spare => uptoBulkAll elems + uptoBulkAll spare + 1
  | .agg parts => uptoBulkAll parts + 1
  | .iface _ d => uptoBulk d + 1
  | .map entries => uptoBulkEntries entries + 1
  | .held _ => 1
def uptoBulkAll {H : Type} : List (DataW H) → Nat
  | [] => 0
  | d :: r => uptoBulk d + uptoBulkAll r
def uptoBulkEntries {H : Type} : List (Lit × DataW H) → Nat
  | [] => 0
  | x :: r => uptoBulkEntry x + uptoBulkEntries r
def uptoBulkEntry {H : Type} : Lit × DataW H → Nat
  | (.string bytes, d) => bytes.length + uptoBulk d + 1
  | (_, d) => uptoBulk d + 1
 end
def uptoSmall : (H : Type) → List (DataW H) → Bool := fun _ ds => decide (uptoBulkAll ds ≤ 1048576)
def OpenSpec.upto (s : _root_.Go.ChangeSpec) : _root_.Go.OpenSpec := { _root_.Go.OpenSpec.ofChange s with cond := some uptoSmall }

/-- 'laws.FnExactCountLeft', WHERE WHAT IT READS IS OF BULK AT MOST 1048576: true; the input reads as it did. -/
def fnExactCountLeftUptoRow : OpenClaim := { program := "ytmmbcacjhocioaa", sum := "3e6b07159a800e89a93eebcfb035abaa72099ae38b363210cf4ec1a197111c63", func := "loop.example/g01137/laws.FnExactCountLeft", spec := "fnExactCountLeft", plainKeys := false, apart := false, narrowed := true }
def FnExactCountLeftUptoSaid : Prop := fnExactCountLeftUptoRow.holds Try.pinned (OpenSpec.upto fnExactCountLeftSpec)

/-- 'laws.FnExactIsProof', WHERE WHAT IT READS IS OF BULK AT MOST 1048576: true; the input reads as it did. -/
def fnExactIsProofUptoRow : OpenClaim := { program := "ytmmbcacjhocioaa", sum := "3e6b07159a800e89a93eebcfb035abaa72099ae38b363210cf4ec1a197111c63", func := "loop.example/g01137/laws.FnExactIsProof", spec := "fnExactIsProof", plainKeys := false, apart := false, narrowed := true }
def FnExactIsProofUptoSaid : Prop := fnExactIsProofUptoRow.holds Try.pinned (OpenSpec.upto fnExactIsProofSpec)

/-- 'laws.FnExactKnownOf', WHERE WHAT IT READS IS OF BULK AT MOST 1048576: true; the input reads as it did. -/
def fnExactKnownOfUptoRow : OpenClaim := { program := "ytmmbcacjhocioaa", sum := "3e6b07159a800e89a93eebcfb035abaa72099ae38b363210cf4ec1a197111c63", func := "loop.example/g01137/laws.FnExactKnownOf", spec := "fnExactKnownOf", plainKeys := false, apart := false, narrowed := true }
def FnExactKnownOfUptoSaid : Prop := fnExactKnownOfUptoRow.holds Try.pinned (OpenSpec.upto fnExactKnownOfSpec)

/-- 'laws.FnExactSetsLeft', WHERE WHAT IT READS IS OF BULK AT MOST 1048576: true; the input reads as it did. -/
def fnExactSetsLeftUptoRow : OpenClaim := { program := "ytmmbcacjhocioaa", sum := "3e6b07159a800e89a93eebcfb035abaa72099ae38b363210cf4ec1a197111c63", func := "loop.example/g01137/laws.FnExactSetsLeft", spec := "fnExactSetsLeft", plainKeys := false, apart := false, narrowed := true }
def FnExactSetsLeftUptoSaid : Prop := fnExactSetsLeftUptoRow.holds Try.pinned (OpenSpec.upto fnExactSetsLeftSpec)

/-- 'laws.FnExactIsAntichain', WHERE WHAT IT READS IS OF BULK AT MOST 1048576: true; the input reads as it did. -/
def fnExactIsAntichainUptoRow : OpenClaim := { program := "ytmmbcacjhocioaa", sum := "3e6b07159a800e89a93eebcfb035abaa72099ae38b363210cf4ec1a197111c63", func := "loop.example/g01137/laws.FnExactIsAntichain", spec := "fnExactIsAntichain", plainKeys := false, apart := false, narrowed := true }
def FnExactIsAntichainUptoSaid : Prop := fnExactIsAntichainUptoRow.holds Try.pinned (OpenSpec.upto fnExactIsAntichainSpec)

/-- 'laws.FnExactMeetOfSpaces', WHERE WHAT IT READS IS OF BULK AT MOST 1048576: true; the input reads as it did. -/
def fnExactMeetOfSpacesUptoRow : OpenClaim := { program := "ytmmbcacjhocioaa", sum := "3e6b07159a800e89a93eebcfb035abaa72099ae38b363210cf4ec1a197111c63", func := "loop.example/g01137/laws.FnExactMeetOfSpaces", spec := "fnExactMeetOfSpaces", plainKeys := false, apart := false, narrowed := true }
def FnExactMeetOfSpacesUptoSaid : Prop := fnExactMeetOfSpacesUptoRow.holds Try.pinned (OpenSpec.upto fnExactMeetOfSpacesSpec)

/-- 'laws.FnExactLongestProof', WHERE WHAT IT READS IS OF BULK AT MOST 1048576: true; the input reads as it did. -/
def fnExactLongestProofUptoRow : OpenClaim := { program := "ytmmbcacjhocioaa", sum := "3e6b07159a800e89a93eebcfb035abaa72099ae38b363210cf4ec1a197111c63", func := "loop.example/g01137/laws.FnExactLongestProof", spec := "fnExactLongestProof", plainKeys := false, apart := false, narrowed := true }
def FnExactLongestProofUptoSaid : Prop := fnExactLongestProofUptoRow.holds Try.pinned (OpenSpec.upto fnExactLongestProofSpec)

/-- 'laws.FnExactWordThrough', WHERE WHAT IT READS IS OF BULK AT MOST 1048576: true; the input reads as it did. -/
def fnExactWordThroughUptoRow : OpenClaim := { program := "ytmmbcacjhocioaa", sum := "3e6b07159a800e89a93eebcfb035abaa72099ae38b363210cf4ec1a197111c63", func := "loop.example/g01137/laws.FnExactWordThrough", spec := "fnExactWordThrough", plainKeys := false, apart := false, narrowed := true }
def FnExactWordThroughUptoSaid : Prop := fnExactWordThroughUptoRow.holds Try.pinned (OpenSpec.upto fnExactWordThroughSpec)

/-- 'laws.FnExactHalfQuestion', WHERE WHAT IT READS IS OF BULK AT MOST 1048576: true; the input reads as it did. -/
def fnExactHalfQuestionUptoRow : OpenClaim := { program := "ytmmbcacjhocioaa", sum := "3e6b07159a800e89a93eebcfb035abaa72099ae38b363210cf4ec1a197111c63", func := "loop.example/g01137/laws.FnExactHalfQuestion", spec := "fnExactHalfQuestion", plainKeys := false, apart := false, narrowed := true }
def FnExactHalfQuestionUptoSaid : Prop := fnExactHalfQuestionUptoRow.holds Try.pinned (OpenSpec.upto fnExactHalfQuestionSpec)

/-- 'laws.FnExactLeastTotal', WHERE WHAT IT READS IS OF BULK AT MOST 1048576: true; the input reads as it did. -/
def fnExactLeastTotalUptoRow : OpenClaim := { program := "ytmmbcacjhocioaa", sum := "3e6b07159a800e89a93eebcfb035abaa72099ae38b363210cf4ec1a197111c63", func := "loop.example/g01137/laws.FnExactLeastTotal", spec := "fnExactLeastTotal", recurses := true, plainKeys := false, apart := false, narrowed := true }
def FnExactLeastTotalUptoSaid : Prop := fnExactLeastTotalUptoRow.holds Try.pinned (OpenSpec.upto fnExactLeastTotalSpec)

/-- 'laws.FnExactFirstWord', WHERE WHAT IT READS IS OF BULK AT MOST 1048576: true; the input reads as it did. -/
def fnExactFirstWordUptoRow : OpenClaim := { program := "ytmmbcacjhocioaa", sum := "3e6b07159a800e89a93eebcfb035abaa72099ae38b363210cf4ec1a197111c63", func := "loop.example/g01137/laws.FnExactFirstWord", spec := "fnExactFirstWord", unfollowed := true, recurses := true, plainKeys := false, apart := false, narrowed := true }
def FnExactFirstWordUptoSaid : Prop := fnExactFirstWordUptoRow.holds Try.pinned (OpenSpec.upto fnExactFirstWordSpec)

/-- 'laws.FnExactLeastWorst', WHERE WHAT IT READS IS OF BULK AT MOST 1048576: true; the input reads as it did. -/
def fnExactLeastWorstUptoRow : OpenClaim := { program := "ytmmbcacjhocioaa", sum := "3e6b07159a800e89a93eebcfb035abaa72099ae38b363210cf4ec1a197111c63", func := "loop.example/g01137/laws.FnExactLeastWorst", spec := "fnExactLeastWorst", recurses := true, plainKeys := false, apart := false, narrowed := true }
def FnExactLeastWorstUptoSaid : Prop := fnExactLeastWorstUptoRow.holds Try.pinned (OpenSpec.upto fnExactLeastWorstSpec)

end Rows
end Go.Proofs.Ytmmbcacjhocioaa
