/-
  No cell of these rows narrows 'for every input' (looked for: loops, veiled, ifaces, maps, wideKeys, modest, calm, conditions, laid).
  DERIVED. THE GIVEN ROWS OF THIS SEAT. 10 by the template 'for every input the law returns true; each argument reads behind the call as it read before'; 0 by the template 'total and deterministic' (their statements: YtpilnkaiepdemaaTotals.lean).
  GIVEN WITH THE SEED: the statements are not yours to turn. If you find one false, say at which input.
  Laid BY PROGRAM, IN A SANDBOX (cutbox-rows.mjs): the forced cells as the released guide's own fill.sh prints them over the translation 5d4229b6e0dd35f9… (all of the seat's roots in one cut). By AI agents, Wed Nov 11 2026. No macro, syntax, notation, axiom, sorry.
-/
import Derived.Test.YtpilnkaiepdemaaChecked
import GoSem.Claim
import GoSem.ClaimJoined
import GoSem.ClaimMapViews
import Derived.JoinedTies
import Derived.KernelRfl
namespace Go.Proofs.Ytpilnkaiepdemaa
/- THE CELL 'sum', in the pinned program and in every row, IS THE sha256 OF THE DUMP (.gsa) THAT YtpilnkaiepdemaaProg.lean LOADS. Nothing in Lean hashes anything: it is a label: what it is worth is what the hold of that sum in a sandbox is worth. -/
noncomputable def Try.pinned : Pinned := { name := "ytpilnkaiepdemaa", sum := "5d4229b6e0dd35f93eef9e47408786e2987b8bce86e1e38913abf0fcb5dfc713", checked := Try.checked }
namespace Rows
def none {H : Type} : Left H := { results := [], args := [] }

/-- 'laws.FnExactMeetOfSpaces': WHATEVER THE INPUT: true; the input reads as it did. -/
def fnExactMeetOfSpacesSpec : ChangeSpec := { name := "fnExactMeetOfSpaces", fn := fun _ => fun
  | [d1, d2] => { results := [.lit (.bool true)], args := [d1, d2] }
  | _ => none }
def fnExactMeetOfSpacesRow : OpenClaim := { program := "ytpilnkaiepdemaa", sum := "5d4229b6e0dd35f93eef9e47408786e2987b8bce86e1e38913abf0fcb5dfc713", func := "loop.example/g01137/laws.FnExactMeetOfSpaces", spec := "fnExactMeetOfSpaces", plainKeys := false, apart := false }
def FnExactMeetOfSpacesSaid : Prop := fnExactMeetOfSpacesRow.holds Try.pinned (OpenSpec.ofChange fnExactMeetOfSpacesSpec)

/-- ITS FALSE NEIGHBOUR: 'it returns false'. Refute it at one input. -/
def fnExactMeetOfSpacesWrong : ChangeSpec := { name := "fnExactMeetOfSpaces", fn := fun _ => fun
  | [d1, d2] => { results := [.lit (.bool false)], args := [d1, d2] }
  | _ => none }
def FnExactMeetOfSpacesWrongFalsely : Prop := fnExactMeetOfSpacesRow.holds Try.pinned (OpenSpec.ofChange fnExactMeetOfSpacesWrong)

/-- 'laws.FnExactWordThrough': WHATEVER THE INPUT: true; the input reads as it did. -/
def fnExactWordThroughSpec : ChangeSpec := { name := "fnExactWordThrough", fn := fun _ => fun
  | [d1, d2] => { results := [.lit (.bool true)], args := [d1, d2] }
  | _ => none }
def fnExactWordThroughRow : OpenClaim := { program := "ytpilnkaiepdemaa", sum := "5d4229b6e0dd35f93eef9e47408786e2987b8bce86e1e38913abf0fcb5dfc713", func := "loop.example/g01137/laws.FnExactWordThrough", spec := "fnExactWordThrough", plainKeys := false, apart := false }
def FnExactWordThroughSaid : Prop := fnExactWordThroughRow.holds Try.pinned (OpenSpec.ofChange fnExactWordThroughSpec)

/-- ITS FALSE NEIGHBOUR: 'it returns false'. Refute it at one input. -/
def fnExactWordThroughWrong : ChangeSpec := { name := "fnExactWordThrough", fn := fun _ => fun
  | [d1, d2] => { results := [.lit (.bool false)], args := [d1, d2] }
  | _ => none }
def FnExactWordThroughWrongFalsely : Prop := fnExactWordThroughRow.holds Try.pinned (OpenSpec.ofChange fnExactWordThroughWrong)

/-- 'laws.FnExactHalfQuestion': WHATEVER THE INPUT: true; the input reads as it did. -/
def fnExactHalfQuestionSpec : ChangeSpec := { name := "fnExactHalfQuestion", fn := fun _ => fun
  | [d1, d2, d3] => { results := [.lit (.bool true)], args := [d1, d2, d3] }
  | _ => none }
def fnExactHalfQuestionRow : OpenClaim := { program := "ytpilnkaiepdemaa", sum := "5d4229b6e0dd35f93eef9e47408786e2987b8bce86e1e38913abf0fcb5dfc713", func := "loop.example/g01137/laws.FnExactHalfQuestion", spec := "fnExactHalfQuestion", plainKeys := false, apart := false }
def FnExactHalfQuestionSaid : Prop := fnExactHalfQuestionRow.holds Try.pinned (OpenSpec.ofChange fnExactHalfQuestionSpec)

/-- ITS FALSE NEIGHBOUR: 'it returns false'. Refute it at one input. -/
def fnExactHalfQuestionWrong : ChangeSpec := { name := "fnExactHalfQuestion", fn := fun _ => fun
  | [d1, d2, d3] => { results := [.lit (.bool false)], args := [d1, d2, d3] }
  | _ => none }
def FnExactHalfQuestionWrongFalsely : Prop := fnExactHalfQuestionRow.holds Try.pinned (OpenSpec.ofChange fnExactHalfQuestionWrong)

/-- 'laws.FnExactLeastTotal': WHATEVER THE INPUT: true; the input reads as it did. -/
def fnExactLeastTotalSpec : ChangeSpec := { name := "fnExactLeastTotal", fn := fun _ => fun
  | [d] => { results := [.lit (.bool true)], args := [d] }
  | _ => none }
def fnExactLeastTotalRow : OpenClaim := { program := "ytpilnkaiepdemaa", sum := "5d4229b6e0dd35f93eef9e47408786e2987b8bce86e1e38913abf0fcb5dfc713", func := "loop.example/g01137/laws.FnExactLeastTotal", spec := "fnExactLeastTotal", recurses := true, plainKeys := false, apart := false }
def FnExactLeastTotalSaid : Prop := fnExactLeastTotalRow.holds Try.pinned (OpenSpec.ofChange fnExactLeastTotalSpec)

/-- ITS FALSE NEIGHBOUR: 'it returns false'. Refute it at one input. -/
def fnExactLeastTotalWrong : ChangeSpec := { name := "fnExactLeastTotal", fn := fun _ => fun
  | [d] => { results := [.lit (.bool false)], args := [d] }
  | _ => none }
def FnExactLeastTotalWrongFalsely : Prop := fnExactLeastTotalRow.holds Try.pinned (OpenSpec.ofChange fnExactLeastTotalWrong)

/-- 'laws.FnExactFirstWord': WHATEVER THE INPUT: true; the input reads as it did. -/
def fnExactFirstWordSpec : ChangeSpec := { name := "fnExactFirstWord", fn := fun _ => fun
  | [d1, d2] => { results := [.lit (.bool true)], args := [d1, d2] }
  | _ => none }
def fnExactFirstWordRow : OpenClaim := { program := "ytpilnkaiepdemaa", sum := "5d4229b6e0dd35f93eef9e47408786e2987b8bce86e1e38913abf0fcb5dfc713", func := "loop.example/g01137/laws.FnExactFirstWord", spec := "fnExactFirstWord", unfollowed := true, recurses := true, plainKeys := false, apart := false }
def FnExactFirstWordSaid : Prop := fnExactFirstWordRow.holds Try.pinned (OpenSpec.ofChange fnExactFirstWordSpec)

/-- ITS FALSE NEIGHBOUR: 'it returns false'. Refute it at one input. -/
def fnExactFirstWordWrong : ChangeSpec := { name := "fnExactFirstWord", fn := fun _ => fun
  | [d1, d2] => { results := [.lit (.bool false)], args := [d1, d2] }
  | _ => none }
def FnExactFirstWordWrongFalsely : Prop := fnExactFirstWordRow.holds Try.pinned (OpenSpec.ofChange fnExactFirstWordWrong)

/-- 'laws.FnExactLeastWorst': WHATEVER THE INPUT: true; the input reads as it did. -/
def fnExactLeastWorstSpec : ChangeSpec := { name := "fnExactLeastWorst", fn := fun _ => fun
  | [d1, d2, d3] => { results := [.lit (.bool true)], args := [d1, d2, d3] }
  | _ => none }
def fnExactLeastWorstRow : OpenClaim := { program := "ytpilnkaiepdemaa", sum := "5d4229b6e0dd35f93eef9e47408786e2987b8bce86e1e38913abf0fcb5dfc713", func := "loop.example/g01137/laws.FnExactLeastWorst", spec := "fnExactLeastWorst", recurses := true, plainKeys := false, apart := false }
def FnExactLeastWorstSaid : Prop := fnExactLeastWorstRow.holds Try.pinned (OpenSpec.ofChange fnExactLeastWorstSpec)

/-- ITS FALSE NEIGHBOUR: 'it returns false'. Refute it at one input. -/
def fnExactLeastWorstWrong : ChangeSpec := { name := "fnExactLeastWorst", fn := fun _ => fun
  | [d1, d2, d3] => { results := [.lit (.bool false)], args := [d1, d2, d3] }
  | _ => none }
def FnExactLeastWorstWrongFalsely : Prop := fnExactLeastWorstRow.holds Try.pinned (OpenSpec.ofChange fnExactLeastWorstWrong)

/-- 'laws.FnExactCostAt': WHATEVER THE INPUT: true; the input reads as it did. -/
def fnExactCostAtSpec : ChangeSpec := { name := "fnExactCostAt", fn := fun _ => fun
  | [d1, d2, d3, d4] => { results := [.lit (.bool true)], args := [d1, d2, d3, d4] }
  | _ => none }
def fnExactCostAtRow : OpenClaim := { program := "ytpilnkaiepdemaa", sum := "5d4229b6e0dd35f93eef9e47408786e2987b8bce86e1e38913abf0fcb5dfc713", func := "loop.example/g01137/laws.FnExactCostAt", spec := "fnExactCostAt", unfollowed := true, recurses := true, plainKeys := false, apart := false }
def FnExactCostAtSaid : Prop := fnExactCostAtRow.holds Try.pinned (OpenSpec.ofChange fnExactCostAtSpec)

/-- ITS FALSE NEIGHBOUR: 'it returns false'. Refute it at one input. -/
def fnExactCostAtWrong : ChangeSpec := { name := "fnExactCostAt", fn := fun _ => fun
  | [d1, d2, d3, d4] => { results := [.lit (.bool false)], args := [d1, d2, d3, d4] }
  | _ => none }
def FnExactCostAtWrongFalsely : Prop := fnExactCostAtRow.holds Try.pinned (OpenSpec.ofChange fnExactCostAtWrong)

/-- 'laws.FnExactBestQuestion': WHATEVER THE INPUT: true; the input reads as it did. -/
def fnExactBestQuestionSpec : ChangeSpec := { name := "fnExactBestQuestion", fn := fun _ => fun
  | [d1, d2, d3] => { results := [.lit (.bool true)], args := [d1, d2, d3] }
  | _ => none }
def fnExactBestQuestionRow : OpenClaim := { program := "ytpilnkaiepdemaa", sum := "5d4229b6e0dd35f93eef9e47408786e2987b8bce86e1e38913abf0fcb5dfc713", func := "loop.example/g01137/laws.FnExactBestQuestion", spec := "fnExactBestQuestion", recurses := true, plainKeys := false, apart := false }
def FnExactBestQuestionSaid : Prop := fnExactBestQuestionRow.holds Try.pinned (OpenSpec.ofChange fnExactBestQuestionSpec)

/-- ITS FALSE NEIGHBOUR: 'it returns false'. Refute it at one input. -/
def fnExactBestQuestionWrong : ChangeSpec := { name := "fnExactBestQuestion", fn := fun _ => fun
  | [d1, d2, d3] => { results := [.lit (.bool false)], args := [d1, d2, d3] }
  | _ => none }
def FnExactBestQuestionWrongFalsely : Prop := fnExactBestQuestionRow.holds Try.pinned (OpenSpec.ofChange fnExactBestQuestionWrong)

/-- 'laws.FnExactRestrictTo': WHATEVER THE INPUT: true; the input reads as it did. -/
def fnExactRestrictToSpec : ChangeSpec := { name := "fnExactRestrictTo", fn := fun _ => fun
  | [d1, d2] => { results := [.lit (.bool true)], args := [d1, d2] }
  | _ => none }
def fnExactRestrictToRow : OpenClaim := { program := "ytpilnkaiepdemaa", sum := "5d4229b6e0dd35f93eef9e47408786e2987b8bce86e1e38913abf0fcb5dfc713", func := "loop.example/g01137/laws.FnExactRestrictTo", spec := "fnExactRestrictTo", plainKeys := false, apart := false }
def FnExactRestrictToSaid : Prop := fnExactRestrictToRow.holds Try.pinned (OpenSpec.ofChange fnExactRestrictToSpec)

/-- ITS FALSE NEIGHBOUR: 'it returns false'. Refute it at one input. -/
def fnExactRestrictToWrong : ChangeSpec := { name := "fnExactRestrictTo", fn := fun _ => fun
  | [d1, d2] => { results := [.lit (.bool false)], args := [d1, d2] }
  | _ => none }
def FnExactRestrictToWrongFalsely : Prop := fnExactRestrictToRow.holds Try.pinned (OpenSpec.ofChange fnExactRestrictToWrong)

/-- 'laws.FnExactWordWith': WHATEVER THE INPUT: true; the input reads as it did. -/
def fnExactWordWithSpec : ChangeSpec := { name := "fnExactWordWith", fn := fun _ => fun
  | [d1, d2] => { results := [.lit (.bool true)], args := [d1, d2] }
  | _ => none }
def fnExactWordWithRow : OpenClaim := { program := "ytpilnkaiepdemaa", sum := "5d4229b6e0dd35f93eef9e47408786e2987b8bce86e1e38913abf0fcb5dfc713", func := "loop.example/g01137/laws.FnExactWordWith", spec := "fnExactWordWith", unfollowed := true, recurses := true, plainKeys := false, apart := false }
def FnExactWordWithSaid : Prop := fnExactWordWithRow.holds Try.pinned (OpenSpec.ofChange fnExactWordWithSpec)

/-- ITS FALSE NEIGHBOUR: 'it returns false'. Refute it at one input. -/
def fnExactWordWithWrong : ChangeSpec := { name := "fnExactWordWith", fn := fun _ => fun
  | [d1, d2] => { results := [.lit (.bool false)], args := [d1, d2] }
  | _ => none }
def FnExactWordWithWrongFalsely : Prop := fnExactWordWithRow.holds Try.pinned (OpenSpec.ofChange fnExactWordWithWrong)

/- THE SECOND FORM. 'bulk': how many values and letters a reading holds, each counted each time it is reached (what is shared counts as often as it is met; a slice's spare places count too). A statement '..UptoSaid' is the law's where the arguments, and the package variables that the reading takes, are together of bulk at most 1048576: NARROWER than '..Said'. Prove '..Said' where nothing that the law and all that it calls make is longer than what came in: it says more and counts as full. Else prove '..UptoSaid'. A law counts once. -/
mutual
def uptoBulk {H : Type} : DataW H → Nat
  | .lit (.string bytes) => bytes.length + 1
  | .lit _ => 1
  | .nil => 1
  | .ptr d => uptoBulk d + 1
  | .slice elems spare => uptoBulkAll elems + uptoBulkAll spare + 1
  | .agg parts => uptoBulkAll parts + 1
  | .iface _ d => uptoBulk d + 1
  | .map entries => uptoBulkEntries entries + 1
  | .held _ => 1
def uptoBulkAll {H : Type} : List (DataW H) → Nat
  | [] => 0
  | d :: r => uptoBulk d + uptoBulkAll r
def uptoBulkEntries {H : Type} : List (Lit × DataW H) → Nat
  | [] => 0
  | x :: r => uptoBulkEntry x + uptoBulkEntries r
def uptoBulkEntry {H : Type} : Lit × DataW H → Nat
  | (.string bytes, d) => bytes.length + uptoBulk d + 1
  | (_, d) => uptoBulk d + 1
 end
def uptoSmall : (H : Type) → List (DataW H) → Bool := fun _ ds => decide (uptoBulkAll ds ≤ 1048576)
def OpenSpec.upto (s : _root_.Go.ChangeSpec) : _root_.Go.OpenSpec := { _root_.Go.OpenSpec.ofChange s with cond := some uptoSmall }

/-- 'laws.FnExactMeetOfSpaces', WHERE WHAT IT READS IS OF BULK AT MOST 1048576: true; the input reads as it did. -/
def fnExactMeetOfSpacesUptoRow : OpenClaim := { program := "ytpilnkaiepdemaa", sum := "5d4229b6e0dd35f93eef9e47408786e2987b8bce86e1e38913abf0fcb5dfc713", func := "loop.example/g01137/laws.FnExactMeetOfSpaces", spec := "fnExactMeetOfSpaces", plainKeys := false, apart := false, narrowed := true }
def FnExactMeetOfSpacesUptoSaid : Prop := fnExactMeetOfSpacesUptoRow.holds Try.pinned (OpenSpec.upto fnExactMeetOfSpacesSpec)

/-- 'laws.FnExactWordThrough', WHERE WHAT IT READS IS OF BULK AT MOST 1048576: true; the input reads as it did. -/
def fnExactWordThroughUptoRow : OpenClaim := { program := "ytpilnkaiepdemaa", sum := "5d4229b6e0dd35f93eef9e47408786e2987b8bce86e1e38913abf0fcb5dfc713", func := "loop.example/g01137/laws.FnExactWordThrough", spec := "fnExactWordThrough", plainKeys := false, apart := false, narrowed := true }
def FnExactWordThroughUptoSaid : Prop := fnExactWordThroughUptoRow.holds Try.pinned (OpenSpec.upto fnExactWordThroughSpec)

/-- 'laws.FnExactHalfQuestion', WHERE WHAT IT READS IS OF BULK AT MOST 1048576: true; the input reads as it did. -/
def fnExactHalfQuestionUptoRow : OpenClaim := { program := "ytpilnkaiepdemaa", sum := "5d4229b6e0dd35f93eef9e47408786e2987b8bce86e1e38913abf0fcb5dfc713", func := "loop.example/g01137/laws.FnExactHalfQuestion", spec := "fnExactHalfQuestion", plainKeys := false, apart := false, narrowed := true }
def FnExactHalfQuestionUptoSaid : Prop := fnExactHalfQuestionUptoRow.holds Try.pinned (OpenSpec.upto fnExactHalfQuestionSpec)

/-- 'laws.FnExactLeastTotal', WHERE WHAT IT READS IS OF BULK AT MOST 1048576: true; the input reads as it did. -/
def fnExactLeastTotalUptoRow : OpenClaim := { program := "ytpilnkaiepdemaa", sum := "5d4229b6e0dd35f93eef9e47408786e2987b8bce86e1e38913abf0fcb5dfc713", func := "loop.example/g01137/laws.FnExactLeastTotal", spec := "fnExactLeastTotal", recurses := true, plainKeys := false, apart := false, narrowed := true }
def FnExactLeastTotalUptoSaid : Prop := fnExactLeastTotalUptoRow.holds Try.pinned (OpenSpec.upto fnExactLeastTotalSpec)

/-- 'laws.FnExactFirstWord', WHERE WHAT IT READS IS OF BULK AT MOST 1048576: true; the input reads as it did. -/
def fnExactFirstWordUptoRow : OpenClaim := { program := "ytpilnkaiepdemaa", sum := "5d4229b6e0dd35f93eef9e47408786e2987b8bce86e1e38913abf0fcb5dfc713", func := "loop.example/g01137/laws.FnExactFirstWord", spec := "fnExactFirstWord", unfollowed := true, recurses := true, plainKeys := false, apart := false, narrowed := true }
def FnExactFirstWordUptoSaid : Prop := fnExactFirstWordUptoRow.holds Try.pinned (OpenSpec.upto fnExactFirstWordSpec)

/-- 'laws.FnExactLeastWorst', WHERE WHAT IT READS IS OF BULK AT MOST 1048576: true; the input reads as it did. -/
def fnExactLeastWorstUptoRow : OpenClaim := { program := "ytpilnkaiepdemaa", sum := "5d4229b6e0dd35f93eef9e47408786e2987b8bce86e1e38913abf0fcb5dfc713", func := "loop.example/g01137/laws.FnExactLeastWorst", spec := "fnExactLeastWorst", recurses := true, plainKeys := false, apart := false, narrowed := true }
def FnExactLeastWorstUptoSaid : Prop := fnExactLeastWorstUptoRow.holds Try.pinned (OpenSpec.upto fnExactLeastWorstSpec)

/-- 'laws.FnExactCostAt', WHERE WHAT IT READS IS OF BULK AT MOST 1048576: true; the input reads as it did. -/
def fnExactCostAtUptoRow : OpenClaim := { program := "ytpilnkaiepdemaa", sum := "5d4229b6e0dd35f93eef9e47408786e2987b8bce86e1e38913abf0fcb5dfc713", func := "loop.example/g01137/laws.FnExactCostAt", spec := "fnExactCostAt", unfollowed := true, recurses := true, plainKeys := false, apart := false, narrowed := true }
def FnExactCostAtUptoSaid : Prop := fnExactCostAtUptoRow.holds Try.pinned (OpenSpec.upto fnExactCostAtSpec)

/-- 'laws.FnExactBestQuestion', WHERE WHAT IT READS IS OF BULK AT MOST 1048576: true; the input reads as it did. -/
def fnExactBestQuestionUptoRow : OpenClaim := { program := "ytpilnkaiepdemaa", sum := "5d4229b6e0dd35f93eef9e47408786e2987b8bce86e1e38913abf0fcb5dfc713", func := "loop.example/g01137/laws.FnExactBestQuestion", spec := "fnExactBestQuestion", recurses := true, plainKeys := false, apart := false, narrowed := true }
def FnExactBestQuestionUptoSaid : Prop := fnExactBestQuestionUptoRow.holds Try.pinned (OpenSpec.upto fnExactBestQuestionSpec)

/-- 'laws.FnExactRestrictTo', WHERE WHAT IT READS IS OF BULK AT MOST 1048576: true; the input reads as it did. -/
def fnExactRestrictToUptoRow : OpenClaim := { program := "ytpilnkaiepdemaa", sum := "5d4229b6e0dd35f93eef9e47408786e2987b8bce86e1e38913abf0fcb5dfc713", func := "loop.example/g01137/laws.FnExactRestrictTo", spec := "fnExactRestrictTo", plainKeys := false, apart := false, narrowed := true }
def FnExactRestrictToUptoSaid : Prop := fnExactRestrictToUptoRow.holds Try.pinned (OpenSpec.upto fnExactRestrictToSpec)

/-- 'laws.FnExactWordWith', WHERE WHAT IT READS IS OF BULK AT MOST 1048576: true; the input reads as it did. -/
def fnExactWordWithUptoRow : OpenClaim := { program := "ytpilnkaiepdemaa", sum := "5d4229b6e0dd35f93eef9e47408786e2987b8bce86e1e38913abf0fcb5dfc713", func := "loop.example/g01137/laws.FnExactWordWith", spec := "fnExactWordWith", unfollowed := true, recurses := true, plainKeys := false, apart := false, narrowed := true }
def FnExactWordWithUptoSaid : Prop := fnExactWordWithUptoRow.holds Try.pinned (OpenSpec.upto fnExactWordWithSpec)

end Rows
end Go.Proofs.Ytpilnkaiepdemaa
