/-
  No cell of these rows narrows 'for every input' (looked for: loops, veiled, ifaces, maps, wideKeys, modest, calm, conditions, laid).
  DERIVED. THE GIVEN ROWS OF THIS SEAT. 8 by the template 'for every input the law returns true; each argument reads behind the call as it read before'; 0 by the template 'total and deterministic' (their statements: YtkepeflplmkcmaaTotals.lean).
  GIVEN WITH THE SEED: the statements are not yours to turn. If you find one false, say at which input.
  Laid BY PROGRAM, IN A SANDBOX (cutbox-rows.mjs): the forced cells as the released guide's own fill.sh prints them over the translation 51da2b3965cb75da… (all of the seat's roots in one cut). By AI agents, Wed Nov 11 2026. No macro, syntax, notation, axiom, sorry.
-/
import Derived.Test.YtkepeflplmkcmaaChecked
import GoSem.Claim
import GoSem.ClaimJoined
import GoSem.ClaimMapViews
import Derived.JoinedTies
import Derived.KernelRfl
namespace Go.Proofs.Ytkepeflplmkcmaa
/- THE CELL 'sum', in the pinned program and in every row, IS THE sha256 OF THE DUMP (.gsa) THAT YtkepeflplmkcmaaProg.lean LOADS. Nothing in Lean hashes anything: it is a label: what it is worth is what the hold of that sum in a sandbox is worth. -/
noncomputable def Try.pinned : Pinned := { name := "ytkepeflplmkcmaa", sum := "51da2b3965cb75dab456d2d37b411e8700fbdc96c91f563f49444c8a25cfc9c3", checked := Try.checked }
namespace Rows
def none {H : Type} : Left H := { results := [], args := [] }

/-- 'laws.FnExactLeastTotal': WHATEVER THE INPUT: true; the input reads as it did. -/
def fnExactLeastTotalSpec : ChangeSpec := { name := "fnExactLeastTotal", fn := fun _ => fun
  | [d] => { results := [.lit (.bool true)], args := [d] }
  | _ => none }
def fnExactLeastTotalRow : OpenClaim := { program := "ytkepeflplmkcmaa", sum := "51da2b3965cb75dab456d2d37b411e8700fbdc96c91f563f49444c8a25cfc9c3", func := "loop.example/g01137/laws.FnExactLeastTotal", spec := "fnExactLeastTotal", recurses := true, plainKeys := false, apart := false }
def FnExactLeastTotalSaid : Prop := fnExactLeastTotalRow.holds Try.pinned (OpenSpec.ofChange fnExactLeastTotalSpec)

/-- ITS FALSE NEIGHBOUR: 'it returns false'. Refute it at one input. -/
def fnExactLeastTotalWrong : ChangeSpec := { name := "fnExactLeastTotal", fn := fun _ => fun
  | [d] => { results := [.lit (.bool false)], args := [d] }
  | _ => none }
def FnExactLeastTotalWrongFalsely : Prop := fnExactLeastTotalRow.holds Try.pinned (OpenSpec.ofChange fnExactLeastTotalWrong)

/-- 'laws.FnExactLeastWorst': WHATEVER THE INPUT: true; the input reads as it did. -/
def fnExactLeastWorstSpec : ChangeSpec := { name := "fnExactLeastWorst", fn := fun _ => fun
  | [d1, d2, d3] => { results := [.lit (.bool true)], args := [d1, d2, d3] }
  | _ => none }
def fnExactLeastWorstRow : OpenClaim := { program := "ytkepeflplmkcmaa", sum := "51da2b3965cb75dab456d2d37b411e8700fbdc96c91f563f49444c8a25cfc9c3", func := "loop.example/g01137/laws.FnExactLeastWorst", spec := "fnExactLeastWorst", recurses := true, plainKeys := false, apart := false }
def FnExactLeastWorstSaid : Prop := fnExactLeastWorstRow.holds Try.pinned (OpenSpec.ofChange fnExactLeastWorstSpec)

/-- ITS FALSE NEIGHBOUR: 'it returns false'. Refute it at one input. -/
def fnExactLeastWorstWrong : ChangeSpec := { name := "fnExactLeastWorst", fn := fun _ => fun
  | [d1, d2, d3] => { results := [.lit (.bool false)], args := [d1, d2, d3] }
  | _ => none }
def FnExactLeastWorstWrongFalsely : Prop := fnExactLeastWorstRow.holds Try.pinned (OpenSpec.ofChange fnExactLeastWorstWrong)

/-- 'laws.FnExactBestQuestion': WHATEVER THE INPUT: true; the input reads as it did. -/
def fnExactBestQuestionSpec : ChangeSpec := { name := "fnExactBestQuestion", fn := fun _ => fun
  | [d1, d2, d3] => { results := [.lit (.bool true)], args := [d1, d2, d3] }
  | _ => none }
def fnExactBestQuestionRow : OpenClaim := { program := "ytkepeflplmkcmaa", sum := "51da2b3965cb75dab456d2d37b411e8700fbdc96c91f563f49444c8a25cfc9c3", func := "loop.example/g01137/laws.FnExactBestQuestion", spec := "fnExactBestQuestion", recurses := true, plainKeys := false, apart := false }
def FnExactBestQuestionSaid : Prop := fnExactBestQuestionRow.holds Try.pinned (OpenSpec.ofChange fnExactBestQuestionSpec)

/-- ITS FALSE NEIGHBOUR: 'it returns false'. Refute it at one input. -/
def fnExactBestQuestionWrong : ChangeSpec := { name := "fnExactBestQuestion", fn := fun _ => fun
  | [d1, d2, d3] => { results := [.lit (.bool false)], args := [d1, d2, d3] }
  | _ => none }
def FnExactBestQuestionWrongFalsely : Prop := fnExactBestQuestionRow.holds Try.pinned (OpenSpec.ofChange fnExactBestQuestionWrong)

/-- 'laws.FnExactWordWith': WHATEVER THE INPUT: true; the input reads as it did. -/
def fnExactWordWithSpec : ChangeSpec := { name := "fnExactWordWith", fn := fun _ => fun
  | [d1, d2] => { results := [.lit (.bool true)], args := [d1, d2] }
  | _ => none }
def fnExactWordWithRow : OpenClaim := { program := "ytkepeflplmkcmaa", sum := "51da2b3965cb75dab456d2d37b411e8700fbdc96c91f563f49444c8a25cfc9c3", func := "loop.example/g01137/laws.FnExactWordWith", spec := "fnExactWordWith", unfollowed := true, recurses := true, plainKeys := false, apart := false }
def FnExactWordWithSaid : Prop := fnExactWordWithRow.holds Try.pinned (OpenSpec.ofChange fnExactWordWithSpec)

/-- ITS FALSE NEIGHBOUR: 'it returns false'. Refute it at one input. -/
def fnExactWordWithWrong : ChangeSpec := { name := "fnExactWordWith", fn := fun _ => fun
  | [d1, d2] => { results := [.lit (.bool false)], args := [d1, d2] }
  | _ => none }
def FnExactWordWithWrongFalsely : Prop := fnExactWordWithRow.holds Try.pinned (OpenSpec.ofChange fnExactWordWithWrong)

/-- 'laws.FnExactAllWords': WHATEVER THE INPUT: true; the input reads as it did. -/
def fnExactAllWordsSpec : ChangeSpec := { name := "fnExactAllWords", fn := fun _ => fun
  | [d] => { results := [.lit (.bool true)], args := [d] }
  | _ => none }
def fnExactAllWordsRow : OpenClaim := { program := "ytkepeflplmkcmaa", sum := "51da2b3965cb75dab456d2d37b411e8700fbdc96c91f563f49444c8a25cfc9c3", func := "loop.example/g01137/laws.FnExactAllWords", spec := "fnExactAllWords", unfollowed := true, recurses := true, plainKeys := false, apart := false }
def FnExactAllWordsSaid : Prop := fnExactAllWordsRow.holds Try.pinned (OpenSpec.ofChange fnExactAllWordsSpec)

/-- ITS FALSE NEIGHBOUR: 'it returns false'. Refute it at one input. -/
def fnExactAllWordsWrong : ChangeSpec := { name := "fnExactAllWords", fn := fun _ => fun
  | [d] => { results := [.lit (.bool false)], args := [d] }
  | _ => none }
def FnExactAllWordsWrongFalsely : Prop := fnExactAllWordsRow.holds Try.pinned (OpenSpec.ofChange fnExactAllWordsWrong)

/-- 'laws.FnExactBestCostPlain': WHATEVER THE INPUT: true; the input reads as it did. -/
def fnExactBestCostPlainSpec : ChangeSpec := { name := "fnExactBestCostPlain", fn := fun _ => fun
  | [d1, d2] => { results := [.lit (.bool true)], args := [d1, d2] }
  | _ => none }
def fnExactBestCostPlainRow : OpenClaim := { program := "ytkepeflplmkcmaa", sum := "51da2b3965cb75dab456d2d37b411e8700fbdc96c91f563f49444c8a25cfc9c3", func := "loop.example/g01137/laws.FnExactBestCostPlain", spec := "fnExactBestCostPlain", unfollowed := true, recurses := true, plainKeys := false, apart := false }
def FnExactBestCostPlainSaid : Prop := fnExactBestCostPlainRow.holds Try.pinned (OpenSpec.ofChange fnExactBestCostPlainSpec)

/-- ITS FALSE NEIGHBOUR: 'it returns false'. Refute it at one input. -/
def fnExactBestCostPlainWrong : ChangeSpec := { name := "fnExactBestCostPlain", fn := fun _ => fun
  | [d1, d2] => { results := [.lit (.bool false)], args := [d1, d2] }
  | _ => none }
def FnExactBestCostPlainWrongFalsely : Prop := fnExactBestCostPlainRow.holds Try.pinned (OpenSpec.ofChange fnExactBestCostPlainWrong)

/-- 'laws.FnExactGreatestAntichain': WHATEVER THE INPUT: true; the input reads as it did. -/
def fnExactGreatestAntichainSpec : ChangeSpec := { name := "fnExactGreatestAntichain", fn := fun _ => fun
  | [d] => { results := [.lit (.bool true)], args := [d] }
  | _ => none }
def fnExactGreatestAntichainRow : OpenClaim := { program := "ytkepeflplmkcmaa", sum := "51da2b3965cb75dab456d2d37b411e8700fbdc96c91f563f49444c8a25cfc9c3", func := "loop.example/g01137/laws.FnExactGreatestAntichain", spec := "fnExactGreatestAntichain", unfollowed := true, recurses := true, plainKeys := false, apart := false }
def FnExactGreatestAntichainSaid : Prop := fnExactGreatestAntichainRow.holds Try.pinned (OpenSpec.ofChange fnExactGreatestAntichainSpec)

/-- ITS FALSE NEIGHBOUR: 'it returns false'. Refute it at one input. -/
def fnExactGreatestAntichainWrong : ChangeSpec := { name := "fnExactGreatestAntichain", fn := fun _ => fun
  | [d] => { results := [.lit (.bool false)], args := [d] }
  | _ => none }
def FnExactGreatestAntichainWrongFalsely : Prop := fnExactGreatestAntichainRow.holds Try.pinned (OpenSpec.ofChange fnExactGreatestAntichainWrong)

/-- 'laws.FnExactAreWordsOf': WHATEVER THE INPUT: true; the input reads as it did. -/
def fnExactAreWordsOfSpec : ChangeSpec := { name := "fnExactAreWordsOf", fn := fun _ => fun
  | [d1, d2] => { results := [.lit (.bool true)], args := [d1, d2] }
  | _ => none }
def fnExactAreWordsOfRow : OpenClaim := { program := "ytkepeflplmkcmaa", sum := "51da2b3965cb75dab456d2d37b411e8700fbdc96c91f563f49444c8a25cfc9c3", func := "loop.example/g01137/laws.FnExactAreWordsOf", spec := "fnExactAreWordsOf", unfollowed := true, recurses := true, plainKeys := false, apart := false }
def FnExactAreWordsOfSaid : Prop := fnExactAreWordsOfRow.holds Try.pinned (OpenSpec.ofChange fnExactAreWordsOfSpec)

/-- ITS FALSE NEIGHBOUR: 'it returns false'. Refute it at one input. -/
def fnExactAreWordsOfWrong : ChangeSpec := { name := "fnExactAreWordsOf", fn := fun _ => fun
  | [d1, d2] => { results := [.lit (.bool false)], args := [d1, d2] }
  | _ => none }
def FnExactAreWordsOfWrongFalsely : Prop := fnExactAreWordsOfRow.holds Try.pinned (OpenSpec.ofChange fnExactAreWordsOfWrong)

/- THE SECOND FORM. 'bulk': how many values and letters a reading holds, each counted each time it is reached (what is shared counts as often as it is met; a slice's spare places count too). A statement '..UptoSaid' is the law's where the arguments, and the package variables that the reading takes, are together of bulk at most 1048576: NARROWER than '..Said'. Prove '..Said' where nothing that the law and all that it calls make is longer than what came in: it says more and counts as full. Else prove '..UptoSaid'. A law counts once. -/
mutual
def uptoBulk {H : Type} : DataW H → Nat
  | .lit (.string bytes) => bytes.length + 1
  | .lit _ => 1
  | .nil => 1
  | .ptr d => uptoBulk d + 1
  | .slice elems spare => uptoBulkAll elems + uptoBulkAll spare + 1
  | .agg parts => uptoBulkAll parts + 1
  | .iface _ d => uptoBulk d + 1
  | .map entries => uptoBulkEntries entries + 1
  | .held _ => 1
def uptoBulkAll {H : Type} : List (DataW H) → Nat
  | [] => 0
  | d :: r => uptoBulk d + uptoBulkAll r
def uptoBulkEntries {H : Type} : List (Lit × DataW H) → Nat
  | [] => 0
  | x :: r => uptoBulkEntry x + uptoBulkEntries r
def uptoBulkEntry {H : Type} : Lit × DataW H → Nat
  | (.string bytes, d) => bytes.length + uptoBulk d + 1
  | (_, d) => uptoBulk d + 1
 end
def uptoSmall : (H : Type) → List (DataW H) → Bool := fun _ ds => decide (uptoBulkAll ds ≤ 1048576)
def OpenSpec.upto (s : _root_.Go.ChangeSpec) : _root_.Go.OpenSpec := { _root_.Go.OpenSpec.ofChange s with cond := some uptoSmall }

/-- 'laws.FnExactLeastTotal', WHERE WHAT IT READS IS OF BULK AT MOST 1048576: true; the input reads as it did. -/
def fnExactLeastTotalUptoRow : OpenClaim := { program := "ytkepeflplmkcmaa", sum := "51da2b3965cb75dab456d2d37b411e8700fbdc96c91f563f49444c8a25cfc9c3", func := "loop.example/g01137/laws.FnExactLeastTotal", spec := "fnExactLeastTotal", recurses := true, plainKeys := false, apart := false, narrowed := true }
def FnExactLeastTotalUptoSaid : Prop := fnExactLeastTotalUptoRow.holds Try.pinned (OpenSpec.upto fnExactLeastTotalSpec)

/-- 'laws.FnExactLeastWorst', WHERE WHAT IT READS IS OF BULK AT MOST 1048576: true; the input reads as it did. -/
def fnExactLeastWorstUptoRow : OpenClaim := { program := "ytkepeflplmkcmaa", sum := "51da2b3965cb75dab456d2d37b411e8700fbdc96c91f563f49444c8a25cfc9c3", func := "loop.example/g01137/laws.FnExactLeastWorst", spec := "fnExactLeastWorst", recurses := true, plainKeys := false, apart := false, narrowed := true }
def FnExactLeastWorstUptoSaid : Prop := fnExactLeastWorstUptoRow.holds Try.pinned (OpenSpec.upto fnExactLeastWorstSpec)

/-- 'laws.FnExactBestQuestion', WHERE WHAT IT READS IS OF BULK AT MOST 1048576: true; the input reads as it did. -/
def fnExactBestQuestionUptoRow : OpenClaim := { program := "ytkepeflplmkcmaa", sum := "51da2b3965cb75dab456d2d37b411e8700fbdc96c91f563f49444c8a25cfc9c3", func := "loop.example/g01137/laws.FnExactBestQuestion", spec := "fnExactBestQuestion", recurses := true, plainKeys := false, apart := false, narrowed := true }
def FnExactBestQuestionUptoSaid : Prop := fnExactBestQuestionUptoRow.holds Try.pinned (OpenSpec.upto fnExactBestQuestionSpec)

/-- 'laws.FnExactWordWith', WHERE WHAT IT READS IS OF BULK AT MOST 1048576: true; the input reads as it did. -/
def fnExactWordWithUptoRow : OpenClaim := { program := "ytkepeflplmkcmaa", sum := "51da2b3965cb75dab456d2d37b411e8700fbdc96c91f563f49444c8a25cfc9c3", func := "loop.example/g01137/laws.FnExactWordWith", spec := "fnExactWordWith", unfollowed := true, recurses := true, plainKeys := false, apart := false, narrowed := true }
def FnExactWordWithUptoSaid : Prop := fnExactWordWithUptoRow.holds Try.pinned (OpenSpec.upto fnExactWordWithSpec)

/-- 'laws.FnExactAllWords', WHERE WHAT IT READS IS OF BULK AT MOST 1048576: true; the input reads as it did. -/
def fnExactAllWordsUptoRow : OpenClaim := { program := "ytkepeflplmkcmaa", sum := "51da2b3965cb75dab456d2d37b411e8700fbdc96c91f563f49444c8a25cfc9c3", func := "loop.example/g01137/laws.FnExactAllWords", spec := "fnExactAllWords", unfollowed := true, recurses := true, plainKeys := false, apart := false, narrowed := true }
def FnExactAllWordsUptoSaid : Prop := fnExactAllWordsUptoRow.holds Try.pinned (OpenSpec.upto fnExactAllWordsSpec)

/-- 'laws.FnExactBestCostPlain', WHERE WHAT IT READS IS OF BULK AT MOST 1048576: true; the input reads as it did. -/
def fnExactBestCostPlainUptoRow : OpenClaim := { program := "ytkepeflplmkcmaa", sum := "51da2b3965cb75dab456d2d37b411e8700fbdc96c91f563f49444c8a25cfc9c3", func := "loop.example/g01137/laws.FnExactBestCostPlain", spec := "fnExactBestCostPlain", unfollowed := true, recurses := true, plainKeys := false, apart := false, narrowed := true }
def FnExactBestCostPlainUptoSaid : Prop := fnExactBestCostPlainUptoRow.holds Try.pinned (OpenSpec.upto fnExactBestCostPlainSpec)

/-- 'laws.FnExactGreatestAntichain', WHERE WHAT IT READS IS OF BULK AT MOST 1048576: true; the input reads as it did. -/
def fnExactGreatestAntichainUptoRow : OpenClaim := { program := "ytkepeflplmkcmaa", sum := "51da2b3965cb75dab456d2d37b411e8700fbdc96c91f563f49444c8a25cfc9c3", func := "loop.example/g01137/laws.FnExactGreatestAntichain", spec := "fnExactGreatestAntichain", unfollowed := true, recurses := true, plainKeys := false, apart := false, narrowed := true }
def FnExactGreatestAntichainUptoSaid : Prop := fnExactGreatestAntichainUptoRow.holds Try.pinned (OpenSpec.upto fnExactGreatestAntichainSpec)

/-- 'laws.FnExactAreWordsOf', WHERE WHAT IT READS IS OF BULK AT MOST 1048576: true; the input reads as it did. -/
def fnExactAreWordsOfUptoRow : OpenClaim := { program := "ytkepeflplmkcmaa", sum := "51da2b3965cb75dab456d2d37b411e8700fbdc96c91f563f49444c8a25cfc9c3", func := "loop.example/g01137/laws.FnExactAreWordsOf", spec := "fnExactAreWordsOf", unfollowed := true, recurses := true, plainKeys := false, apart := false, narrowed := true }
def FnExactAreWordsOfUptoSaid : Prop := fnExactAreWordsOfUptoRow.holds Try.pinned (OpenSpec.upto fnExactAreWordsOfSpec)

end Rows
end Go.Proofs.Ytkepeflplmkcmaa
