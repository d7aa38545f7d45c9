/-
  No cell of these rows narrows 'for every input' (looked for: loops, veiled, ifaces, maps, wideKeys, modest, calm, conditions, laid).
  DERIVED. THE GIVEN ROWS OF THIS SEAT. 4 by the template 'for every input the law returns true; each argument reads behind the call as it read before'; 0 by the template 'total and deterministic' (their statements: YtkggkllcmoiacaaTotals.lean).
  GIVEN WITH THE SEED: the statements are not yours to turn. If you find one false, say at which input.
  Laid BY PROGRAM, IN A SANDBOX (cutbox-rows.mjs): the forced cells as the released guide's own fill.sh prints them over the translation a05d2ae1c7248275… (all of the seat's roots in one cut). By AI agents, Wed Nov 11 2026. No macro, syntax, notation, axiom, sorry.
-/
import Derived.Test.YtkggkllcmoiacaaChecked
import GoSem.Claim
import GoSem.ClaimJoined
import GoSem.ClaimMapViews
import Derived.JoinedTies
import Derived.KernelRfl
namespace Go.Proofs.Ytkggkllcmoiacaa
/- THE CELL 'sum', in the pinned program and in every row, IS THE sha256 OF THE DUMP (.gsa) THAT YtkggkllcmoiacaaProg.lean LOADS. Nothing in Lean hashes anything: it is a label: what it is worth is what the hold of that sum in a sandbox is worth. -/
noncomputable def Try.pinned : Pinned := { name := "ytkggkllcmoiacaa", sum := "a05d2ae1c7248275a7adf42547641374a8e1ab86803d25b7b23cf1703d356c6d", checked := Try.checked }
namespace Rows
def none {H : Type} : Left H := { results := [], args := [] }

/-- 'laws.FnExactWidthOf': WHATEVER THE INPUT: true; the input reads as it did. -/
def fnExactWidthOfSpec : ChangeSpec := { name := "fnExactWidthOf", fn := fun _ => fun
  | [d] => { results := [.lit (.bool true)], args := [d] }
  | _ => none }
def fnExactWidthOfRow : OpenClaim := { program := "ytkggkllcmoiacaa", sum := "a05d2ae1c7248275a7adf42547641374a8e1ab86803d25b7b23cf1703d356c6d", func := "loop.example/g01137/laws.FnExactWidthOf", spec := "fnExactWidthOf", unfollowed := true, recurses := true, apart := false }
def FnExactWidthOfSaid : Prop := fnExactWidthOfRow.holds Try.pinned (OpenSpec.ofChange fnExactWidthOfSpec)

/-- ITS FALSE NEIGHBOUR: 'it returns false'. Refute it at one input. -/
def fnExactWidthOfWrong : ChangeSpec := { name := "fnExactWidthOf", fn := fun _ => fun
  | [d] => { results := [.lit (.bool false)], args := [d] }
  | _ => none }
def FnExactWidthOfWrongFalsely : Prop := fnExactWidthOfRow.holds Try.pinned (OpenSpec.ofChange fnExactWidthOfWrong)

/-- 'laws.FnExactFewestWords': WHATEVER THE INPUT: true; the input reads as it did. -/
def fnExactFewestWordsSpec : ChangeSpec := { name := "fnExactFewestWords", fn := fun _ => fun
  | [d] => { results := [.lit (.bool true)], args := [d] }
  | _ => none }
def fnExactFewestWordsRow : OpenClaim := { program := "ytkggkllcmoiacaa", sum := "a05d2ae1c7248275a7adf42547641374a8e1ab86803d25b7b23cf1703d356c6d", func := "loop.example/g01137/laws.FnExactFewestWords", spec := "fnExactFewestWords", unfollowed := true, recurses := true, apart := false }
def FnExactFewestWordsSaid : Prop := fnExactFewestWordsRow.holds Try.pinned (OpenSpec.ofChange fnExactFewestWordsSpec)

/-- ITS FALSE NEIGHBOUR: 'it returns false'. Refute it at one input. -/
def fnExactFewestWordsWrong : ChangeSpec := { name := "fnExactFewestWords", fn := fun _ => fun
  | [d] => { results := [.lit (.bool false)], args := [d] }
  | _ => none }
def FnExactFewestWordsWrongFalsely : Prop := fnExactFewestWordsRow.holds Try.pinned (OpenSpec.ofChange fnExactFewestWordsWrong)

/-- 'laws.FnExactChainsThrough': WHATEVER THE INPUT: true; the input reads as it did. -/
def fnExactChainsThroughSpec : ChangeSpec := { name := "fnExactChainsThrough", fn := fun _ => fun
  | [d] => { results := [.lit (.bool true)], args := [d] }
  | _ => none }
def fnExactChainsThroughRow : OpenClaim := { program := "ytkggkllcmoiacaa", sum := "a05d2ae1c7248275a7adf42547641374a8e1ab86803d25b7b23cf1703d356c6d", func := "loop.example/g01137/laws.FnExactChainsThrough", spec := "fnExactChainsThrough", unfollowed := true, recurses := true, apart := false }
def FnExactChainsThroughSaid : Prop := fnExactChainsThroughRow.holds Try.pinned (OpenSpec.ofChange fnExactChainsThroughSpec)

/-- ITS FALSE NEIGHBOUR: 'it returns false'. Refute it at one input. -/
def fnExactChainsThroughWrong : ChangeSpec := { name := "fnExactChainsThrough", fn := fun _ => fun
  | [d] => { results := [.lit (.bool false)], args := [d] }
  | _ => none }
def FnExactChainsThroughWrongFalsely : Prop := fnExactChainsThroughRow.holds Try.pinned (OpenSpec.ofChange fnExactChainsThroughWrong)

/-- 'laws.FnExactMakingWords': WHATEVER THE INPUT: true; the input reads as it did. -/
def fnExactMakingWordsSpec : ChangeSpec := { name := "fnExactMakingWords", fn := fun _ => fun
  | [d] => { results := [.lit (.bool true)], args := [d] }
  | _ => none }
def fnExactMakingWordsRow : OpenClaim := { program := "ytkggkllcmoiacaa", sum := "a05d2ae1c7248275a7adf42547641374a8e1ab86803d25b7b23cf1703d356c6d", func := "loop.example/g01137/laws.FnExactMakingWords", spec := "fnExactMakingWords", unfollowed := true, recurses := true, apart := false }
def FnExactMakingWordsSaid : Prop := fnExactMakingWordsRow.holds Try.pinned (OpenSpec.ofChange fnExactMakingWordsSpec)

/-- ITS FALSE NEIGHBOUR: 'it returns false'. Refute it at one input. -/
def fnExactMakingWordsWrong : ChangeSpec := { name := "fnExactMakingWords", fn := fun _ => fun
  | [d] => { results := [.lit (.bool false)], args := [d] }
  | _ => none }
def FnExactMakingWordsWrongFalsely : Prop := fnExactMakingWordsRow.holds Try.pinned (OpenSpec.ofChange fnExactMakingWordsWrong)

/- THE SECOND FORM. 'bulk': how many values and letters a reading holds, each counted each time it is reached (what is shared counts as often as it is met; a slice's spare places count too). A statement '..UptoSaid' is the law's where the arguments, and the package variables that the reading takes, are together of bulk at most 1048576: NARROWER than '..Said'. Prove '..Said' where nothing that the law and all that it calls make is longer than what came in: it says more and counts as full. Else prove '..UptoSaid'. A law counts once. -/
mutual
def uptoBulk {H : Type} : DataW H → Nat
  | .lit (.string bytes) => bytes.length + 1
  | .lit _ => 1
  | .nil => 1
  | .ptr d => uptoBulk d + 1
  | .slice elems spare => uptoBulkAll elems + uptoBulkAll spare + 1
  | .agg parts => uptoBulkAll parts + 1
  | .iface _ d => uptoBulk d + 1
  | .map entries => uptoBulkEntries entries + 1
  | .held _ => 1
def uptoBulkAll {H : Type} : List (DataW H) → Nat
  | [] => 0
  | d :: r => uptoBulk d + uptoBulkAll r
def uptoBulkEntries {H : Type} : List (Lit × DataW H) → Nat
  | [] => 0
  | x :: r => uptoBulkEntry x + uptoBulkEntries r
def uptoBulkEntry {H : Type} : Lit × DataW H → Nat
  | (.string bytes, d) => bytes.length + uptoBulk d + 1
  | (_, d) => uptoBulk d + 1
 end
def uptoSmall : (H : Type) → List (DataW H) → Bool := fun _ ds => decide (uptoBulkAll ds ≤ 1048576)
def OpenSpec.upto (s : _root_.Go.ChangeSpec) : _root_.Go.OpenSpec := { _root_.Go.OpenSpec.ofChange s with cond := some uptoSmall }

/-- 'laws.FnExactWidthOf', WHERE WHAT IT READS IS OF BULK AT MOST 1048576: true; the input reads as it did. -/
def fnExactWidthOfUptoRow : OpenClaim := { program := "ytkggkllcmoiacaa", sum := "a05d2ae1c7248275a7adf42547641374a8e1ab86803d25b7b23cf1703d356c6d", func := "loop.example/g01137/laws.FnExactWidthOf", spec := "fnExactWidthOf", unfollowed := true, recurses := true, apart := false, narrowed := true }
def FnExactWidthOfUptoSaid : Prop := fnExactWidthOfUptoRow.holds Try.pinned (OpenSpec.upto fnExactWidthOfSpec)

/-- 'laws.FnExactFewestWords', WHERE WHAT IT READS IS OF BULK AT MOST 1048576: true; the input reads as it did. -/
def fnExactFewestWordsUptoRow : OpenClaim := { program := "ytkggkllcmoiacaa", sum := "a05d2ae1c7248275a7adf42547641374a8e1ab86803d25b7b23cf1703d356c6d", func := "loop.example/g01137/laws.FnExactFewestWords", spec := "fnExactFewestWords", unfollowed := true, recurses := true, apart := false, narrowed := true }
def FnExactFewestWordsUptoSaid : Prop := fnExactFewestWordsUptoRow.holds Try.pinned (OpenSpec.upto fnExactFewestWordsSpec)

/-- 'laws.FnExactChainsThrough', WHERE WHAT IT READS IS OF BULK AT MOST 1048576: true; the input reads as it did. -/
def fnExactChainsThroughUptoRow : OpenClaim := { program := "ytkggkllcmoiacaa", sum := "a05d2ae1c7248275a7adf42547641374a8e1ab86803d25b7b23cf1703d356c6d", func := "loop.example/g01137/laws.FnExactChainsThrough", spec := "fnExactChainsThrough", unfollowed := true, recurses := true, apart := false, narrowed := true }
def FnExactChainsThroughUptoSaid : Prop := fnExactChainsThroughUptoRow.holds Try.pinned (OpenSpec.upto fnExactChainsThroughSpec)

/-- 'laws.FnExactMakingWords', WHERE WHAT IT READS IS OF BULK AT MOST 1048576: true; the input reads as it did. -/
def fnExactMakingWordsUptoRow : OpenClaim := { program := "ytkggkllcmoiacaa", sum := "a05d2ae1c7248275a7adf42547641374a8e1ab86803d25b7b23cf1703d356c6d", func := "loop.example/g01137/laws.FnExactMakingWords", spec := "fnExactMakingWords", unfollowed := true, recurses := true, apart := false, narrowed := true }
def FnExactMakingWordsUptoSaid : Prop := fnExactMakingWordsUptoRow.holds Try.pinned (OpenSpec.upto fnExactMakingWordsSpec)

end Rows
end Go.Proofs.Ytkggkllcmoiacaa
