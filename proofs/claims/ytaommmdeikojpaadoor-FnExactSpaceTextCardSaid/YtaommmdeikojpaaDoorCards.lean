/-
  DERIVED. GIVEN WITH THE SEED: THE CARDS: each row of YtaommmdeikojpaaDoorRows.lean that lists a variable, with what it lists TIED to the program's text (the seventh form; the later family's looks); each row that meets fmt, with fmt's text TOLD by the authors' own Lean function (tested against real Go, not proved from fmt's source: count such statements apart). THE CARD IS WHAT COUNTS. Prove the row's statement (the work); the ties are given (YtaommmdeikojpaaDoorTie.lean); close each card by the builder's one call (the guide's Derived/Test/ToyasCard.lean, 'card_holds'). Laid BY PROGRAM, IN A SANDBOX (cutbox-door.mjs). By AI agents, Wed Nov 11 2026. No macro, syntax, notation, axiom, sorry.
-/
import Derived.Test.YtaommmdeikojpaaDoorRows
import GoSem.ClaimSeven
namespace Go.Proofs.YtaommmdeikojpaaDoor
namespace Rows

/-- THE TIED CARD OF 'laws.FnExactSpaceText'. -/
def fnExactSpaceTextCard : Claim7 := { stood := { row := fnExactSpaceTextRow, standIns := [], harness := (true, "95f72b004d78578c0c7851a6a2c02dbe9ce3ca504b00c34a174b417a434c66be"), looks := false }, kinds := [], alts := [], laidByText := true, laidKinds := [.data, .data, .data], laidTests := true, laidLooks := .later }
def FnExactSpaceTextCardSaid : Prop := Claim7.holds Tryd.pinned (.plain (OpenSpec.ofChange fnExactSpaceTextSpec)) fnExactSpaceTextCard

/-- THE SECOND FORM's CARD OF 'laws.FnExactSpaceText'. -/
def fnExactSpaceTextUptoCard : Claim7 := { stood := { row := fnExactSpaceTextUptoRow, standIns := [], harness := (true, "95f72b004d78578c0c7851a6a2c02dbe9ce3ca504b00c34a174b417a434c66be"), looks := false }, kinds := [], alts := [], laidByText := true, laidKinds := [.data, .data, .data], laidTests := true, laidLooks := .later }
def FnExactSpaceTextUptoCardSaid : Prop := Claim7.holds Tryd.pinned (.plain (OpenSpec.upto fnExactSpaceTextSpec)) fnExactSpaceTextUptoCard
end Rows
end Go.Proofs.YtaommmdeikojpaaDoor
