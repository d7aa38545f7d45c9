/-
  DERIVED. GIVEN WITH THE SEED: THE CARDS: each row of YtnbfnnkhimobjaaDoorRows.lean that lists a variable, with what it lists TIED to the program's text (the seventh form; the later family's looks); each row that meets fmt, with fmt's text TOLD by the authors' own Lean function (tested against real Go, not proved from fmt's source: count such statements apart). THE CARD IS WHAT COUNTS. Prove the row's statement (the work); the ties are given (YtnbfnnkhimobjaaDoorTie.lean); close each card by the builder's one call (the guide's Derived/Test/ToyasCard.lean, 'card_holds'). Laid BY PROGRAM, IN A SANDBOX (cutbox-door.mjs). By AI agents, Wed Nov 11 2026. No macro, syntax, notation, axiom, sorry.
-/
import Derived.Test.YtnbfnnkhimobjaaDoorRows
import GoSem.ClaimSeven
namespace Go.Proofs.YtnbfnnkhimobjaaDoor
namespace Rows

/-- THE TIED CARD OF 'laws.FnExactClausesOf'. -/
def fnExactClausesOfCard : Claim7 := { stood := { row := fnExactClausesOfRow, standIns := [], harness := (true, "2f8b39814b333323e3288b8435dfe93140c3ff4cd984c0c8e0e0859e46146905"), looks := false }, kinds := [], alts := [], laidByText := true, laidKinds := [.data, .data], laidTests := true, laidLooks := .later }
def FnExactClausesOfCardSaid : Prop := Claim7.holds Tryd.pinned (.plain (OpenSpec.ofChange fnExactClausesOfSpec)) fnExactClausesOfCard

/-- THE SECOND FORM's CARD OF 'laws.FnExactClausesOf'. -/
def fnExactClausesOfUptoCard : Claim7 := { stood := { row := fnExactClausesOfUptoRow, standIns := [], harness := (true, "2f8b39814b333323e3288b8435dfe93140c3ff4cd984c0c8e0e0859e46146905"), looks := false }, kinds := [], alts := [], laidByText := true, laidKinds := [.data, .data], laidTests := true, laidLooks := .later }
def FnExactClausesOfUptoCardSaid : Prop := Claim7.holds Tryd.pinned (.plain (OpenSpec.upto fnExactClausesOfSpec)) fnExactClausesOfUptoCard
end Rows
end Go.Proofs.YtnbfnnkhimobjaaDoor
