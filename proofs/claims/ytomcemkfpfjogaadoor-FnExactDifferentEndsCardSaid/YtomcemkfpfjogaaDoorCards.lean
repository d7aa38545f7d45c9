/-
  DERIVED. GIVEN WITH THE SEED: THE CARDS: each row of YtomcemkfpfjogaaDoorRows.lean that lists a variable, with what it lists TIED to the program's text (the seventh form; the later family's looks); each row that meets fmt, with fmt's text TOLD by the authors' own Lean function (tested against real Go, not proved from fmt's source: count such statements apart). THE CARD IS WHAT COUNTS. Prove the row's statement (the work); the ties are given (YtomcemkfpfjogaaDoorTie.lean); close each card by the builder's one call (the guide's Derived/Test/ToyasCard.lean, 'card_holds'). Laid BY PROGRAM, IN A SANDBOX (cutbox-door.mjs). By AI agents, Wed Nov 11 2026. No macro, syntax, notation, axiom, sorry.
-/
import Derived.Test.YtomcemkfpfjogaaDoorRows
import GoSem.ClaimSeven
namespace Go.Proofs.YtomcemkfpfjogaaDoor
namespace Rows

/-- THE TIED CARD OF 'laws.FnExactIsOrderSpace'. -/
def fnExactIsOrderSpaceCard : Claim7 := { stood := { row := fnExactIsOrderSpaceRow, standIns := [], harness := (true, "fc9fd44225b43e7d139d77307bfbaa412c26a4f1a0e53eee088d1c38a69bc04c"), looks := false }, kinds := [], alts := [], laidByText := true, laidKinds := [.data, .data], laidTests := true, laidLooks := .later }
def FnExactIsOrderSpaceCardSaid : Prop := Claim7.holds Tryd.pinned (.plain (OpenSpec.ofChange fnExactIsOrderSpaceSpec)) fnExactIsOrderSpaceCard

/-- THE TIED CARD OF 'laws.FnExactDifferentEnds'. -/
def fnExactDifferentEndsCard : Claim7 := { stood := { row := fnExactDifferentEndsRow, standIns := [], harness := (true, "fc9fd44225b43e7d139d77307bfbaa412c26a4f1a0e53eee088d1c38a69bc04c"), looks := false }, kinds := [], alts := [], laidByText := true, laidKinds := [.data, .data], laidTests := true, laidLooks := .later }
def FnExactDifferentEndsCardSaid : Prop := Claim7.holds Tryd.pinned (.plain (OpenSpec.ofChange fnExactDifferentEndsSpec)) fnExactDifferentEndsCard

/-- THE TIED CARD OF 'laws.FnExactPathsTo'. -/
def fnExactPathsToCard : Claim7 := { stood := { row := fnExactPathsToRow, standIns := [], harness := (true, "fc9fd44225b43e7d139d77307bfbaa412c26a4f1a0e53eee088d1c38a69bc04c"), looks := false }, kinds := [], alts := [], laidByText := true, laidKinds := [.data, .data], laidTests := true, laidLooks := .later }
def FnExactPathsToCardSaid : Prop := Claim7.holds Tryd.pinned (.plain (OpenSpec.ofChange fnExactPathsToSpec)) fnExactPathsToCard

/-- THE SECOND FORM's CARD OF 'laws.FnExactIsOrderSpace'. -/
def fnExactIsOrderSpaceUptoCard : Claim7 := { stood := { row := fnExactIsOrderSpaceUptoRow, standIns := [], harness := (true, "fc9fd44225b43e7d139d77307bfbaa412c26a4f1a0e53eee088d1c38a69bc04c"), looks := false }, kinds := [], alts := [], laidByText := true, laidKinds := [.data, .data], laidTests := true, laidLooks := .later }
def FnExactIsOrderSpaceUptoCardSaid : Prop := Claim7.holds Tryd.pinned (.plain (OpenSpec.upto fnExactIsOrderSpaceSpec)) fnExactIsOrderSpaceUptoCard

/-- THE SECOND FORM's CARD OF 'laws.FnExactDifferentEnds'. -/
def fnExactDifferentEndsUptoCard : Claim7 := { stood := { row := fnExactDifferentEndsUptoRow, standIns := [], harness := (true, "fc9fd44225b43e7d139d77307bfbaa412c26a4f1a0e53eee088d1c38a69bc04c"), looks := false }, kinds := [], alts := [], laidByText := true, laidKinds := [.data, .data], laidTests := true, laidLooks := .later }
def FnExactDifferentEndsUptoCardSaid : Prop := Claim7.holds Tryd.pinned (.plain (OpenSpec.upto fnExactDifferentEndsSpec)) fnExactDifferentEndsUptoCard

/-- THE SECOND FORM's CARD OF 'laws.FnExactPathsTo'. -/
def fnExactPathsToUptoCard : Claim7 := { stood := { row := fnExactPathsToUptoRow, standIns := [], harness := (true, "fc9fd44225b43e7d139d77307bfbaa412c26a4f1a0e53eee088d1c38a69bc04c"), looks := false }, kinds := [], alts := [], laidByText := true, laidKinds := [.data, .data], laidTests := true, laidLooks := .later }
def FnExactPathsToUptoCardSaid : Prop := Claim7.holds Tryd.pinned (.plain (OpenSpec.upto fnExactPathsToSpec)) fnExactPathsToUptoCard
end Rows
end Go.Proofs.YtomcemkfpfjogaaDoor
