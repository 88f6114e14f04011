/-
  DERIVED. GIVEN WITH THE SEED: THE CARDS: each row of YtdnghlgepoilpadGreatDoorRows.lean that lists a variable, with what it lists TIED to the program's text (the seventh form; the later family's looks); each row that meets fmt, with fmt's text TOLD by the authors' own Lean function (tested against real Go, not proved from fmt's source: count such statements apart). THE CARD IS WHAT COUNTS. Prove the row's statement (the work); the ties are given (YtdnghlgepoilpadGreatDoorTie.lean); close each card by the builder's one call (the guide's Derived/Test/ToyasCard.lean, 'card_holds'). Laid BY PROGRAM, IN A SANDBOX (cutbox-door.mjs). By AI agents, Wed Nov 11 2026. No macro, syntax, notation, axiom, sorry.
-/
import Derived.Test.YtdnghlgepoilpadGreatDoorRows
import GoSem.ClaimSeven
namespace Go.Proofs.YtdnghlgepoilpadGreatDoor
namespace Rows

/-- THE TIED CARD OF 'tributarylaw12.ShownKnown'. -/
def shownKnownCard : Claim7 := { stood := { row := shownKnownRow, standIns := [], harness := (true, "3cc9e9ad5bbb0649539be96f12dc89d41d0ea73c1a2e1faf33f3700786d1591e"), looks := false }, kinds := [], alts := [], laidByText := true, laidKinds := [.data, .pinned], laidTests := true, laidLooks := .later }
def ShownKnownCardSaid : Prop := Claim7.holds Tryz.pinned (.plain (OpenSpec.ofChange shownKnownSpec)) shownKnownCard

/-- THE SECOND FORM's CARD OF 'tributarylaw12.ShownKnown'. -/
def shownKnownUptoCard : Claim7 := { stood := { row := shownKnownUptoRow, standIns := [], harness := (true, "3cc9e9ad5bbb0649539be96f12dc89d41d0ea73c1a2e1faf33f3700786d1591e"), looks := false }, kinds := [], alts := [], laidByText := true, laidKinds := [.data, .pinned], laidTests := true, laidLooks := .later }
def ShownKnownUptoCardSaid : Prop := Claim7.holds Tryz.pinned (.plain (OpenSpec.upto shownKnownSpec)) shownKnownUptoCard
end Rows
end Go.Proofs.YtdnghlgepoilpadGreatDoor
