/-
  DERIVED. GIVEN WITH THE SEED: THE CARDS: each row of YtdnghlgepoilpacGreatDoorRows.lean that lists a variable, with what it lists TIED to the program's text (the seventh form; the later family's looks); each row that meets fmt, with fmt's text TOLD by the authors' own Lean function (tested against real Go, not proved from fmt's source: count such statements apart). THE CARD IS WHAT COUNTS. Prove the row's statement (the work); the ties are given (YtdnghlgepoilpacGreatDoorTie.lean); close each card by the builder's one call (the guide's Derived/Test/ToyasCard.lean, 'card_holds'). Laid BY PROGRAM, IN A SANDBOX (cutbox-door.mjs). By AI agents, Wed Nov 11 2026. No macro, syntax, notation, axiom, sorry.
-/
import Derived.Test.YtdnghlgepoilpacGreatDoorRows
import GoSem.ClaimSeven
namespace Go.Proofs.YtdnghlgepoilpacGreatDoor
namespace Rows

/-- THE TIED CARD OF 'tributarylaw23.ResolveKnown'. -/
def resolveKnownCard : Claim7 := { stood := { row := resolveKnownRow, standIns := [], harness := (true, "69782388ed74b235f4cffc4eb843813cf3f8b214c94e667f351fdce15200dcb6"), looks := false }, kinds := [], alts := [], laidByText := true, laidKinds := [.data, .pinned], laidTests := true, laidLooks := .later }
def ResolveKnownCardSaid : Prop := Claim7.holds Tryz.pinned (.plain (OpenSpec.ofChange resolveKnownSpec)) resolveKnownCard

/-- THE SECOND FORM's CARD OF 'tributarylaw23.ResolveKnown'. -/
def resolveKnownUptoCard : Claim7 := { stood := { row := resolveKnownUptoRow, standIns := [], harness := (true, "69782388ed74b235f4cffc4eb843813cf3f8b214c94e667f351fdce15200dcb6"), looks := false }, kinds := [], alts := [], laidByText := true, laidKinds := [.data, .pinned], laidTests := true, laidLooks := .later }
def ResolveKnownUptoCardSaid : Prop := Claim7.holds Tryz.pinned (.plain (OpenSpec.upto resolveKnownSpec)) resolveKnownUptoCard
end Rows
end Go.Proofs.YtdnghlgepoilpacGreatDoor
