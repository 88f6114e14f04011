/-
  DERIVED. GIVEN WITH THE SEED: THE CARDS: each row of YtdnghlgepoilpaaGreatDoorRows.lean that lists a variable, with what it lists TIED to the program's text (the seventh form; the later family's looks); each row that meets fmt, with fmt's text TOLD by the authors' own Lean function (tested against real Go, not proved from fmt's source: count such statements apart). THE CARD IS WHAT COUNTS. Prove the row's statement (the work); the ties are given (YtdnghlgepoilpaaGreatDoorTie.lean); close each card by the builder's one call (the guide's Derived/Test/ToyasCard.lean, 'card_holds'). Laid BY PROGRAM, IN A SANDBOX (cutbox-door.mjs). By AI agents, Wed Nov 11 2026. No macro, syntax, notation, axiom, sorry.
-/
import Derived.Test.YtdnghlgepoilpaaGreatDoorRows
import GoSem.ClaimSeven
namespace Go.Proofs.YtdnghlgepoilpaaGreatDoor
namespace Rows

/-- THE TIED CARD OF 'tributarylaw09.ShelfKnown'. -/
def shelfKnownCard : Claim7 := { stood := { row := shelfKnownRow, standIns := [], harness := (true, "81a66e44eb6e67eea97a2e0515bb1d760900a82be80b85dd29e7b61fd518e0fe"), looks := false }, kinds := [], alts := [], laidByText := true, laidKinds := [.data, .pinned], laidTests := true, laidLooks := .later }
def ShelfKnownCardSaid : Prop := Claim7.holds Tryz.pinned (.plain (OpenSpec.ofChange shelfKnownSpec)) shelfKnownCard

/-- THE SECOND FORM's CARD OF 'tributarylaw09.ShelfKnown'. -/
def shelfKnownUptoCard : Claim7 := { stood := { row := shelfKnownUptoRow, standIns := [], harness := (true, "81a66e44eb6e67eea97a2e0515bb1d760900a82be80b85dd29e7b61fd518e0fe"), looks := false }, kinds := [], alts := [], laidByText := true, laidKinds := [.data, .pinned], laidTests := true, laidLooks := .later }
def ShelfKnownUptoCardSaid : Prop := Claim7.holds Tryz.pinned (.plain (OpenSpec.upto shelfKnownSpec)) shelfKnownUptoCard
end Rows
end Go.Proofs.YtdnghlgepoilpaaGreatDoor
