/-
  DERIVED. GIVEN WITH THE SEED: THE CARDS: each row of YtgjpdjkkaogfiaaGreatDoorRows.lean that lists a variable, with what it lists TIED to the program's text (the seventh form; the later family's looks); each row that meets fmt, with fmt's text TOLD by the authors' own Lean function (tested against real Go, not proved from fmt's source: count such statements apart). THE CARD IS WHAT COUNTS. Prove the row's statement (the work); the ties are given (YtgjpdjkkaogfiaaGreatDoorTie.lean); close each card by the builder's one call (the guide's Derived/Test/ToyasCard.lean, 'card_holds'). Laid BY PROGRAM, IN A SANDBOX (cutbox-door.mjs). By AI agents, Wed Nov 11 2026. No macro, syntax, notation, axiom, sorry.
-/
import Derived.Test.YtgjpdjkkaogfiaaGreatDoorRows
import GoSem.ClaimSeven
namespace Go.Proofs.YtgjpdjkkaogfiaaGreatDoor
namespace Rows

/-- THE TIED CARD OF 'tributarylaw13.VfsKnown'. -/
def vfsKnownCard : Claim7 := { stood := { row := vfsKnownRow, standIns := [], harness := (true, "0d4f7673f4131af2ee3bc45f43d9fa1d2e6c88199c612389eda0abf0d5cffca6"), looks := false }, kinds := [], alts := [], laidByText := true, laidKinds := [.data, .pinned], laidTests := true, laidLooks := .later }
def VfsKnownCardSaid : Prop := Claim7.holds Tryz.pinned (.plain (OpenSpec.ofChange vfsKnownSpec)) vfsKnownCard

/-- THE SECOND FORM's CARD OF 'tributarylaw13.VfsKnown'. -/
def vfsKnownUptoCard : Claim7 := { stood := { row := vfsKnownUptoRow, standIns := [], harness := (true, "0d4f7673f4131af2ee3bc45f43d9fa1d2e6c88199c612389eda0abf0d5cffca6"), looks := false }, kinds := [], alts := [], laidByText := true, laidKinds := [.data, .pinned], laidTests := true, laidLooks := .later }
def VfsKnownUptoCardSaid : Prop := Claim7.holds Tryz.pinned (.plain (OpenSpec.upto vfsKnownSpec)) vfsKnownUptoCard
end Rows
end Go.Proofs.YtgjpdjkkaogfiaaGreatDoor
