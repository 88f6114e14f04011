/-
  DERIVED. GIVEN WITH THE SEED: THE CARDS: each row of YtnhhppflnpfehacGreatDoorRows.lean that lists a variable, with what it lists TIED to the program's text (the seventh form; the later family's looks); each row that meets fmt, with fmt's text TOLD by the authors' own Lean function (tested against real Go, not proved from fmt's source: count such statements apart). THE CARD IS WHAT COUNTS. Prove the row's statement (the work); the ties are given (YtnhhppflnpfehacGreatDoorTie.lean); close each card by the builder's one call (the guide's Derived/Test/ToyasCard.lean, 'card_holds'). Laid BY PROGRAM, IN A SANDBOX (cutbox-door.mjs). By AI agents, Wed Nov 11 2026. No macro, syntax, notation, axiom, sorry.
-/
import Derived.Test.YtnhhppflnpfehacGreatDoorRows
import GoSem.ClaimSeven
namespace Go.Proofs.YtnhhppflnpfehacGreatDoor
namespace Rows

/-- THE TIED CARD OF 'tributarylaw24.InstallKnown'. -/
def installKnownCard : Claim7 := { stood := { row := installKnownRow, standIns := [], harness := (true, "676ba3b9d691580dd94fc4ec3f8d9b3364804440c2debbf478fc457158293cce"), looks := false }, kinds := [], alts := [], laidByText := true, laidKinds := [.data, .pinned], laidTests := true, laidLooks := .later }
def InstallKnownCardSaid : Prop := Claim7.holds Tryz.pinned (.plain (OpenSpec.ofChange installKnownSpec)) installKnownCard

/-- THE SECOND FORM's CARD OF 'tributarylaw24.InstallKnown'. -/
def installKnownUptoCard : Claim7 := { stood := { row := installKnownUptoRow, standIns := [], harness := (true, "676ba3b9d691580dd94fc4ec3f8d9b3364804440c2debbf478fc457158293cce"), looks := false }, kinds := [], alts := [], laidByText := true, laidKinds := [.data, .pinned], laidTests := true, laidLooks := .later }
def InstallKnownUptoCardSaid : Prop := Claim7.holds Tryz.pinned (.plain (OpenSpec.upto installKnownSpec)) installKnownUptoCard
end Rows
end Go.Proofs.YtnhhppflnpfehacGreatDoor
