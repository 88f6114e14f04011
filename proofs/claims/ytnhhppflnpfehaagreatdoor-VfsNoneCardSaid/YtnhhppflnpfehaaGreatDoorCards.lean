/-
  DERIVED. GIVEN WITH THE SEED: THE CARDS: each row of YtnhhppflnpfehaaGreatDoorRows.lean that lists a variable, with what it lists TIED to the program's text (the seventh form; the later family's looks); each row that meets fmt, with fmt's text TOLD by the authors' own Lean function (tested against real Go, not proved from fmt's source: count such statements apart). THE CARD IS WHAT COUNTS. Prove the row's statement (the work); the ties are given (YtnhhppflnpfehaaGreatDoorTie.lean); close each card by the builder's one call (the guide's Derived/Test/ToyasCard.lean, 'card_holds'). Laid BY PROGRAM, IN A SANDBOX (cutbox-door.mjs). By AI agents, Wed Nov 11 2026. No macro, syntax, notation, axiom, sorry.
-/
import Derived.Test.YtnhhppflnpfehaaGreatDoorRows
import GoSem.ClaimSeven
namespace Go.Proofs.YtnhhppflnpfehaaGreatDoor
namespace Rows

/-- THE TIED CARD OF 'tributarylaw13.VfsNone'. -/
def vfsNoneCard : Claim7 := { stood := { row := vfsNoneRow, standIns := [], harness := (true, "0d7834087b7ceccf78ea464ecc9d2368abb479bd3e325549ec9973b6c934d643"), looks := false }, kinds := [], alts := [], laidByText := true, laidKinds := [.data, .pinned], laidTests := true, laidLooks := .later }
def VfsNoneCardSaid : Prop := Claim7.holds Tryz.pinned (.plain (OpenSpec.ofChange vfsNoneSpec)) vfsNoneCard

/-- THE SECOND FORM's CARD OF 'tributarylaw13.VfsNone'. -/
def vfsNoneUptoCard : Claim7 := { stood := { row := vfsNoneUptoRow, standIns := [], harness := (true, "0d7834087b7ceccf78ea464ecc9d2368abb479bd3e325549ec9973b6c934d643"), looks := false }, kinds := [], alts := [], laidByText := true, laidKinds := [.data, .pinned], laidTests := true, laidLooks := .later }
def VfsNoneUptoCardSaid : Prop := Claim7.holds Tryz.pinned (.plain (OpenSpec.upto vfsNoneSpec)) vfsNoneUptoCard
end Rows
end Go.Proofs.YtnhhppflnpfehaaGreatDoor
