/-
  DERIVED. GIVEN WITH THE SEED: THE CARDS: each row of YtlbjplpehkgcdaaGreatDoorRows.lean that lists a variable, with what it lists TIED to the program's text (the seventh form; the later family's looks); each row that meets fmt, with fmt's text TOLD by the authors' own Lean function (tested against real Go, not proved from fmt's source: count such statements apart). THE CARD IS WHAT COUNTS. Prove the row's statement (the work); the ties are given (YtlbjplpehkgcdaaGreatDoorTie.lean); close each card by the builder's one call (the guide's Derived/Test/ToyasCard.lean, 'card_holds'). Laid BY PROGRAM, IN A SANDBOX (cutbox-door.mjs). By AI agents, Wed Nov 11 2026. No macro, syntax, notation, axiom, sorry.
-/
import Derived.Test.YtlbjplpehkgcdaaGreatDoorRows
import GoSem.ClaimSeven
namespace Go.Proofs.YtlbjplpehkgcdaaGreatDoor
namespace Rows

/-- THE TIED CARD OF 'tributarylaw09.ShelfPuts'. -/
def shelfPutsCard : Claim7 := { stood := { row := shelfPutsRow, standIns := [], harness := (true, "cef57cde4e9cd318b6d7492f81518e3c8ee993dc1f07770f8b1ea4acb7342fcd"), looks := false }, kinds := [], alts := [], laidByText := true, laidKinds := [.data, .pinned], laidTests := true, laidLooks := .later }
def ShelfPutsCardSaid : Prop := Claim7.holds Tryz.pinned (.plain (OpenSpec.ofChange shelfPutsSpec)) shelfPutsCard

/-- THE TIED CARD OF 'tributarylaw09.ShelfJoins'. -/
def shelfJoinsCard : Claim7 := { stood := { row := shelfJoinsRow, standIns := [], harness := (true, "cef57cde4e9cd318b6d7492f81518e3c8ee993dc1f07770f8b1ea4acb7342fcd"), looks := false }, kinds := [], alts := [], laidByText := true, laidKinds := [.data, .pinned], laidTests := true, laidLooks := .later }
def ShelfJoinsCardSaid : Prop := Claim7.holds Tryz.pinned (.plain (OpenSpec.ofChange shelfJoinsSpec)) shelfJoinsCard

/-- THE TIED CARD OF 'tributarylaw09.ShelfOrder'. -/
def shelfOrderCard : Claim7 := { stood := { row := shelfOrderRow, standIns := [], harness := (true, "cef57cde4e9cd318b6d7492f81518e3c8ee993dc1f07770f8b1ea4acb7342fcd"), looks := false }, kinds := [], alts := [], laidByText := true, laidKinds := [.data, .pinned], laidTests := true, laidLooks := .later }
def ShelfOrderCardSaid : Prop := Claim7.holds Tryz.pinned (.plain (OpenSpec.ofChange shelfOrderSpec)) shelfOrderCard

/-- THE SECOND FORM's CARD OF 'tributarylaw09.ShelfPuts'. -/
def shelfPutsUptoCard : Claim7 := { stood := { row := shelfPutsUptoRow, standIns := [], harness := (true, "cef57cde4e9cd318b6d7492f81518e3c8ee993dc1f07770f8b1ea4acb7342fcd"), looks := false }, kinds := [], alts := [], laidByText := true, laidKinds := [.data, .pinned], laidTests := true, laidLooks := .later }
def ShelfPutsUptoCardSaid : Prop := Claim7.holds Tryz.pinned (.plain (OpenSpec.upto shelfPutsSpec)) shelfPutsUptoCard

/-- THE SECOND FORM's CARD OF 'tributarylaw09.ShelfJoins'. -/
def shelfJoinsUptoCard : Claim7 := { stood := { row := shelfJoinsUptoRow, standIns := [], harness := (true, "cef57cde4e9cd318b6d7492f81518e3c8ee993dc1f07770f8b1ea4acb7342fcd"), looks := false }, kinds := [], alts := [], laidByText := true, laidKinds := [.data, .pinned], laidTests := true, laidLooks := .later }
def ShelfJoinsUptoCardSaid : Prop := Claim7.holds Tryz.pinned (.plain (OpenSpec.upto shelfJoinsSpec)) shelfJoinsUptoCard

/-- THE SECOND FORM's CARD OF 'tributarylaw09.ShelfOrder'. -/
def shelfOrderUptoCard : Claim7 := { stood := { row := shelfOrderUptoRow, standIns := [], harness := (true, "cef57cde4e9cd318b6d7492f81518e3c8ee993dc1f07770f8b1ea4acb7342fcd"), looks := false }, kinds := [], alts := [], laidByText := true, laidKinds := [.data, .pinned], laidTests := true, laidLooks := .later }
def ShelfOrderUptoCardSaid : Prop := Claim7.holds Tryz.pinned (.plain (OpenSpec.upto shelfOrderSpec)) shelfOrderUptoCard
end Rows
end Go.Proofs.YtlbjplpehkgcdaaGreatDoor
