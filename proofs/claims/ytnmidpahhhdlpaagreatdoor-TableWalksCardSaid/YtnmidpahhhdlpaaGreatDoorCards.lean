/-
  DERIVED. GIVEN WITH THE SEED: THE CARDS: each row of YtnmidpahhhdlpaaGreatDoorRows.lean that lists a variable, with what it lists TIED to the program's text (the seventh form; the later family's looks); each row that meets fmt, with fmt's text TOLD by the authors' own Lean function (tested against real Go, not proved from fmt's source: count such statements apart). THE CARD IS WHAT COUNTS. Prove the row's statement (the work); the ties are given (YtnmidpahhhdlpaaGreatDoorTie.lean); close each card by the builder's one call (the guide's Derived/Test/ToyasCard.lean, 'card_holds'). Laid BY PROGRAM, IN A SANDBOX (cutbox-door.mjs). By AI agents, Wed Nov 11 2026. No macro, syntax, notation, axiom, sorry.
-/
import Derived.Test.YtnmidpahhhdlpaaGreatDoorRows
import GoSem.ClaimSeven
namespace Go.Proofs.YtnmidpahhhdlpaaGreatDoor
namespace Rows

/-- THE TIED CARD OF 'tributarylaw05.TableWalks'. -/
def tableWalksCard : Claim7 := { stood := { row := tableWalksRow, standIns := [], harness := (true, "2918607de9dfc73d668a7f77ccd728e203b4537f8f3ef93c253d30b4aa6e4d07"), looks := false }, kinds := [], alts := [], laidByText := true, laidKinds := [.data, .pinned], laidTests := true, laidLooks := .later }
def TableWalksCardSaid : Prop := Claim7.holds Tryz.pinned (.plain (OpenSpec.ofChange tableWalksSpec)) tableWalksCard

/-- THE TIED CARD OF 'tributarylaw05.TableMerge'. -/
def tableMergeCard : Claim7 := { stood := { row := tableMergeRow, standIns := [], harness := (true, "2918607de9dfc73d668a7f77ccd728e203b4537f8f3ef93c253d30b4aa6e4d07"), looks := false }, kinds := [], alts := [], laidByText := true, laidKinds := [.data, .pinned], laidTests := true, laidLooks := .later }
def TableMergeCardSaid : Prop := Claim7.holds Tryz.pinned (.plain (OpenSpec.ofChange tableMergeSpec)) tableMergeCard

/-- THE SECOND FORM's CARD OF 'tributarylaw05.TableWalks'. -/
def tableWalksUptoCard : Claim7 := { stood := { row := tableWalksUptoRow, standIns := [], harness := (true, "2918607de9dfc73d668a7f77ccd728e203b4537f8f3ef93c253d30b4aa6e4d07"), looks := false }, kinds := [], alts := [], laidByText := true, laidKinds := [.data, .pinned], laidTests := true, laidLooks := .later }
def TableWalksUptoCardSaid : Prop := Claim7.holds Tryz.pinned (.plain (OpenSpec.upto tableWalksSpec)) tableWalksUptoCard

/-- THE SECOND FORM's CARD OF 'tributarylaw05.TableMerge'. -/
def tableMergeUptoCard : Claim7 := { stood := { row := tableMergeUptoRow, standIns := [], harness := (true, "2918607de9dfc73d668a7f77ccd728e203b4537f8f3ef93c253d30b4aa6e4d07"), looks := false }, kinds := [], alts := [], laidByText := true, laidKinds := [.data, .pinned], laidTests := true, laidLooks := .later }
def TableMergeUptoCardSaid : Prop := Claim7.holds Tryz.pinned (.plain (OpenSpec.upto tableMergeSpec)) tableMergeUptoCard
end Rows
end Go.Proofs.YtnmidpahhhdlpaaGreatDoor
