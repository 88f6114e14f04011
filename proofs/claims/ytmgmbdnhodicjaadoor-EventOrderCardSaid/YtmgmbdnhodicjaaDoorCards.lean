/-
  DERIVED. GIVEN WITH THE SEED: THE CARDS: each row of YtmgmbdnhodicjaaDoorRows.lean that lists a variable, with what it lists TIED to the program's text (the seventh form; the later family's looks); each row that meets fmt, with fmt's text TOLD by the authors' own Lean function (tested against real Go, not proved from fmt's source: count such statements apart). THE CARD IS WHAT COUNTS. Prove the row's statement (the work); the ties are given (YtmgmbdnhodicjaaDoorTie.lean); close each card by the builder's one call (the guide's Derived/Test/ToyasCard.lean, 'card_holds'). Laid BY PROGRAM, IN A SANDBOX (cutbox-door.mjs). By AI agents, Wed Nov 11 2026. No macro, syntax, notation, axiom, sorry.
-/
import Derived.Test.YtmgmbdnhodicjaaDoorRows
import GoSem.ClaimSeven
namespace Go.Proofs.YtmgmbdnhodicjaaDoor
namespace Rows

/-- THE TIED CARD OF 'tributarylaw21.SpoolKnown'. -/
def spoolKnownCard : Claim7 := { stood := { row := spoolKnownRow, standIns := [], harness := (true, "b49ce140f1a49cd33fc9e5f85a0270c4a77f4ae4f4033b4ccdb8f36fa5085252"), looks := false }, kinds := [], alts := [], laidByText := true, laidKinds := [.data, .pinned], laidTests := true, laidLooks := .later }
def SpoolKnownCardSaid : Prop := Claim7.holds Tryd.pinned (.plain (OpenSpec.ofChange spoolKnownSpec)) spoolKnownCard

/-- THE TIED CARD OF 'tributarylaw21.SpoolDrains'. -/
def spoolDrainsCard : Claim7 := { stood := { row := spoolDrainsRow, standIns := [], harness := (true, "b49ce140f1a49cd33fc9e5f85a0270c4a77f4ae4f4033b4ccdb8f36fa5085252"), looks := false }, kinds := [], alts := [], laidByText := true, laidKinds := [.data, .pinned], laidTests := true, laidLooks := .later }
def SpoolDrainsCardSaid : Prop := Claim7.holds Tryd.pinned (.plain (OpenSpec.ofChange spoolDrainsSpec)) spoolDrainsCard

/-- THE TIED CARD OF 'tributarylaw21.SpoolNone'. -/
def spoolNoneCard : Claim7 := { stood := { row := spoolNoneRow, standIns := [], harness := (true, "b49ce140f1a49cd33fc9e5f85a0270c4a77f4ae4f4033b4ccdb8f36fa5085252"), looks := false }, kinds := [], alts := [], laidByText := true, laidKinds := [.data, .pinned], laidTests := true, laidLooks := .later }
def SpoolNoneCardSaid : Prop := Claim7.holds Tryd.pinned (.plain (OpenSpec.ofChange spoolNoneSpec)) spoolNoneCard

/-- THE TIED CARD OF 'tributarylaw08.EventOrder'. -/
def eventOrderCard : Claim7 := { stood := { row := eventOrderRow, standIns := [], harness := (true, "b49ce140f1a49cd33fc9e5f85a0270c4a77f4ae4f4033b4ccdb8f36fa5085252"), looks := false }, kinds := [], alts := [], laidByText := true, laidKinds := [.data, .pinned], laidTests := true, laidLooks := .later }
def EventOrderCardSaid : Prop := Claim7.holds Tryd.pinned (.plain (OpenSpec.ofChange eventOrderSpec)) eventOrderCard

/-- THE SECOND FORM's CARD OF 'tributarylaw21.SpoolKnown'. -/
def spoolKnownUptoCard : Claim7 := { stood := { row := spoolKnownUptoRow, standIns := [], harness := (true, "b49ce140f1a49cd33fc9e5f85a0270c4a77f4ae4f4033b4ccdb8f36fa5085252"), looks := false }, kinds := [], alts := [], laidByText := true, laidKinds := [.data, .pinned], laidTests := true, laidLooks := .later }
def SpoolKnownUptoCardSaid : Prop := Claim7.holds Tryd.pinned (.plain (OpenSpec.upto spoolKnownSpec)) spoolKnownUptoCard

/-- THE SECOND FORM's CARD OF 'tributarylaw21.SpoolDrains'. -/
def spoolDrainsUptoCard : Claim7 := { stood := { row := spoolDrainsUptoRow, standIns := [], harness := (true, "b49ce140f1a49cd33fc9e5f85a0270c4a77f4ae4f4033b4ccdb8f36fa5085252"), looks := false }, kinds := [], alts := [], laidByText := true, laidKinds := [.data, .pinned], laidTests := true, laidLooks := .later }
def SpoolDrainsUptoCardSaid : Prop := Claim7.holds Tryd.pinned (.plain (OpenSpec.upto spoolDrainsSpec)) spoolDrainsUptoCard

/-- THE SECOND FORM's CARD OF 'tributarylaw21.SpoolNone'. -/
def spoolNoneUptoCard : Claim7 := { stood := { row := spoolNoneUptoRow, standIns := [], harness := (true, "b49ce140f1a49cd33fc9e5f85a0270c4a77f4ae4f4033b4ccdb8f36fa5085252"), looks := false }, kinds := [], alts := [], laidByText := true, laidKinds := [.data, .pinned], laidTests := true, laidLooks := .later }
def SpoolNoneUptoCardSaid : Prop := Claim7.holds Tryd.pinned (.plain (OpenSpec.upto spoolNoneSpec)) spoolNoneUptoCard

/-- THE SECOND FORM's CARD OF 'tributarylaw08.EventOrder'. -/
def eventOrderUptoCard : Claim7 := { stood := { row := eventOrderUptoRow, standIns := [], harness := (true, "b49ce140f1a49cd33fc9e5f85a0270c4a77f4ae4f4033b4ccdb8f36fa5085252"), looks := false }, kinds := [], alts := [], laidByText := true, laidKinds := [.data, .pinned], laidTests := true, laidLooks := .later }
def EventOrderUptoCardSaid : Prop := Claim7.holds Tryd.pinned (.plain (OpenSpec.upto eventOrderSpec)) eventOrderUptoCard
end Rows
end Go.Proofs.YtmgmbdnhodicjaaDoor
