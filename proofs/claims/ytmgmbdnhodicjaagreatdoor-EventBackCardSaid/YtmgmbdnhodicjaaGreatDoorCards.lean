/-
  DERIVED. GIVEN WITH THE SEED: THE CARDS: each row of YtmgmbdnhodicjaaGreatDoorRows.lean that lists a variable, with what it lists TIED to the program's text (the seventh form; the later family's looks); each row that meets fmt, with fmt's text TOLD by the authors' own Lean function (tested against real Go, not proved from fmt's source: count such statements apart). THE CARD IS WHAT COUNTS. Prove the row's statement (the work); the ties are given (YtmgmbdnhodicjaaGreatDoorTie.lean); close each card by the builder's one call (the guide's Derived/Test/ToyasCard.lean, 'card_holds'). Laid BY PROGRAM, IN A SANDBOX (cutbox-door.mjs). By AI agents, Wed Nov 11 2026. No macro, syntax, notation, axiom, sorry.
-/
import Derived.Test.YtmgmbdnhodicjaaGreatDoorRows
import GoSem.ClaimSeven
namespace Go.Proofs.YtmgmbdnhodicjaaGreatDoor
namespace Rows

/-- THE TIED CARD OF 'tributarylaw21.SpoolScript'. -/
def spoolScriptCard : Claim7 := { stood := { row := spoolScriptRow, standIns := [], harness := (true, "61fee0d46340692d0b45b028838ce74e973d9d69dd9e71d33f0d1d7c6c36dfc3"), looks := false }, kinds := [], alts := [], laidByText := true, laidKinds := [.data, .pinned], laidTests := true, laidLooks := .later }
def SpoolScriptCardSaid : Prop := Claim7.holds Tryz.pinned (.plain (OpenSpec.ofChange spoolScriptSpec)) spoolScriptCard

/-- THE TIED CARD OF 'tributarylaw21.SpoolRoom'. -/
def spoolRoomCard : Claim7 := { stood := { row := spoolRoomRow, standIns := [], harness := (true, "61fee0d46340692d0b45b028838ce74e973d9d69dd9e71d33f0d1d7c6c36dfc3"), looks := false }, kinds := [], alts := [], laidByText := true, laidKinds := [.data, .pinned], laidTests := true, laidLooks := .later }
def SpoolRoomCardSaid : Prop := Claim7.holds Tryz.pinned (.plain (OpenSpec.ofChange spoolRoomSpec)) spoolRoomCard

/-- THE TIED CARD OF 'tributarylaw08.EventPast'. -/
def eventPastCard : Claim7 := { stood := { row := eventPastRow, standIns := [], harness := (true, "61fee0d46340692d0b45b028838ce74e973d9d69dd9e71d33f0d1d7c6c36dfc3"), looks := false }, kinds := [], alts := [], laidByText := true, laidKinds := [.data, .pinned], laidTests := true, laidLooks := .later }
def EventPastCardSaid : Prop := Claim7.holds Tryz.pinned (.plain (OpenSpec.ofChange eventPastSpec)) eventPastCard

/-- THE TIED CARD OF 'tributarylaw08.EventTells'. -/
def eventTellsCard : Claim7 := { stood := { row := eventTellsRow, standIns := [], harness := (true, "61fee0d46340692d0b45b028838ce74e973d9d69dd9e71d33f0d1d7c6c36dfc3"), looks := false }, kinds := [], alts := [], laidByText := true, laidKinds := [.data, .pinned], laidTests := true, laidLooks := .later }
def EventTellsCardSaid : Prop := Claim7.holds Tryz.pinned (.plain (OpenSpec.ofChange eventTellsSpec)) eventTellsCard

/-- THE TIED CARD OF 'tributarylaw08.EventReads'. -/
def eventReadsCard : Claim7 := { stood := { row := eventReadsRow, standIns := [], harness := (true, "61fee0d46340692d0b45b028838ce74e973d9d69dd9e71d33f0d1d7c6c36dfc3"), looks := false }, kinds := [], alts := [], laidByText := true, laidKinds := [.data, .pinned], laidTests := true, laidLooks := .later }
def EventReadsCardSaid : Prop := Claim7.holds Tryz.pinned (.plain (OpenSpec.ofChange eventReadsSpec)) eventReadsCard

/-- THE TIED CARD OF 'tributarylaw08.EventKnown'. -/
def eventKnownCard : Claim7 := { stood := { row := eventKnownRow, standIns := [], harness := (true, "61fee0d46340692d0b45b028838ce74e973d9d69dd9e71d33f0d1d7c6c36dfc3"), looks := false }, kinds := [], alts := [], laidByText := true, laidKinds := [.data, .pinned], laidTests := true, laidLooks := .later }
def EventKnownCardSaid : Prop := Claim7.holds Tryz.pinned (.plain (OpenSpec.ofChange eventKnownSpec)) eventKnownCard

/-- THE TIED CARD OF 'tributarylaw08.EventBack'. -/
def eventBackCard : Claim7 := { stood := { row := eventBackRow, standIns := [], harness := (true, "61fee0d46340692d0b45b028838ce74e973d9d69dd9e71d33f0d1d7c6c36dfc3"), looks := false }, kinds := [], alts := [], laidByText := true, laidKinds := [.data, .pinned], laidTests := true, laidLooks := .later }
def EventBackCardSaid : Prop := Claim7.holds Tryz.pinned (.plain (OpenSpec.ofChange eventBackSpec)) eventBackCard

/-- THE SECOND FORM's CARD OF 'tributarylaw21.SpoolScript'. -/
def spoolScriptUptoCard : Claim7 := { stood := { row := spoolScriptUptoRow, standIns := [], harness := (true, "61fee0d46340692d0b45b028838ce74e973d9d69dd9e71d33f0d1d7c6c36dfc3"), looks := false }, kinds := [], alts := [], laidByText := true, laidKinds := [.data, .pinned], laidTests := true, laidLooks := .later }
def SpoolScriptUptoCardSaid : Prop := Claim7.holds Tryz.pinned (.plain (OpenSpec.upto spoolScriptSpec)) spoolScriptUptoCard

/-- THE SECOND FORM's CARD OF 'tributarylaw21.SpoolRoom'. -/
def spoolRoomUptoCard : Claim7 := { stood := { row := spoolRoomUptoRow, standIns := [], harness := (true, "61fee0d46340692d0b45b028838ce74e973d9d69dd9e71d33f0d1d7c6c36dfc3"), looks := false }, kinds := [], alts := [], laidByText := true, laidKinds := [.data, .pinned], laidTests := true, laidLooks := .later }
def SpoolRoomUptoCardSaid : Prop := Claim7.holds Tryz.pinned (.plain (OpenSpec.upto spoolRoomSpec)) spoolRoomUptoCard

/-- THE SECOND FORM's CARD OF 'tributarylaw08.EventPast'. -/
def eventPastUptoCard : Claim7 := { stood := { row := eventPastUptoRow, standIns := [], harness := (true, "61fee0d46340692d0b45b028838ce74e973d9d69dd9e71d33f0d1d7c6c36dfc3"), looks := false }, kinds := [], alts := [], laidByText := true, laidKinds := [.data, .pinned], laidTests := true, laidLooks := .later }
def EventPastUptoCardSaid : Prop := Claim7.holds Tryz.pinned (.plain (OpenSpec.upto eventPastSpec)) eventPastUptoCard

/-- THE SECOND FORM's CARD OF 'tributarylaw08.EventTells'. -/
def eventTellsUptoCard : Claim7 := { stood := { row := eventTellsUptoRow, standIns := [], harness := (true, "61fee0d46340692d0b45b028838ce74e973d9d69dd9e71d33f0d1d7c6c36dfc3"), looks := false }, kinds := [], alts := [], laidByText := true, laidKinds := [.data, .pinned], laidTests := true, laidLooks := .later }
def EventTellsUptoCardSaid : Prop := Claim7.holds Tryz.pinned (.plain (OpenSpec.upto eventTellsSpec)) eventTellsUptoCard

/-- THE SECOND FORM's CARD OF 'tributarylaw08.EventReads'. -/
def eventReadsUptoCard : Claim7 := { stood := { row := eventReadsUptoRow, standIns := [], harness := (true, "61fee0d46340692d0b45b028838ce74e973d9d69dd9e71d33f0d1d7c6c36dfc3"), looks := false }, kinds := [], alts := [], laidByText := true, laidKinds := [.data, .pinned], laidTests := true, laidLooks := .later }
def EventReadsUptoCardSaid : Prop := Claim7.holds Tryz.pinned (.plain (OpenSpec.upto eventReadsSpec)) eventReadsUptoCard

/-- THE SECOND FORM's CARD OF 'tributarylaw08.EventKnown'. -/
def eventKnownUptoCard : Claim7 := { stood := { row := eventKnownUptoRow, standIns := [], harness := (true, "61fee0d46340692d0b45b028838ce74e973d9d69dd9e71d33f0d1d7c6c36dfc3"), looks := false }, kinds := [], alts := [], laidByText := true, laidKinds := [.data, .pinned], laidTests := true, laidLooks := .later }
def EventKnownUptoCardSaid : Prop := Claim7.holds Tryz.pinned (.plain (OpenSpec.upto eventKnownSpec)) eventKnownUptoCard

/-- THE SECOND FORM's CARD OF 'tributarylaw08.EventBack'. -/
def eventBackUptoCard : Claim7 := { stood := { row := eventBackUptoRow, standIns := [], harness := (true, "61fee0d46340692d0b45b028838ce74e973d9d69dd9e71d33f0d1d7c6c36dfc3"), looks := false }, kinds := [], alts := [], laidByText := true, laidKinds := [.data, .pinned], laidTests := true, laidLooks := .later }
def EventBackUptoCardSaid : Prop := Claim7.holds Tryz.pinned (.plain (OpenSpec.upto eventBackSpec)) eventBackUptoCard
end Rows
end Go.Proofs.YtmgmbdnhodicjaaGreatDoor
