/-
  DERIVED. GIVEN WITH THE SEED: THE CARDS: each row of YtljfaogegcidgaaGreatDoorRows.lean that lists a variable, with what it lists TIED to the program's text (the seventh form; the later family's looks); each row that meets fmt, with fmt's text TOLD by the authors' own Lean function (tested against real Go, not proved from fmt's source: count such statements apart). THE CARD IS WHAT COUNTS. Prove the row's statement (the work); the ties are given (YtljfaogegcidgaaGreatDoorTie.lean); close each card by the builder's one call (the guide's Derived/Test/ToyasCard.lean, 'card_holds'). Laid BY PROGRAM, IN A SANDBOX (cutbox-door.mjs). By AI agents, Wed Nov 11 2026. No macro, syntax, notation, axiom, sorry.
-/
import Derived.Test.YtljfaogegcidgaaGreatDoorRows
import GoSem.ClaimSeven
namespace Go.Proofs.YtljfaogegcidgaaGreatDoor
namespace Rows

/-- THE TIED CARD OF 'footbridgelaw18.OutboxNone'. -/
def outboxNoneCard : Claim7 := { stood := { row := outboxNoneRow, standIns := [], harness := (true, "a20b79baa1641adbc9d5b01d2a2702bb2f196d6a9e62eb33fd71c65e4a2a1f1f"), looks := true }, kinds := [], alts := [], laidByText := true, laidKinds := [.data, .handle, .pinned], laidTests := true, laidLooks := .later }
def OutboxNoneCardSaid : Prop := Claim7.holds Tryz.pinned (.plain (OpenSpec.ofChange outboxNoneSpec)) outboxNoneCard

/-- THE TIED CARD OF 'footbridgelaw19.InboxNone'. -/
def inboxNoneCard : Claim7 := { stood := { row := inboxNoneRow, standIns := [], harness := (true, "a20b79baa1641adbc9d5b01d2a2702bb2f196d6a9e62eb33fd71c65e4a2a1f1f"), looks := true }, kinds := [], alts := [], laidByText := true, laidKinds := [.data, .handle, .pinned], laidTests := true, laidLooks := .later }
def InboxNoneCardSaid : Prop := Claim7.holds Tryz.pinned (.plain (OpenSpec.ofChange inboxNoneSpec)) inboxNoneCard

/-- THE TIED CARD OF 'footbridgelaw21.TimeoutPassed'. -/
def timeoutPassedCard : Claim7 := { stood := { row := timeoutPassedRow, standIns := [], harness := (true, "a20b79baa1641adbc9d5b01d2a2702bb2f196d6a9e62eb33fd71c65e4a2a1f1f"), looks := true }, kinds := [], alts := [], laidByText := true, laidKinds := [.data, .handle, .pinned], laidTests := true, laidLooks := .later }
def TimeoutPassedCardSaid : Prop := Claim7.holds Tryz.pinned (.plain (OpenSpec.ofChange timeoutPassedSpec)) timeoutPassedCard

/-- THE TIED CARD OF 'footbridgelaw21.TimeoutNone'. -/
def timeoutNoneCard : Claim7 := { stood := { row := timeoutNoneRow, standIns := [], harness := (true, "a20b79baa1641adbc9d5b01d2a2702bb2f196d6a9e62eb33fd71c65e4a2a1f1f"), looks := true }, kinds := [], alts := [], laidByText := true, laidKinds := [.data, .handle, .pinned], laidTests := true, laidLooks := .later }
def TimeoutNoneCardSaid : Prop := Claim7.holds Tryz.pinned (.plain (OpenSpec.ofChange timeoutNoneSpec)) timeoutNoneCard

/-- THE SECOND FORM's CARD OF 'footbridgelaw18.OutboxNone'. -/
def outboxNoneUptoCard : Claim7 := { stood := { row := outboxNoneUptoRow, standIns := [], harness := (true, "a20b79baa1641adbc9d5b01d2a2702bb2f196d6a9e62eb33fd71c65e4a2a1f1f"), looks := true }, kinds := [], alts := [], laidByText := true, laidKinds := [.data, .handle, .pinned], laidTests := true, laidLooks := .later }
def OutboxNoneUptoCardSaid : Prop := Claim7.holds Tryz.pinned (.plain (OpenSpec.upto outboxNoneSpec)) outboxNoneUptoCard

/-- THE SECOND FORM's CARD OF 'footbridgelaw19.InboxNone'. -/
def inboxNoneUptoCard : Claim7 := { stood := { row := inboxNoneUptoRow, standIns := [], harness := (true, "a20b79baa1641adbc9d5b01d2a2702bb2f196d6a9e62eb33fd71c65e4a2a1f1f"), looks := true }, kinds := [], alts := [], laidByText := true, laidKinds := [.data, .handle, .pinned], laidTests := true, laidLooks := .later }
def InboxNoneUptoCardSaid : Prop := Claim7.holds Tryz.pinned (.plain (OpenSpec.upto inboxNoneSpec)) inboxNoneUptoCard

/-- THE SECOND FORM's CARD OF 'footbridgelaw21.TimeoutPassed'. -/
def timeoutPassedUptoCard : Claim7 := { stood := { row := timeoutPassedUptoRow, standIns := [], harness := (true, "a20b79baa1641adbc9d5b01d2a2702bb2f196d6a9e62eb33fd71c65e4a2a1f1f"), looks := true }, kinds := [], alts := [], laidByText := true, laidKinds := [.data, .handle, .pinned], laidTests := true, laidLooks := .later }
def TimeoutPassedUptoCardSaid : Prop := Claim7.holds Tryz.pinned (.plain (OpenSpec.upto timeoutPassedSpec)) timeoutPassedUptoCard

/-- THE SECOND FORM's CARD OF 'footbridgelaw21.TimeoutNone'. -/
def timeoutNoneUptoCard : Claim7 := { stood := { row := timeoutNoneUptoRow, standIns := [], harness := (true, "a20b79baa1641adbc9d5b01d2a2702bb2f196d6a9e62eb33fd71c65e4a2a1f1f"), looks := true }, kinds := [], alts := [], laidByText := true, laidKinds := [.data, .handle, .pinned], laidTests := true, laidLooks := .later }
def TimeoutNoneUptoCardSaid : Prop := Claim7.holds Tryz.pinned (.plain (OpenSpec.upto timeoutNoneSpec)) timeoutNoneUptoCard
end Rows
end Go.Proofs.YtljfaogegcidgaaGreatDoor
