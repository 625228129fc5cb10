/-
  DERIVED. GIVEN WITH THE SEED: THE CARDS: each row of YtnppmcgmmdcpiaaGreatDoorRows.lean that lists a variable, with what it lists TIED to the program's text (the seventh form; the later family's looks); each row that meets fmt, with fmt's text TOLD by the authors' own Lean function (tested against real Go, not proved from fmt's source: count such statements apart). THE CARD IS WHAT COUNTS. Prove the row's statement (the work); the ties are given (YtnppmcgmmdcpiaaGreatDoorTie.lean); close each card by the builder's one call (the guide's Derived/Test/ToyasCard.lean, 'card_holds'). Laid BY PROGRAM, IN A SANDBOX (cutbox-door.mjs). By AI agents, Wed Nov 11 2026. No macro, syntax, notation, axiom, sorry.
-/
import Derived.Test.YtnppmcgmmdcpiaaGreatDoorRows
import GoSem.ClaimSeven
namespace Go.Proofs.YtnppmcgmmdcpiaaGreatDoor
namespace Rows

/-- THE TIED CARD OF 'latchgarthlaw6.BookTurned'. -/
def bookTurnedCard : Claim7 := { stood := { row := bookTurnedRow, standIns := [], harness := (true, "a4ae73bde6c11a6a1ebf3a1705da42e6025c827a850699f89117af0ad905a467"), looks := true }, kinds := [], alts := [], laidByText := true, laidKinds := [.data, .data, .data, .data, .handle, .sentinel, .sentinel, .pinned], laidTests := true, laidLooks := .later }
def BookTurnedCardSaid : Prop := Claim7.holds Tryz.pinned (.plain (OpenSpec.ofChange bookTurnedSpec)) bookTurnedCard

/-- THE TIED CARD OF 'latchgarthlaw6.BookOpens'. -/
def bookOpensCard : Claim7 := { stood := { row := bookOpensRow, standIns := [], harness := (true, "a4ae73bde6c11a6a1ebf3a1705da42e6025c827a850699f89117af0ad905a467"), looks := true }, kinds := [], alts := [], laidByText := true, laidKinds := [.data, .data, .data, .data, .handle, .sentinel, .sentinel, .pinned], laidTests := true, laidLooks := .later }
def BookOpensCardSaid : Prop := Claim7.holds Tryz.pinned (.plain (OpenSpec.ofChange bookOpensSpec)) bookOpensCard

/-- THE TIED CARD OF 'latchgarthlaw6.BookAgain'. -/
def bookAgainCard : Claim7 := { stood := { row := bookAgainRow, standIns := [], harness := (true, "a4ae73bde6c11a6a1ebf3a1705da42e6025c827a850699f89117af0ad905a467"), looks := true }, kinds := [], alts := [], laidByText := true, laidKinds := [.data, .data, .data, .data, .handle, .sentinel, .sentinel, .pinned], laidTests := true, laidLooks := .later }
def BookAgainCardSaid : Prop := Claim7.holds Tryz.pinned (.plain (OpenSpec.ofChange bookAgainSpec)) bookAgainCard

/-- THE TIED CARD OF 'latchgarthlaw6.DeskAnswers'. -/
def deskAnswersCard : Claim7 := { stood := { row := deskAnswersRow, standIns := [], harness := (true, "a4ae73bde6c11a6a1ebf3a1705da42e6025c827a850699f89117af0ad905a467"), looks := true }, kinds := [], alts := [], laidByText := true, laidKinds := [.data, .data, .data, .data, .handle, .sentinel, .sentinel, .pinned], laidTests := true, laidLooks := .later }
def DeskAnswersCardSaid : Prop := Claim7.holds Tryz.pinned (.plain (OpenSpec.ofChange deskAnswersSpec)) deskAnswersCard

/-- THE TIED CARD OF 'latchgarthlaw6.DeskBegins'. -/
def deskBeginsCard : Claim7 := { stood := { row := deskBeginsRow, standIns := [], harness := (true, "a4ae73bde6c11a6a1ebf3a1705da42e6025c827a850699f89117af0ad905a467"), looks := true }, kinds := [], alts := [], laidByText := true, laidKinds := [.data, .data, .data, .data, .handle, .sentinel, .sentinel, .pinned], laidTests := true, laidLooks := .later }
def DeskBeginsCardSaid : Prop := Claim7.holds Tryz.pinned (.plain (OpenSpec.ofChange deskBeginsSpec)) deskBeginsCard

/-- THE TIED CARD OF 'latchgarthlaw6.DeskLines'. -/
def deskLinesCard : Claim7 := { stood := { row := deskLinesRow, standIns := [], harness := (true, "a4ae73bde6c11a6a1ebf3a1705da42e6025c827a850699f89117af0ad905a467"), looks := true }, kinds := [], alts := [], laidByText := true, laidKinds := [.data, .data, .data, .data, .handle, .sentinel, .sentinel, .pinned], laidTests := true, laidLooks := .later }
def DeskLinesCardSaid : Prop := Claim7.holds Tryz.pinned (.plain (OpenSpec.ofChange deskLinesSpec)) deskLinesCard

/-- THE TIED CARD OF 'latchgarthlaw6.DeskSafe'. -/
def deskSafeCard : Claim7 := { stood := { row := deskSafeRow, standIns := [], harness := (true, "a4ae73bde6c11a6a1ebf3a1705da42e6025c827a850699f89117af0ad905a467"), looks := true }, kinds := [], alts := [], laidByText := true, laidKinds := [.data, .data, .data, .data, .handle, .sentinel, .sentinel, .pinned], laidTests := true, laidLooks := .later }
def DeskSafeCardSaid : Prop := Claim7.holds Tryz.pinned (.plain (OpenSpec.ofChange deskSafeSpec)) deskSafeCard

/-- THE TIED CARD OF 'latchgarthtop.TopDesk'. -/
def topDeskCard : Claim7 := { stood := { row := topDeskRow, standIns := [], harness := (true, "a4ae73bde6c11a6a1ebf3a1705da42e6025c827a850699f89117af0ad905a467"), looks := true }, kinds := [], alts := [], laidByText := true, laidKinds := [.data, .data, .data, .data, .handle, .sentinel, .sentinel, .pinned], laidTests := true, laidLooks := .later }
def TopDeskCardSaid : Prop := Claim7.holds Tryz.pinned (.plain (OpenSpec.ofChange topDeskSpec)) topDeskCard

/-- THE SECOND FORM's CARD OF 'latchgarthlaw6.BookTurned'. -/
def bookTurnedUptoCard : Claim7 := { stood := { row := bookTurnedUptoRow, standIns := [], harness := (true, "a4ae73bde6c11a6a1ebf3a1705da42e6025c827a850699f89117af0ad905a467"), looks := true }, kinds := [], alts := [], laidByText := true, laidKinds := [.data, .data, .data, .data, .handle, .sentinel, .sentinel, .pinned], laidTests := true, laidLooks := .later }
def BookTurnedUptoCardSaid : Prop := Claim7.holds Tryz.pinned (.plain (OpenSpec.upto bookTurnedSpec)) bookTurnedUptoCard

/-- THE SECOND FORM's CARD OF 'latchgarthlaw6.BookOpens'. -/
def bookOpensUptoCard : Claim7 := { stood := { row := bookOpensUptoRow, standIns := [], harness := (true, "a4ae73bde6c11a6a1ebf3a1705da42e6025c827a850699f89117af0ad905a467"), looks := true }, kinds := [], alts := [], laidByText := true, laidKinds := [.data, .data, .data, .data, .handle, .sentinel, .sentinel, .pinned], laidTests := true, laidLooks := .later }
def BookOpensUptoCardSaid : Prop := Claim7.holds Tryz.pinned (.plain (OpenSpec.upto bookOpensSpec)) bookOpensUptoCard

/-- THE SECOND FORM's CARD OF 'latchgarthlaw6.BookAgain'. -/
def bookAgainUptoCard : Claim7 := { stood := { row := bookAgainUptoRow, standIns := [], harness := (true, "a4ae73bde6c11a6a1ebf3a1705da42e6025c827a850699f89117af0ad905a467"), looks := true }, kinds := [], alts := [], laidByText := true, laidKinds := [.data, .data, .data, .data, .handle, .sentinel, .sentinel, .pinned], laidTests := true, laidLooks := .later }
def BookAgainUptoCardSaid : Prop := Claim7.holds Tryz.pinned (.plain (OpenSpec.upto bookAgainSpec)) bookAgainUptoCard

/-- THE SECOND FORM's CARD OF 'latchgarthlaw6.DeskAnswers'. -/
def deskAnswersUptoCard : Claim7 := { stood := { row := deskAnswersUptoRow, standIns := [], harness := (true, "a4ae73bde6c11a6a1ebf3a1705da42e6025c827a850699f89117af0ad905a467"), looks := true }, kinds := [], alts := [], laidByText := true, laidKinds := [.data, .data, .data, .data, .handle, .sentinel, .sentinel, .pinned], laidTests := true, laidLooks := .later }
def DeskAnswersUptoCardSaid : Prop := Claim7.holds Tryz.pinned (.plain (OpenSpec.upto deskAnswersSpec)) deskAnswersUptoCard

/-- THE SECOND FORM's CARD OF 'latchgarthlaw6.DeskBegins'. -/
def deskBeginsUptoCard : Claim7 := { stood := { row := deskBeginsUptoRow, standIns := [], harness := (true, "a4ae73bde6c11a6a1ebf3a1705da42e6025c827a850699f89117af0ad905a467"), looks := true }, kinds := [], alts := [], laidByText := true, laidKinds := [.data, .data, .data, .data, .handle, .sentinel, .sentinel, .pinned], laidTests := true, laidLooks := .later }
def DeskBeginsUptoCardSaid : Prop := Claim7.holds Tryz.pinned (.plain (OpenSpec.upto deskBeginsSpec)) deskBeginsUptoCard

/-- THE SECOND FORM's CARD OF 'latchgarthlaw6.DeskLines'. -/
def deskLinesUptoCard : Claim7 := { stood := { row := deskLinesUptoRow, standIns := [], harness := (true, "a4ae73bde6c11a6a1ebf3a1705da42e6025c827a850699f89117af0ad905a467"), looks := true }, kinds := [], alts := [], laidByText := true, laidKinds := [.data, .data, .data, .data, .handle, .sentinel, .sentinel, .pinned], laidTests := true, laidLooks := .later }
def DeskLinesUptoCardSaid : Prop := Claim7.holds Tryz.pinned (.plain (OpenSpec.upto deskLinesSpec)) deskLinesUptoCard

/-- THE SECOND FORM's CARD OF 'latchgarthlaw6.DeskSafe'. -/
def deskSafeUptoCard : Claim7 := { stood := { row := deskSafeUptoRow, standIns := [], harness := (true, "a4ae73bde6c11a6a1ebf3a1705da42e6025c827a850699f89117af0ad905a467"), looks := true }, kinds := [], alts := [], laidByText := true, laidKinds := [.data, .data, .data, .data, .handle, .sentinel, .sentinel, .pinned], laidTests := true, laidLooks := .later }
def DeskSafeUptoCardSaid : Prop := Claim7.holds Tryz.pinned (.plain (OpenSpec.upto deskSafeSpec)) deskSafeUptoCard

/-- THE SECOND FORM's CARD OF 'latchgarthtop.TopDesk'. -/
def topDeskUptoCard : Claim7 := { stood := { row := topDeskUptoRow, standIns := [], harness := (true, "a4ae73bde6c11a6a1ebf3a1705da42e6025c827a850699f89117af0ad905a467"), looks := true }, kinds := [], alts := [], laidByText := true, laidKinds := [.data, .data, .data, .data, .handle, .sentinel, .sentinel, .pinned], laidTests := true, laidLooks := .later }
def TopDeskUptoCardSaid : Prop := Claim7.holds Tryz.pinned (.plain (OpenSpec.upto topDeskSpec)) topDeskUptoCard
end Rows
end Go.Proofs.YtnppmcgmmdcpiaaGreatDoor
