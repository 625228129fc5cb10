/-
  DERIVED. GIVEN WITH THE SEED: THE CARDS: each row of YtnepjdobknjecaaDoorRows.lean that lists a variable, with what it lists TIED to the program's text (the seventh form; the later family's looks); each row that meets fmt, with fmt's text TOLD by the authors' own Lean function (tested against real Go, not proved from fmt's source: count such statements apart). THE CARD IS WHAT COUNTS. Prove the row's statement (the work); the ties are given (YtnepjdobknjecaaDoorTie.lean); close each card by the builder's one call (the guide's Derived/Test/ToyasCard.lean, 'card_holds'). Laid BY PROGRAM, IN A SANDBOX (cutbox-door.mjs). By AI agents, Wed Nov 11 2026. No macro, syntax, notation, axiom, sorry.
-/
import Derived.Test.YtnepjdobknjecaaDoorRows
import GoSem.ClaimSeven
namespace Go.Proofs.YtnepjdobknjecaaDoor
namespace Rows

/-- THE TIED CARD OF 'latchgarthlaw4.BankRow'. -/
def bankRowCard : Claim7 := { stood := { row := bankRowRow, standIns := [], harness := (true, "27ddb6fc09db89ebbb849760d2e5dcac0e7f93f841e7d547968be333af5f8e88"), looks := true }, kinds := [], alts := [], laidByText := true, laidKinds := [.handle], laidTests := true, laidLooks := .later }
def BankRowCardSaid : Prop := Claim7.holds Tryd.pinned (.plain (OpenSpec.ofChange bankRowSpec)) bankRowCard

/-- THE TIED CARD OF 'latchgarthlaw4.BankMore'. -/
def bankMoreCard : Claim7 := { stood := { row := bankMoreRow, standIns := [], harness := (true, "27ddb6fc09db89ebbb849760d2e5dcac0e7f93f841e7d547968be333af5f8e88"), looks := true }, kinds := [], alts := [], laidByText := true, laidKinds := [.handle], laidTests := true, laidLooks := .later }
def BankMoreCardSaid : Prop := Claim7.holds Tryd.pinned (.plain (OpenSpec.ofChange bankMoreSpec)) bankMoreCard

/-- THE TIED CARD OF 'latchgarthlaw4.BankSays'. -/
def bankSaysCard : Claim7 := { stood := { row := bankSaysRow, standIns := [], harness := (true, "27ddb6fc09db89ebbb849760d2e5dcac0e7f93f841e7d547968be333af5f8e88"), looks := true }, kinds := [], alts := [], laidByText := true, laidKinds := [.handle], laidTests := true, laidLooks := .later }
def BankSaysCardSaid : Prop := Claim7.holds Tryd.pinned (.plain (OpenSpec.ofChange bankSaysSpec)) bankSaysCard

/-- THE TIED CARD OF 'latchgarthlaw4.BankKeeps'. -/
def bankKeepsCard : Claim7 := { stood := { row := bankKeepsRow, standIns := [], harness := (true, "27ddb6fc09db89ebbb849760d2e5dcac0e7f93f841e7d547968be333af5f8e88"), looks := true }, kinds := [], alts := [], laidByText := true, laidKinds := [.handle], laidTests := true, laidLooks := .later }
def BankKeepsCardSaid : Prop := Claim7.holds Tryd.pinned (.plain (OpenSpec.ofChange bankKeepsSpec)) bankKeepsCard

/-- THE TIED CARD OF 'latchgarthlaw4.LinSays'. -/
def linSaysCard : Claim7 := { stood := { row := linSaysRow, standIns := [], harness := (true, "27ddb6fc09db89ebbb849760d2e5dcac0e7f93f841e7d547968be333af5f8e88"), looks := true }, kinds := [], alts := [], laidByText := true, laidKinds := [.handle], laidTests := true, laidLooks := .later }
def LinSaysCardSaid : Prop := Claim7.holds Tryd.pinned (.plain (OpenSpec.ofChange linSaysSpec)) linSaysCard

/-- THE TIED CARD OF 'latchgarthlaw4.LinWide'. -/
def linWideCard : Claim7 := { stood := { row := linWideRow, standIns := [], harness := (true, "27ddb6fc09db89ebbb849760d2e5dcac0e7f93f841e7d547968be333af5f8e88"), looks := true }, kinds := [], alts := [], laidByText := true, laidKinds := [.handle], laidTests := true, laidLooks := .later }
def LinWideCardSaid : Prop := Claim7.holds Tryd.pinned (.plain (OpenSpec.ofChange linWideSpec)) linWideCard

/-- THE SECOND FORM's CARD OF 'latchgarthlaw4.BankRow'. -/
def bankRowUptoCard : Claim7 := { stood := { row := bankRowUptoRow, standIns := [], harness := (true, "27ddb6fc09db89ebbb849760d2e5dcac0e7f93f841e7d547968be333af5f8e88"), looks := true }, kinds := [], alts := [], laidByText := true, laidKinds := [.handle], laidTests := true, laidLooks := .later }
def BankRowUptoCardSaid : Prop := Claim7.holds Tryd.pinned (.plain (OpenSpec.upto bankRowSpec)) bankRowUptoCard

/-- THE SECOND FORM's CARD OF 'latchgarthlaw4.BankMore'. -/
def bankMoreUptoCard : Claim7 := { stood := { row := bankMoreUptoRow, standIns := [], harness := (true, "27ddb6fc09db89ebbb849760d2e5dcac0e7f93f841e7d547968be333af5f8e88"), looks := true }, kinds := [], alts := [], laidByText := true, laidKinds := [.handle], laidTests := true, laidLooks := .later }
def BankMoreUptoCardSaid : Prop := Claim7.holds Tryd.pinned (.plain (OpenSpec.upto bankMoreSpec)) bankMoreUptoCard

/-- THE SECOND FORM's CARD OF 'latchgarthlaw4.BankSays'. -/
def bankSaysUptoCard : Claim7 := { stood := { row := bankSaysUptoRow, standIns := [], harness := (true, "27ddb6fc09db89ebbb849760d2e5dcac0e7f93f841e7d547968be333af5f8e88"), looks := true }, kinds := [], alts := [], laidByText := true, laidKinds := [.handle], laidTests := true, laidLooks := .later }
def BankSaysUptoCardSaid : Prop := Claim7.holds Tryd.pinned (.plain (OpenSpec.upto bankSaysSpec)) bankSaysUptoCard

/-- THE SECOND FORM's CARD OF 'latchgarthlaw4.BankKeeps'. -/
def bankKeepsUptoCard : Claim7 := { stood := { row := bankKeepsUptoRow, standIns := [], harness := (true, "27ddb6fc09db89ebbb849760d2e5dcac0e7f93f841e7d547968be333af5f8e88"), looks := true }, kinds := [], alts := [], laidByText := true, laidKinds := [.handle], laidTests := true, laidLooks := .later }
def BankKeepsUptoCardSaid : Prop := Claim7.holds Tryd.pinned (.plain (OpenSpec.upto bankKeepsSpec)) bankKeepsUptoCard

/-- THE SECOND FORM's CARD OF 'latchgarthlaw4.LinSays'. -/
def linSaysUptoCard : Claim7 := { stood := { row := linSaysUptoRow, standIns := [], harness := (true, "27ddb6fc09db89ebbb849760d2e5dcac0e7f93f841e7d547968be333af5f8e88"), looks := true }, kinds := [], alts := [], laidByText := true, laidKinds := [.handle], laidTests := true, laidLooks := .later }
def LinSaysUptoCardSaid : Prop := Claim7.holds Tryd.pinned (.plain (OpenSpec.upto linSaysSpec)) linSaysUptoCard

/-- THE SECOND FORM's CARD OF 'latchgarthlaw4.LinWide'. -/
def linWideUptoCard : Claim7 := { stood := { row := linWideUptoRow, standIns := [], harness := (true, "27ddb6fc09db89ebbb849760d2e5dcac0e7f93f841e7d547968be333af5f8e88"), looks := true }, kinds := [], alts := [], laidByText := true, laidKinds := [.handle], laidTests := true, laidLooks := .later }
def LinWideUptoCardSaid : Prop := Claim7.holds Tryd.pinned (.plain (OpenSpec.upto linWideSpec)) linWideUptoCard
end Rows
end Go.Proofs.YtnepjdobknjecaaDoor
