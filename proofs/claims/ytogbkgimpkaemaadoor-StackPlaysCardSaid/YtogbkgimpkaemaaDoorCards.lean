/-
  DERIVED. GIVEN WITH THE SEED: THE CARDS: each row of YtogbkgimpkaemaaDoorRows.lean that lists a variable, with what it lists TIED to the program's text (the seventh form; the later family's looks); each row that meets fmt, with fmt's text TOLD by the authors' own Lean function (tested against real Go, not proved from fmt's source: count such statements apart). THE CARD IS WHAT COUNTS. Prove the row's statement (the work); the ties are given (YtogbkgimpkaemaaDoorTie.lean); close each card by the builder's one call (the guide's Derived/Test/ToyasCard.lean, 'card_holds'). Laid BY PROGRAM, IN A SANDBOX (cutbox-door.mjs). By AI agents, Wed Nov 11 2026. No macro, syntax, notation, axiom, sorry.
-/
import Derived.Test.YtogbkgimpkaemaaDoorRows
import GoSem.ClaimSeven
namespace Go.Proofs.YtogbkgimpkaemaaDoor
namespace Rows

/-- THE TIED CARD OF 'latchgarthlaw3.StackPlays'. -/
def stackPlaysCard : Claim7 := { stood := { row := stackPlaysRow, standIns := [], harness := (true, "bfc9769c4cc012023695e9edf369c2020e5714e498ba9a0f2c4959fbef07456c"), looks := true }, kinds := [], alts := [], laidByText := true, laidKinds := [.handle], laidTests := true, laidLooks := .later }
def StackPlaysCardSaid : Prop := Claim7.holds Tryd.pinned (.plain (OpenSpec.ofChange stackPlaysSpec)) stackPlaysCard

/-- THE TIED CARD OF 'latchgarthlaw3.FifoPlays'. -/
def fifoPlaysCard : Claim7 := { stood := { row := fifoPlaysRow, standIns := [], harness := (true, "bfc9769c4cc012023695e9edf369c2020e5714e498ba9a0f2c4959fbef07456c"), looks := true }, kinds := [], alts := [], laidByText := true, laidKinds := [.handle], laidTests := true, laidLooks := .later }
def FifoPlaysCardSaid : Prop := Claim7.holds Tryd.pinned (.plain (OpenSpec.ofChange fifoPlaysSpec)) fifoPlaysCard

/-- THE SECOND FORM's CARD OF 'latchgarthlaw3.StackPlays'. -/
def stackPlaysUptoCard : Claim7 := { stood := { row := stackPlaysUptoRow, standIns := [], harness := (true, "bfc9769c4cc012023695e9edf369c2020e5714e498ba9a0f2c4959fbef07456c"), looks := true }, kinds := [], alts := [], laidByText := true, laidKinds := [.handle], laidTests := true, laidLooks := .later }
def StackPlaysUptoCardSaid : Prop := Claim7.holds Tryd.pinned (.plain (OpenSpec.upto stackPlaysSpec)) stackPlaysUptoCard

/-- THE SECOND FORM's CARD OF 'latchgarthlaw3.FifoPlays'. -/
def fifoPlaysUptoCard : Claim7 := { stood := { row := fifoPlaysUptoRow, standIns := [], harness := (true, "bfc9769c4cc012023695e9edf369c2020e5714e498ba9a0f2c4959fbef07456c"), looks := true }, kinds := [], alts := [], laidByText := true, laidKinds := [.handle], laidTests := true, laidLooks := .later }
def FifoPlaysUptoCardSaid : Prop := Claim7.holds Tryd.pinned (.plain (OpenSpec.upto fifoPlaysSpec)) fifoPlaysUptoCard
end Rows
end Go.Proofs.YtogbkgimpkaemaaDoor
