/-
  DERIVED. GIVEN WITH THE SEED: THE CARDS: each row of YtnecppjgcbhnaaaDoorRows.lean that lists a variable, with what it lists TIED to the program's text (the seventh form; the later family's looks); each row that meets fmt, with fmt's text TOLD by the authors' own Lean function (tested against real Go, not proved from fmt's source: count such statements apart). THE CARD IS WHAT COUNTS. Prove the row's statement (the work); the ties are given (YtnecppjgcbhnaaaDoorTie.lean); close each card by the builder's one call (the guide's Derived/Test/ToyasCard.lean, 'card_holds'). Laid BY PROGRAM, IN A SANDBOX (cutbox-door.mjs). By AI agents, Wed Nov 11 2026. No macro, syntax, notation, axiom, sorry.
-/
import Derived.Test.YtnecppjgcbhnaaaDoorRows
import GoSem.ClaimSeven
namespace Go.Proofs.YtnecppjgcbhnaaaDoor
namespace Rows

/-- THE TIED CARD OF 'latchgarthlaw3.RingPlays'. -/
def ringPlaysCard : Claim7 := { stood := { row := ringPlaysRow, standIns := [], harness := (true, "9e06fcbbf5ca29e1ddd194e0fd52c273b025d95af8eae89b74e1dc479c3a673c"), looks := true }, kinds := [], alts := [], laidByText := true, laidKinds := [.handle], laidTests := true, laidLooks := .later }
def RingPlaysCardSaid : Prop := Claim7.holds Tryd.pinned (.plain (OpenSpec.ofChange ringPlaysSpec)) ringPlaysCard

/-- THE TIED CARD OF 'latchgarthlaw3.UnivPlays'. -/
def univPlaysCard : Claim7 := { stood := { row := univPlaysRow, standIns := [], harness := (true, "9e06fcbbf5ca29e1ddd194e0fd52c273b025d95af8eae89b74e1dc479c3a673c"), looks := true }, kinds := [], alts := [], laidByText := true, laidKinds := [.handle], laidTests := true, laidLooks := .later }
def UnivPlaysCardSaid : Prop := Claim7.holds Tryd.pinned (.plain (OpenSpec.ofChange univPlaysSpec)) univPlaysCard

/-- THE TIED CARD OF 'latchgarthlaw3.SnapPlays'. -/
def snapPlaysCard : Claim7 := { stood := { row := snapPlaysRow, standIns := [], harness := (true, "9e06fcbbf5ca29e1ddd194e0fd52c273b025d95af8eae89b74e1dc479c3a673c"), looks := true }, kinds := [], alts := [], laidByText := true, laidKinds := [.handle], laidTests := true, laidLooks := .later }
def SnapPlaysCardSaid : Prop := Claim7.holds Tryd.pinned (.plain (OpenSpec.ofChange snapPlaysSpec)) snapPlaysCard

/-- THE SECOND FORM's CARD OF 'latchgarthlaw3.RingPlays'. -/
def ringPlaysUptoCard : Claim7 := { stood := { row := ringPlaysUptoRow, standIns := [], harness := (true, "9e06fcbbf5ca29e1ddd194e0fd52c273b025d95af8eae89b74e1dc479c3a673c"), looks := true }, kinds := [], alts := [], laidByText := true, laidKinds := [.handle], laidTests := true, laidLooks := .later }
def RingPlaysUptoCardSaid : Prop := Claim7.holds Tryd.pinned (.plain (OpenSpec.upto ringPlaysSpec)) ringPlaysUptoCard

/-- THE SECOND FORM's CARD OF 'latchgarthlaw3.UnivPlays'. -/
def univPlaysUptoCard : Claim7 := { stood := { row := univPlaysUptoRow, standIns := [], harness := (true, "9e06fcbbf5ca29e1ddd194e0fd52c273b025d95af8eae89b74e1dc479c3a673c"), looks := true }, kinds := [], alts := [], laidByText := true, laidKinds := [.handle], laidTests := true, laidLooks := .later }
def UnivPlaysUptoCardSaid : Prop := Claim7.holds Tryd.pinned (.plain (OpenSpec.upto univPlaysSpec)) univPlaysUptoCard

/-- THE SECOND FORM's CARD OF 'latchgarthlaw3.SnapPlays'. -/
def snapPlaysUptoCard : Claim7 := { stood := { row := snapPlaysUptoRow, standIns := [], harness := (true, "9e06fcbbf5ca29e1ddd194e0fd52c273b025d95af8eae89b74e1dc479c3a673c"), looks := true }, kinds := [], alts := [], laidByText := true, laidKinds := [.handle], laidTests := true, laidLooks := .later }
def SnapPlaysUptoCardSaid : Prop := Claim7.holds Tryd.pinned (.plain (OpenSpec.upto snapPlaysSpec)) snapPlaysUptoCard
end Rows
end Go.Proofs.YtnecppjgcbhnaaaDoor
