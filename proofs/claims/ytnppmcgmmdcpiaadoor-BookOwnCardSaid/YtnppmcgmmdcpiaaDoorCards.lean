/-
  DERIVED. GIVEN WITH THE SEED: THE CARDS: each row of YtnppmcgmmdcpiaaDoorRows.lean that lists a variable, with what it lists TIED to the program's text (the seventh form; the later family's looks); each row that meets fmt, with fmt's text TOLD by the authors' own Lean function (tested against real Go, not proved from fmt's source: count such statements apart). THE CARD IS WHAT COUNTS. Prove the row's statement (the work); the ties are given (YtnppmcgmmdcpiaaDoorTie.lean); close each card by the builder's one call (the guide's Derived/Test/ToyasCard.lean, 'card_holds'). Laid BY PROGRAM, IN A SANDBOX (cutbox-door.mjs). By AI agents, Wed Nov 11 2026. No macro, syntax, notation, axiom, sorry.
-/
import Derived.Test.YtnppmcgmmdcpiaaDoorRows
import GoSem.ClaimSeven
namespace Go.Proofs.YtnppmcgmmdcpiaaDoor
namespace Rows

/-- THE TIED CARD OF 'latchgarthlaw6.BookOwn'. -/
def bookOwnCard : Claim7 := { stood := { row := bookOwnRow, standIns := [], harness := (true, "f0bbe83b7b6bb408e8c8dee01899846a7dc82d1ddc8745ae51c7f43222002459"), looks := true }, kinds := [], alts := [], laidByText := true, laidKinds := [.data, .data, .data, .handle], laidTests := true, laidLooks := .later }
def BookOwnCardSaid : Prop := Claim7.holds Tryd.pinned (.plain (OpenSpec.ofChange bookOwnSpec)) bookOwnCard

/-- THE TIED CARD OF 'latchgarthlaw6.BookPlays'. -/
def bookPlaysCard : Claim7 := { stood := { row := bookPlaysRow, standIns := [], harness := (true, "f0bbe83b7b6bb408e8c8dee01899846a7dc82d1ddc8745ae51c7f43222002459"), looks := true }, kinds := [], alts := [], laidByText := true, laidKinds := [.data, .data, .data, .handle], laidTests := true, laidLooks := .later }
def BookPlaysCardSaid : Prop := Claim7.holds Tryd.pinned (.plain (OpenSpec.ofChange bookPlaysSpec)) bookPlaysCard

/-- THE SECOND FORM's CARD OF 'latchgarthlaw6.BookOwn'. -/
def bookOwnUptoCard : Claim7 := { stood := { row := bookOwnUptoRow, standIns := [], harness := (true, "f0bbe83b7b6bb408e8c8dee01899846a7dc82d1ddc8745ae51c7f43222002459"), looks := true }, kinds := [], alts := [], laidByText := true, laidKinds := [.data, .data, .data, .handle], laidTests := true, laidLooks := .later }
def BookOwnUptoCardSaid : Prop := Claim7.holds Tryd.pinned (.plain (OpenSpec.upto bookOwnSpec)) bookOwnUptoCard

/-- THE SECOND FORM's CARD OF 'latchgarthlaw6.BookPlays'. -/
def bookPlaysUptoCard : Claim7 := { stood := { row := bookPlaysUptoRow, standIns := [], harness := (true, "f0bbe83b7b6bb408e8c8dee01899846a7dc82d1ddc8745ae51c7f43222002459"), looks := true }, kinds := [], alts := [], laidByText := true, laidKinds := [.data, .data, .data, .handle], laidTests := true, laidLooks := .later }
def BookPlaysUptoCardSaid : Prop := Claim7.holds Tryd.pinned (.plain (OpenSpec.upto bookPlaysSpec)) bookPlaysUptoCard
end Rows
end Go.Proofs.YtnppmcgmmdcpiaaDoor
