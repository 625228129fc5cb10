/-
  DERIVED. GIVEN WITH THE SEED: THE CARDS: each row of YtkokdeenniejjaaDoorRows.lean that lists a variable, with what it lists TIED to the program's text (the seventh form; the later family's looks); each row that meets fmt, with fmt's text TOLD by the authors' own Lean function (tested against real Go, not proved from fmt's source: count such statements apart). THE CARD IS WHAT COUNTS. Prove the row's statement (the work); the ties are given (YtkokdeenniejjaaDoorTie.lean); close each card by the builder's one call (the guide's Derived/Test/ToyasCard.lean, 'card_holds'). Laid BY PROGRAM, IN A SANDBOX (cutbox-door.mjs). By AI agents, Wed Nov 11 2026. No macro, syntax, notation, axiom, sorry.
-/
import Derived.Test.YtkokdeenniejjaaDoorRows
import GoSem.ClaimSeven
namespace Go.Proofs.YtkokdeenniejjaaDoor
namespace Rows

/-- THE TIED CARD OF 'latchgarthlaw4.SemPlays'. -/
def semPlaysCard : Claim7 := { stood := { row := semPlaysRow, standIns := [], harness := (true, "a60891dbf1a9572fb153593946f30f631a613fe0f8e0f8b412e5ff270cf5db10"), looks := true }, kinds := [], alts := [], laidByText := true, laidKinds := [.handle], laidTests := true, laidLooks := .later }
def SemPlaysCardSaid : Prop := Claim7.holds Tryd.pinned (.plain (OpenSpec.ofChange semPlaysSpec)) semPlaysCard

/-- THE TIED CARD OF 'latchgarthlaw4.PmemPlays'. -/
def pmemPlaysCard : Claim7 := { stood := { row := pmemPlaysRow, standIns := [], harness := (true, "a60891dbf1a9572fb153593946f30f631a613fe0f8e0f8b412e5ff270cf5db10"), looks := true }, kinds := [], alts := [], laidByText := true, laidKinds := [.handle], laidTests := true, laidLooks := .later }
def PmemPlaysCardSaid : Prop := Claim7.holds Tryd.pinned (.plain (OpenSpec.ofChange pmemPlaysSpec)) pmemPlaysCard

/-- THE TIED CARD OF 'latchgarthlaw4.RwPlays'. -/
def rwPlaysCard : Claim7 := { stood := { row := rwPlaysRow, standIns := [], harness := (true, "a60891dbf1a9572fb153593946f30f631a613fe0f8e0f8b412e5ff270cf5db10"), looks := true }, kinds := [], alts := [], laidByText := true, laidKinds := [.handle], laidTests := true, laidLooks := .later }
def RwPlaysCardSaid : Prop := Claim7.holds Tryd.pinned (.plain (OpenSpec.ofChange rwPlaysSpec)) rwPlaysCard

/-- THE SECOND FORM's CARD OF 'latchgarthlaw4.SemPlays'. -/
def semPlaysUptoCard : Claim7 := { stood := { row := semPlaysUptoRow, standIns := [], harness := (true, "a60891dbf1a9572fb153593946f30f631a613fe0f8e0f8b412e5ff270cf5db10"), looks := true }, kinds := [], alts := [], laidByText := true, laidKinds := [.handle], laidTests := true, laidLooks := .later }
def SemPlaysUptoCardSaid : Prop := Claim7.holds Tryd.pinned (.plain (OpenSpec.upto semPlaysSpec)) semPlaysUptoCard

/-- THE SECOND FORM's CARD OF 'latchgarthlaw4.PmemPlays'. -/
def pmemPlaysUptoCard : Claim7 := { stood := { row := pmemPlaysUptoRow, standIns := [], harness := (true, "a60891dbf1a9572fb153593946f30f631a613fe0f8e0f8b412e5ff270cf5db10"), looks := true }, kinds := [], alts := [], laidByText := true, laidKinds := [.handle], laidTests := true, laidLooks := .later }
def PmemPlaysUptoCardSaid : Prop := Claim7.holds Tryd.pinned (.plain (OpenSpec.upto pmemPlaysSpec)) pmemPlaysUptoCard

/-- THE SECOND FORM's CARD OF 'latchgarthlaw4.RwPlays'. -/
def rwPlaysUptoCard : Claim7 := { stood := { row := rwPlaysUptoRow, standIns := [], harness := (true, "a60891dbf1a9572fb153593946f30f631a613fe0f8e0f8b412e5ff270cf5db10"), looks := true }, kinds := [], alts := [], laidByText := true, laidKinds := [.handle], laidTests := true, laidLooks := .later }
def RwPlaysUptoCardSaid : Prop := Claim7.holds Tryd.pinned (.plain (OpenSpec.upto rwPlaysSpec)) rwPlaysUptoCard
end Rows
end Go.Proofs.YtkokdeenniejjaaDoor
