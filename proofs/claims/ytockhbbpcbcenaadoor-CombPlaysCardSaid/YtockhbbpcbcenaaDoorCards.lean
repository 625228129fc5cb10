/-
  DERIVED. GIVEN WITH THE SEED: THE CARDS: each row of YtockhbbpcbcenaaDoorRows.lean that lists a variable, with what it lists TIED to the program's text (the seventh form; the later family's looks); each row that meets fmt, with fmt's text TOLD by the authors' own Lean function (tested against real Go, not proved from fmt's source: count such statements apart). THE CARD IS WHAT COUNTS. Prove the row's statement (the work); the ties are given (YtockhbbpcbcenaaDoorTie.lean); close each card by the builder's one call (the guide's Derived/Test/ToyasCard.lean, 'card_holds'). Laid BY PROGRAM, IN A SANDBOX (cutbox-door.mjs). By AI agents, Wed Nov 11 2026. No macro, syntax, notation, axiom, sorry.
-/
import Derived.Test.YtockhbbpcbcenaaDoorRows
import GoSem.ClaimSeven
namespace Go.Proofs.YtockhbbpcbcenaaDoor
namespace Rows

/-- THE TIED CARD OF 'latchgarthlaw4.CombPlays'. -/
def combPlaysCard : Claim7 := { stood := { row := combPlaysRow, standIns := [], harness := (true, "0d1b459199a698e7ecd5a7206727f9c7203956ba5beb46ee92475fce4ad8b3b8"), looks := true }, kinds := [], alts := [], laidByText := true, laidKinds := [.handle], laidTests := true, laidLooks := .later }
def CombPlaysCardSaid : Prop := Claim7.holds Tryd.pinned (.plain (OpenSpec.ofChange combPlaysSpec)) combPlaysCard

/-- THE SECOND FORM's CARD OF 'latchgarthlaw4.CombPlays'. -/
def combPlaysUptoCard : Claim7 := { stood := { row := combPlaysUptoRow, standIns := [], harness := (true, "0d1b459199a698e7ecd5a7206727f9c7203956ba5beb46ee92475fce4ad8b3b8"), looks := true }, kinds := [], alts := [], laidByText := true, laidKinds := [.handle], laidTests := true, laidLooks := .later }
def CombPlaysUptoCardSaid : Prop := Claim7.holds Tryd.pinned (.plain (OpenSpec.upto combPlaysSpec)) combPlaysUptoCard
end Rows
end Go.Proofs.YtockhbbpcbcenaaDoor
