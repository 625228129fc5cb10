/-
  DERIVED. GIVEN WITH THE SEED: THE CARDS: each row of YtiaopgnnibidlaaDoorRows.lean that lists a variable, with what it lists TIED to the program's text (the seventh form; the later family's looks); each row that meets fmt, with fmt's text TOLD by the authors' own Lean function (tested against real Go, not proved from fmt's source: count such statements apart). THE CARD IS WHAT COUNTS. Prove the row's statement (the work); the ties are given (YtiaopgnnibidlaaDoorTie.lean); close each card by the builder's one call (the guide's Derived/Test/ToyasCard.lean, 'card_holds'). Laid BY PROGRAM, IN A SANDBOX (cutbox-door.mjs). By AI agents, Wed Nov 11 2026. No macro, syntax, notation, axiom, sorry.
-/
import Derived.Test.YtiaopgnnibidlaaDoorRows
import GoSem.ClaimSeven
namespace Go.Proofs.YtiaopgnnibidlaaDoor
namespace Rows

/-- THE TIED CARD OF 'latchgarthlaw4.DinePlays'. -/
def dinePlaysCard : Claim7 := { stood := { row := dinePlaysRow, standIns := [], harness := (true, "ae1fe32c8bcb1b1f210f5e87a91906e073824bffe05acbe5fbb39352632dcccb"), looks := true }, kinds := [], alts := [], laidByText := true, laidKinds := [.handle], laidTests := true, laidLooks := .later }
def DinePlaysCardSaid : Prop := Claim7.holds Tryd.pinned (.plain (OpenSpec.ofChange dinePlaysSpec)) dinePlaysCard

/-- THE TIED CARD OF 'latchgarthlaw4.DequePlays'. -/
def dequePlaysCard : Claim7 := { stood := { row := dequePlaysRow, standIns := [], harness := (true, "ae1fe32c8bcb1b1f210f5e87a91906e073824bffe05acbe5fbb39352632dcccb"), looks := true }, kinds := [], alts := [], laidByText := true, laidKinds := [.handle], laidTests := true, laidLooks := .later }
def DequePlaysCardSaid : Prop := Claim7.holds Tryd.pinned (.plain (OpenSpec.ofChange dequePlaysSpec)) dequePlaysCard

/-- THE SECOND FORM's CARD OF 'latchgarthlaw4.DinePlays'. -/
def dinePlaysUptoCard : Claim7 := { stood := { row := dinePlaysUptoRow, standIns := [], harness := (true, "ae1fe32c8bcb1b1f210f5e87a91906e073824bffe05acbe5fbb39352632dcccb"), looks := true }, kinds := [], alts := [], laidByText := true, laidKinds := [.handle], laidTests := true, laidLooks := .later }
def DinePlaysUptoCardSaid : Prop := Claim7.holds Tryd.pinned (.plain (OpenSpec.upto dinePlaysSpec)) dinePlaysUptoCard

/-- THE SECOND FORM's CARD OF 'latchgarthlaw4.DequePlays'. -/
def dequePlaysUptoCard : Claim7 := { stood := { row := dequePlaysUptoRow, standIns := [], harness := (true, "ae1fe32c8bcb1b1f210f5e87a91906e073824bffe05acbe5fbb39352632dcccb"), looks := true }, kinds := [], alts := [], laidByText := true, laidKinds := [.handle], laidTests := true, laidLooks := .later }
def DequePlaysUptoCardSaid : Prop := Claim7.holds Tryd.pinned (.plain (OpenSpec.upto dequePlaysSpec)) dequePlaysUptoCard
end Rows
end Go.Proofs.YtiaopgnnibidlaaDoor
