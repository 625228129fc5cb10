/-
  No cell of these rows narrows 'for every input' (looked for: loops, veiled, ifaces, maps, wideKeys, modest, calm, conditions, laid).
  DERIVED. THE GIVEN ROWS OF THIS SEAT. 3 by the template 'for every input the law returns true; each argument reads behind the call as it read before'; 0 by the template 'total and deterministic' (their statements: YtnepjdobknjecaaTotals.lean).
  GIVEN WITH THE SEED: the statements are not yours to turn. If you find one false, say at which input.
  Laid BY PROGRAM, IN A SANDBOX (cutbox-rows.mjs): the forced cells as the released guide's own fill.sh prints them over the translation a37ef04709d1e857… (all of the seat's roots in one cut). By AI agents, Wed Nov 11 2026. No macro, syntax, notation, axiom, sorry.
-/
import Derived.Test.YtnepjdobknjecaaChecked
import GoSem.Claim
import GoSem.ClaimJoined
import GoSem.ClaimMapViews
import Derived.JoinedTies
import Derived.KernelRfl
namespace Go.Proofs.Ytnepjdobknjecaa
/- THE CELL 'sum', in the pinned program and in every row, IS THE sha256 OF THE DUMP (.gsa) THAT YtnepjdobknjecaaProg.lean LOADS. Nothing in Lean hashes anything: it is a label: what it is worth is what the hold of that sum in a sandbox is worth. -/
noncomputable def Try.pinned : Pinned := { name := "ytnepjdobknjecaa", sum := "a37ef04709d1e857cd6afbd97389b64e82b8807d7fab0b7d2cd557a4a6e426f6", checked := Try.checked }
namespace Rows
def none {H : Type} : Left H := { results := [], args := [] }

/-- 'latchgarthlaw4.LinRow': WHATEVER THE INPUT: true; the input reads as it did. -/
def linRowSpec : ChangeSpec := { name := "linRow", fn := fun _ => fun
  | [d1, d2, d3] => { results := [.lit (.bool true)], args := [d1, d2, d3] }
  | _ => none }
def linRowRow : OpenClaim := { program := "ytnepjdobknjecaa", sum := "a37ef04709d1e857cd6afbd97389b64e82b8807d7fab0b7d2cd557a4a6e426f6", func := "latchgarth/latchgarthlaw4.LinRow", spec := "linRow", unfollowed := true, recurses := true, apart := false }
def LinRowSaid : Prop := linRowRow.holds Try.pinned (OpenSpec.ofChange linRowSpec)

/-- ITS FALSE NEIGHBOUR: 'it returns false'. Refute it at one input. -/
def linRowWrong : ChangeSpec := { name := "linRow", fn := fun _ => fun
  | [d1, d2, d3] => { results := [.lit (.bool false)], args := [d1, d2, d3] }
  | _ => none }
def LinRowWrongFalsely : Prop := linRowRow.holds Try.pinned (OpenSpec.ofChange linRowWrong)

/-- 'latchgarthlaw4.LinPart': WHATEVER THE INPUT: true; the input reads as it did. -/
def linPartSpec : ChangeSpec := { name := "linPart", fn := fun _ => fun
  | [d1, d2, d3] => { results := [.lit (.bool true)], args := [d1, d2, d3] }
  | _ => none }
def linPartRow : OpenClaim := { program := "ytnepjdobknjecaa", sum := "a37ef04709d1e857cd6afbd97389b64e82b8807d7fab0b7d2cd557a4a6e426f6", func := "latchgarth/latchgarthlaw4.LinPart", spec := "linPart", unfollowed := true, recurses := true, apart := false }
def LinPartSaid : Prop := linPartRow.holds Try.pinned (OpenSpec.ofChange linPartSpec)

/-- ITS FALSE NEIGHBOUR: 'it returns false'. Refute it at one input. -/
def linPartWrong : ChangeSpec := { name := "linPart", fn := fun _ => fun
  | [d1, d2, d3] => { results := [.lit (.bool false)], args := [d1, d2, d3] }
  | _ => none }
def LinPartWrongFalsely : Prop := linPartRow.holds Try.pinned (OpenSpec.ofChange linPartWrong)

/-- 'latchgarthlaw4.LinAlone': WHATEVER THE INPUT: true; the input reads as it did. -/
def linAloneSpec : ChangeSpec := { name := "linAlone", fn := fun _ => fun
  | [d1, d2, d3] => { results := [.lit (.bool true)], args := [d1, d2, d3] }
  | _ => none }
def linAloneRow : OpenClaim := { program := "ytnepjdobknjecaa", sum := "a37ef04709d1e857cd6afbd97389b64e82b8807d7fab0b7d2cd557a4a6e426f6", func := "latchgarth/latchgarthlaw4.LinAlone", spec := "linAlone", unfollowed := true, recurses := true, apart := false }
def LinAloneSaid : Prop := linAloneRow.holds Try.pinned (OpenSpec.ofChange linAloneSpec)

/-- ITS FALSE NEIGHBOUR: 'it returns false'. Refute it at one input. -/
def linAloneWrong : ChangeSpec := { name := "linAlone", fn := fun _ => fun
  | [d1, d2, d3] => { results := [.lit (.bool false)], args := [d1, d2, d3] }
  | _ => none }
def LinAloneWrongFalsely : Prop := linAloneRow.holds Try.pinned (OpenSpec.ofChange linAloneWrong)

/- THE SECOND FORM. 'bulk': how many values and letters a reading holds, each counted each time it is reached (what is shared counts as often as it is met; a slice's spare places count too). A statement '..UptoSaid' is the law's where the arguments, and the package variables that the reading takes, are together of bulk at most 1048576: NARROWER than '..Said'. Prove '..Said' where nothing that the law and all that it calls make is longer than what came in: it says more and counts as full. Else prove '..UptoSaid'. A law counts once. -/
mutual
def uptoBulk {H : Type} : DataW H → Nat
  | .lit (.string bytes) => bytes.length + 1
  | .lit _ => 1
  | .nil => 1
  | .ptr d => uptoBulk d + 1
  | .slice elems spare => uptoBulkAll elems + uptoBulkAll spare + 1
  | .agg parts => uptoBulkAll parts + 1
  | .iface _ d => uptoBulk d + 1
  | .map entries => uptoBulkEntries entries + 1
  | .held _ => 1
def uptoBulkAll {H : Type} : List (DataW H) → Nat
  | [] => 0
  | d :: r => uptoBulk d + uptoBulkAll r
def uptoBulkEntries {H : Type} : List (Lit × DataW H) → Nat
  | [] => 0
  | x :: r => uptoBulkEntry x + uptoBulkEntries r
def uptoBulkEntry {H : Type} : Lit × DataW H → Nat
  | (.string bytes, d) => bytes.length + uptoBulk d + 1
  | (_, d) => uptoBulk d + 1
 end
def uptoSmall : (H : Type) → List (DataW H) → Bool := fun _ ds => decide (uptoBulkAll ds ≤ 1048576)
def OpenSpec.upto (s : _root_.Go.ChangeSpec) : _root_.Go.OpenSpec := { _root_.Go.OpenSpec.ofChange s with cond := some uptoSmall }

/-- 'latchgarthlaw4.LinRow', WHERE WHAT IT READS IS OF BULK AT MOST 1048576: true; the input reads as it did. -/
def linRowUptoRow : OpenClaim := { program := "ytnepjdobknjecaa", sum := "a37ef04709d1e857cd6afbd97389b64e82b8807d7fab0b7d2cd557a4a6e426f6", func := "latchgarth/latchgarthlaw4.LinRow", spec := "linRow", unfollowed := true, recurses := true, apart := false, narrowed := true }
def LinRowUptoSaid : Prop := linRowUptoRow.holds Try.pinned (OpenSpec.upto linRowSpec)

/-- 'latchgarthlaw4.LinPart', WHERE WHAT IT READS IS OF BULK AT MOST 1048576: true; the input reads as it did. -/
def linPartUptoRow : OpenClaim := { program := "ytnepjdobknjecaa", sum := "a37ef04709d1e857cd6afbd97389b64e82b8807d7fab0b7d2cd557a4a6e426f6", func := "latchgarth/latchgarthlaw4.LinPart", spec := "linPart", unfollowed := true, recurses := true, apart := false, narrowed := true }
def LinPartUptoSaid : Prop := linPartUptoRow.holds Try.pinned (OpenSpec.upto linPartSpec)

/-- 'latchgarthlaw4.LinAlone', WHERE WHAT IT READS IS OF BULK AT MOST 1048576: true; the input reads as it did. -/
def linAloneUptoRow : OpenClaim := { program := "ytnepjdobknjecaa", sum := "a37ef04709d1e857cd6afbd97389b64e82b8807d7fab0b7d2cd557a4a6e426f6", func := "latchgarth/latchgarthlaw4.LinAlone", spec := "linAlone", unfollowed := true, recurses := true, apart := false, narrowed := true }
def LinAloneUptoSaid : Prop := linAloneUptoRow.holds Try.pinned (OpenSpec.upto linAloneSpec)

end Rows
end Go.Proofs.Ytnepjdobknjecaa
