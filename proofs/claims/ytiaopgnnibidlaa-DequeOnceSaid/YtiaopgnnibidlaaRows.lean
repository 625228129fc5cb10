/-
  No cell of these rows narrows 'for every input' (looked for: loops, veiled, ifaces, maps, wideKeys, modest, calm, conditions, laid).
  DERIVED. THE GIVEN ROWS OF THIS SEAT. 5 by the template 'for every input the law returns true; each argument reads behind the call as it read before'; 0 by the template 'total and deterministic' (their statements: YtiaopgnnibidlaaTotals.lean).
  GIVEN WITH THE SEED: the statements are not yours to turn. If you find one false, say at which input.
  Laid BY PROGRAM, IN A SANDBOX (cutbox-rows.mjs): the forced cells as the released guide's own fill.sh prints them over the translation b7e72050e505f3f6… (all of the seat's roots in one cut). By AI agents, Wed Nov 11 2026. No macro, syntax, notation, axiom, sorry.
-/
import Derived.Test.YtiaopgnnibidlaaChecked
import GoSem.Claim
import GoSem.ClaimJoined
import GoSem.ClaimMapViews
import Derived.JoinedTies
import Derived.KernelRfl
namespace Go.Proofs.Ytiaopgnnibidlaa
/- THE CELL 'sum', in the pinned program and in every row, IS THE sha256 OF THE DUMP (.gsa) THAT YtiaopgnnibidlaaProg.lean LOADS. Nothing in Lean hashes anything: it is a label: what it is worth is what the hold of that sum in a sandbox is worth. -/
noncomputable def Try.pinned : Pinned := { name := "ytiaopgnnibidlaa", sum := "b7e72050e505f3f6b581e735aac2085568e1ba332e7244596f7cca89e9655c04", checked := Try.checked }
namespace Rows
def none {H : Type} : Left H := { results := [], args := [] }

/-- 'latchgarthlaw4.DineGoes': WHATEVER THE INPUT: true; the input reads as it did. -/
def dineGoesSpec : ChangeSpec := { name := "dineGoes", fn := fun _ => fun
  | [d1, d2] => { results := [.lit (.bool true)], args := [d1, d2] }
  | _ => none }
def dineGoesRow : OpenClaim := { program := "ytiaopgnnibidlaa", sum := "b7e72050e505f3f6b581e735aac2085568e1ba332e7244596f7cca89e9655c04", func := "latchgarth/latchgarthlaw4.DineGoes", spec := "dineGoes", apart := false }
def DineGoesSaid : Prop := dineGoesRow.holds Try.pinned (OpenSpec.ofChange dineGoesSpec)

/-- ITS FALSE NEIGHBOUR: 'it returns false'. Refute it at one input. -/
def dineGoesWrong : ChangeSpec := { name := "dineGoes", fn := fun _ => fun
  | [d1, d2] => { results := [.lit (.bool false)], args := [d1, d2] }
  | _ => none }
def DineGoesWrongFalsely : Prop := dineGoesRow.holds Try.pinned (OpenSpec.ofChange dineGoesWrong)

/-- 'latchgarthlaw4.DineKnot': WHATEVER THE INPUT: true; the input reads as it did. -/
def dineKnotSpec : ChangeSpec := { name := "dineKnot", fn := fun _ => fun
  | [d1, d2] => { results := [.lit (.bool true)], args := [d1, d2] }
  | _ => none }
def dineKnotRow : OpenClaim := { program := "ytiaopgnnibidlaa", sum := "b7e72050e505f3f6b581e735aac2085568e1ba332e7244596f7cca89e9655c04", func := "latchgarth/latchgarthlaw4.DineKnot", spec := "dineKnot", apart := false }
def DineKnotSaid : Prop := dineKnotRow.holds Try.pinned (OpenSpec.ofChange dineKnotSpec)

/-- ITS FALSE NEIGHBOUR: 'it returns false'. Refute it at one input. -/
def dineKnotWrong : ChangeSpec := { name := "dineKnot", fn := fun _ => fun
  | [d1, d2] => { results := [.lit (.bool false)], args := [d1, d2] }
  | _ => none }
def DineKnotWrongFalsely : Prop := dineKnotRow.holds Try.pinned (OpenSpec.ofChange dineKnotWrong)

/-- 'latchgarthlaw4.DineApart': WHATEVER THE INPUT: true; the input reads as it did. -/
def dineApartSpec : ChangeSpec := { name := "dineApart", fn := fun _ => fun
  | [d1, d2] => { results := [.lit (.bool true)], args := [d1, d2] }
  | _ => none }
def dineApartRow : OpenClaim := { program := "ytiaopgnnibidlaa", sum := "b7e72050e505f3f6b581e735aac2085568e1ba332e7244596f7cca89e9655c04", func := "latchgarth/latchgarthlaw4.DineApart", spec := "dineApart", apart := false }
def DineApartSaid : Prop := dineApartRow.holds Try.pinned (OpenSpec.ofChange dineApartSpec)

/-- ITS FALSE NEIGHBOUR: 'it returns false'. Refute it at one input. -/
def dineApartWrong : ChangeSpec := { name := "dineApart", fn := fun _ => fun
  | [d1, d2] => { results := [.lit (.bool false)], args := [d1, d2] }
  | _ => none }
def DineApartWrongFalsely : Prop := dineApartRow.holds Try.pinned (OpenSpec.ofChange dineApartWrong)

/-- 'latchgarthlaw4.DequeOnce': WHATEVER THE INPUT: true; the input reads as it did. -/
def dequeOnceSpec : ChangeSpec := { name := "dequeOnce", fn := fun _ => fun
  | [d1, d2] => { results := [.lit (.bool true)], args := [d1, d2] }
  | _ => none }
def dequeOnceRow : OpenClaim := { program := "ytiaopgnnibidlaa", sum := "b7e72050e505f3f6b581e735aac2085568e1ba332e7244596f7cca89e9655c04", func := "latchgarth/latchgarthlaw4.DequeOnce", spec := "dequeOnce", unfollowed := true, recurses := true, apart := false }
def DequeOnceSaid : Prop := dequeOnceRow.holds Try.pinned (OpenSpec.ofChange dequeOnceSpec)

/-- ITS FALSE NEIGHBOUR: 'it returns false'. Refute it at one input. -/
def dequeOnceWrong : ChangeSpec := { name := "dequeOnce", fn := fun _ => fun
  | [d1, d2] => { results := [.lit (.bool false)], args := [d1, d2] }
  | _ => none }
def DequeOnceWrongFalsely : Prop := dequeOnceRow.holds Try.pinned (OpenSpec.ofChange dequeOnceWrong)

/-- 'latchgarthlaw4.DequeAlone': WHATEVER THE INPUT: true; the input reads as it did. -/
def dequeAloneSpec : ChangeSpec := { name := "dequeAlone", fn := fun _ => fun
  | [d] => { results := [.lit (.bool true)], args := [d] }
  | _ => none }
def dequeAloneRow : OpenClaim := { program := "ytiaopgnnibidlaa", sum := "b7e72050e505f3f6b581e735aac2085568e1ba332e7244596f7cca89e9655c04", func := "latchgarth/latchgarthlaw4.DequeAlone", spec := "dequeAlone", unfollowed := true, recurses := true, apart := false }
def DequeAloneSaid : Prop := dequeAloneRow.holds Try.pinned (OpenSpec.ofChange dequeAloneSpec)

/-- ITS FALSE NEIGHBOUR: 'it returns false'. Refute it at one input. -/
def dequeAloneWrong : ChangeSpec := { name := "dequeAlone", fn := fun _ => fun
  | [d] => { results := [.lit (.bool false)], args := [d] }
  | _ => none }
def DequeAloneWrongFalsely : Prop := dequeAloneRow.holds Try.pinned (OpenSpec.ofChange dequeAloneWrong)

/- THE SECOND FORM. 'bulk': how many values and letters a reading holds, each counted each time it is reached (what is shared counts as often as it is met; a slice's spare places count too). A statement '..UptoSaid' is the law's where the arguments, and the package variables that the reading takes, are together of bulk at most 1048576: NARROWER than '..Said'. Prove '..Said' where nothing that the law and all that it calls make is longer than what came in: it says more and counts as full. Else prove '..UptoSaid'. A law counts once. -/
mutual
def uptoBulk {H : Type} : DataW H → Nat
  | .lit (.string bytes) => bytes.length + 1
  | .lit _ => 1
  | .nil => 1
  | .ptr d => uptoBulk d + 1
  | .slice elems spare => uptoBulkAll elems + uptoBulkAll spare + 1
  | .agg parts => uptoBulkAll parts + 1
  | .iface _ d => uptoBulk d + 1
  | .map entries => uptoBulkEntries entries + 1
  | .held _ => 1
def uptoBulkAll {H : Type} : List (DataW H) → Nat
  | [] => 0
  | d :: r => uptoBulk d + uptoBulkAll r
def uptoBulkEntries {H : Type} : List (Lit × DataW H) → Nat
  | [] => 0
  | x :: r => uptoBulkEntry x + uptoBulkEntries r
def uptoBulkEntry {H : Type} : Lit × DataW H → Nat
  | (.string bytes, d) => bytes.length + uptoBulk d + 1
  | (_, d) => uptoBulk d + 1
 end
def uptoSmall : (H : Type) → List (DataW H) → Bool := fun _ ds => decide (uptoBulkAll ds ≤ 1048576)
def OpenSpec.upto (s : _root_.Go.ChangeSpec) : _root_.Go.OpenSpec := { _root_.Go.OpenSpec.ofChange s with cond := some uptoSmall }

/-- 'latchgarthlaw4.DineGoes', WHERE WHAT IT READS IS OF BULK AT MOST 1048576: true; the input reads as it did. -/
def dineGoesUptoRow : OpenClaim := { program := "ytiaopgnnibidlaa", sum := "b7e72050e505f3f6b581e735aac2085568e1ba332e7244596f7cca89e9655c04", func := "latchgarth/latchgarthlaw4.DineGoes", spec := "dineGoes", apart := false, narrowed := true }
def DineGoesUptoSaid : Prop := dineGoesUptoRow.holds Try.pinned (OpenSpec.upto dineGoesSpec)

/-- 'latchgarthlaw4.DineKnot', WHERE WHAT IT READS IS OF BULK AT MOST 1048576: true; the input reads as it did. -/
def dineKnotUptoRow : OpenClaim := { program := "ytiaopgnnibidlaa", sum := "b7e72050e505f3f6b581e735aac2085568e1ba332e7244596f7cca89e9655c04", func := "latchgarth/latchgarthlaw4.DineKnot", spec := "dineKnot", apart := false, narrowed := true }
def DineKnotUptoSaid : Prop := dineKnotUptoRow.holds Try.pinned (OpenSpec.upto dineKnotSpec)

/-- 'latchgarthlaw4.DineApart', WHERE WHAT IT READS IS OF BULK AT MOST 1048576: true; the input reads as it did. -/
def dineApartUptoRow : OpenClaim := { program := "ytiaopgnnibidlaa", sum := "b7e72050e505f3f6b581e735aac2085568e1ba332e7244596f7cca89e9655c04", func := "latchgarth/latchgarthlaw4.DineApart", spec := "dineApart", apart := false, narrowed := true }
def DineApartUptoSaid : Prop := dineApartUptoRow.holds Try.pinned (OpenSpec.upto dineApartSpec)

/-- 'latchgarthlaw4.DequeOnce', WHERE WHAT IT READS IS OF BULK AT MOST 1048576: true; the input reads as it did. -/
def dequeOnceUptoRow : OpenClaim := { program := "ytiaopgnnibidlaa", sum := "b7e72050e505f3f6b581e735aac2085568e1ba332e7244596f7cca89e9655c04", func := "latchgarth/latchgarthlaw4.DequeOnce", spec := "dequeOnce", unfollowed := true, recurses := true, apart := false, narrowed := true }
def DequeOnceUptoSaid : Prop := dequeOnceUptoRow.holds Try.pinned (OpenSpec.upto dequeOnceSpec)

/-- 'latchgarthlaw4.DequeAlone', WHERE WHAT IT READS IS OF BULK AT MOST 1048576: true; the input reads as it did. -/
def dequeAloneUptoRow : OpenClaim := { program := "ytiaopgnnibidlaa", sum := "b7e72050e505f3f6b581e735aac2085568e1ba332e7244596f7cca89e9655c04", func := "latchgarth/latchgarthlaw4.DequeAlone", spec := "dequeAlone", unfollowed := true, recurses := true, apart := false, narrowed := true }
def DequeAloneUptoSaid : Prop := dequeAloneUptoRow.holds Try.pinned (OpenSpec.upto dequeAloneSpec)

end Rows
end Go.Proofs.Ytiaopgnnibidlaa
