/-
  No cell of these rows narrows 'for every input' (looked for: loops, veiled, ifaces, maps, wideKeys, modest, calm, conditions, laid).
  DERIVED. THE GIVEN ROWS OF THIS SEAT. 5 by the template 'for every input the law returns true; each argument reads behind the call as it read before'; 0 by the template 'total and deterministic' (their statements: YtnecppjgcbhnaaaTotals.lean).
  GIVEN WITH THE SEED: the statements are not yours to turn. If you find one false, say at which input.
  Laid BY PROGRAM, IN A SANDBOX (cutbox-rows.mjs): the forced cells as the released guide's own fill.sh prints them over the translation ac3051d95b318cbc… (all of the seat's roots in one cut). By AI agents, Wed Nov 11 2026. No macro, syntax, notation, axiom, sorry.
-/
import Derived.Test.YtnecppjgcbhnaaaChecked
import GoSem.Claim
import GoSem.ClaimJoined
import GoSem.ClaimMapViews
import Derived.JoinedTies
import Derived.KernelRfl
namespace Go.Proofs.Ytnecppjgcbhnaaa
/- THE CELL 'sum', in the pinned program and in every row, IS THE sha256 OF THE DUMP (.gsa) THAT YtnecppjgcbhnaaaProg.lean LOADS. Nothing in Lean hashes anything: it is a label: what it is worth is what the hold of that sum in a sandbox is worth. -/
noncomputable def Try.pinned : Pinned := { name := "ytnecppjgcbhnaaa", sum := "ac3051d95b318cbcb30fbc1783140f73477c41a685cb26e7f5b4f9a9d5e61096", checked := Try.checked }
namespace Rows
def none {H : Type} : Left H := { results := [], args := [] }

/-- 'latchgarthlaw3.RingOrder': WHATEVER THE INPUT: true; the input reads as it did. -/
def ringOrderSpec : ChangeSpec := { name := "ringOrder", fn := fun _ => fun
  | [d1, d2] => { results := [.lit (.bool true)], args := [d1, d2] }
  | _ => none }
def ringOrderRow : OpenClaim := { program := "ytnecppjgcbhnaaa", sum := "ac3051d95b318cbcb30fbc1783140f73477c41a685cb26e7f5b4f9a9d5e61096", func := "latchgarth/latchgarthlaw3.RingOrder", spec := "ringOrder", apart := false }
def RingOrderSaid : Prop := ringOrderRow.holds Try.pinned (OpenSpec.ofChange ringOrderSpec)

/-- ITS FALSE NEIGHBOUR: 'it returns false'. Refute it at one input. -/
def ringOrderWrong : ChangeSpec := { name := "ringOrder", fn := fun _ => fun
  | [d1, d2] => { results := [.lit (.bool false)], args := [d1, d2] }
  | _ => none }
def RingOrderWrongFalsely : Prop := ringOrderRow.holds Try.pinned (OpenSpec.ofChange ringOrderWrong)

/-- 'latchgarthlaw3.UnivOne': WHATEVER THE INPUT: true; the input reads as it did. -/
def univOneSpec : ChangeSpec := { name := "univOne", fn := fun _ => fun
  | [d1, d2] => { results := [.lit (.bool true)], args := [d1, d2] }
  | _ => none }
def univOneRow : OpenClaim := { program := "ytnecppjgcbhnaaa", sum := "ac3051d95b318cbcb30fbc1783140f73477c41a685cb26e7f5b4f9a9d5e61096", func := "latchgarth/latchgarthlaw3.UnivOne", spec := "univOne", apart := false }
def UnivOneSaid : Prop := univOneRow.holds Try.pinned (OpenSpec.ofChange univOneSpec)

/-- ITS FALSE NEIGHBOUR: 'it returns false'. Refute it at one input. -/
def univOneWrong : ChangeSpec := { name := "univOne", fn := fun _ => fun
  | [d1, d2] => { results := [.lit (.bool false)], args := [d1, d2] }
  | _ => none }
def UnivOneWrongFalsely : Prop := univOneRow.holds Try.pinned (OpenSpec.ofChange univOneWrong)

/-- 'latchgarthlaw3.UnivGoes': WHATEVER THE INPUT: true; the input reads as it did. -/
def univGoesSpec : ChangeSpec := { name := "univGoes", fn := fun _ => fun
  | [d1, d2, d3] => { results := [.lit (.bool true)], args := [d1, d2, d3] }
  | _ => none }
def univGoesRow : OpenClaim := { program := "ytnecppjgcbhnaaa", sum := "ac3051d95b318cbcb30fbc1783140f73477c41a685cb26e7f5b4f9a9d5e61096", func := "latchgarth/latchgarthlaw3.UnivGoes", spec := "univGoes", apart := false }
def UnivGoesSaid : Prop := univGoesRow.holds Try.pinned (OpenSpec.ofChange univGoesSpec)

/-- ITS FALSE NEIGHBOUR: 'it returns false'. Refute it at one input. -/
def univGoesWrong : ChangeSpec := { name := "univGoes", fn := fun _ => fun
  | [d1, d2, d3] => { results := [.lit (.bool false)], args := [d1, d2, d3] }
  | _ => none }
def UnivGoesWrongFalsely : Prop := univGoesRow.holds Try.pinned (OpenSpec.ofChange univGoesWrong)

/-- 'latchgarthlaw3.SnapRow': WHATEVER THE INPUT: true; the input reads as it did. -/
def snapRowSpec : ChangeSpec := { name := "snapRow", fn := fun _ => fun
  | [d1, d2] => { results := [.lit (.bool true)], args := [d1, d2] }
  | _ => none }
def snapRowRow : OpenClaim := { program := "ytnecppjgcbhnaaa", sum := "ac3051d95b318cbcb30fbc1783140f73477c41a685cb26e7f5b4f9a9d5e61096", func := "latchgarth/latchgarthlaw3.SnapRow", spec := "snapRow", apart := false }
def SnapRowSaid : Prop := snapRowRow.holds Try.pinned (OpenSpec.ofChange snapRowSpec)

/-- ITS FALSE NEIGHBOUR: 'it returns false'. Refute it at one input. -/
def snapRowWrong : ChangeSpec := { name := "snapRow", fn := fun _ => fun
  | [d1, d2] => { results := [.lit (.bool false)], args := [d1, d2] }
  | _ => none }
def SnapRowWrongFalsely : Prop := snapRowRow.holds Try.pinned (OpenSpec.ofChange snapRowWrong)

/-- 'latchgarthlaw3.SnapGoes': WHATEVER THE INPUT: true; the input reads as it did. -/
def snapGoesSpec : ChangeSpec := { name := "snapGoes", fn := fun _ => fun
  | [d1, d2, d3] => { results := [.lit (.bool true)], args := [d1, d2, d3] }
  | _ => none }
def snapGoesRow : OpenClaim := { program := "ytnecppjgcbhnaaa", sum := "ac3051d95b318cbcb30fbc1783140f73477c41a685cb26e7f5b4f9a9d5e61096", func := "latchgarth/latchgarthlaw3.SnapGoes", spec := "snapGoes", apart := false }
def SnapGoesSaid : Prop := snapGoesRow.holds Try.pinned (OpenSpec.ofChange snapGoesSpec)

/-- ITS FALSE NEIGHBOUR: 'it returns false'. Refute it at one input. -/
def snapGoesWrong : ChangeSpec := { name := "snapGoes", fn := fun _ => fun
  | [d1, d2, d3] => { results := [.lit (.bool false)], args := [d1, d2, d3] }
  | _ => none }
def SnapGoesWrongFalsely : Prop := snapGoesRow.holds Try.pinned (OpenSpec.ofChange snapGoesWrong)

/- THE SECOND FORM. 'bulk': how many values and letters a reading holds, each counted each time it is reached (what is shared counts as often as it is met; a slice's spare places count too). A statement '..UptoSaid' is the law's where the arguments, and the package variables that the reading takes, are together of bulk at most 1048576: NARROWER than '..Said'. Prove '..Said' where nothing that the law and all that it calls make is longer than what came in: it says more and counts as full. Else prove '..UptoSaid'. A law counts once. -/
mutual
def uptoBulk {H : Type} : DataW H → Nat
  | .lit (.string bytes) => bytes.length + 1
  | .lit _ => 1
  | .nil => 1
  | .ptr d => uptoBulk d + 1
  | .slice elems spare => uptoBulkAll elems + uptoBulkAll spare + 1
  | .agg parts => uptoBulkAll parts + 1
  | .iface _ d => uptoBulk d + 1
  | .map entries => uptoBulkEntries entries + 1
  | .held _ => 1
def uptoBulkAll {H : Type} : List (DataW H) → Nat
  | [] => 0
  | d :: r => uptoBulk d + uptoBulkAll r
def uptoBulkEntries {H : Type} : List (Lit × DataW H) → Nat
  | [] => 0
  | x :: r => uptoBulkEntry x + uptoBulkEntries r
def uptoBulkEntry {H : Type} : Lit × DataW H → Nat
  | (.string bytes, d) => bytes.length + uptoBulk d + 1
  | (_, d) => uptoBulk d + 1
 end
def uptoSmall : (H : Type) → List (DataW H) → Bool := fun _ ds => decide (uptoBulkAll ds ≤ 1048576)
def OpenSpec.upto (s : _root_.Go.ChangeSpec) : _root_.Go.OpenSpec := { _root_.Go.OpenSpec.ofChange s with cond := some uptoSmall }

/-- 'latchgarthlaw3.RingOrder', WHERE WHAT IT READS IS OF BULK AT MOST 1048576: true; the input reads as it did. -/
def ringOrderUptoRow : OpenClaim := { program := "ytnecppjgcbhnaaa", sum := "ac3051d95b318cbcb30fbc1783140f73477c41a685cb26e7f5b4f9a9d5e61096", func := "latchgarth/latchgarthlaw3.RingOrder", spec := "ringOrder", apart := false, narrowed := true }
def RingOrderUptoSaid : Prop := ringOrderUptoRow.holds Try.pinned (OpenSpec.upto ringOrderSpec)

/-- 'latchgarthlaw3.UnivOne', WHERE WHAT IT READS IS OF BULK AT MOST 1048576: true; the input reads as it did. -/
def univOneUptoRow : OpenClaim := { program := "ytnecppjgcbhnaaa", sum := "ac3051d95b318cbcb30fbc1783140f73477c41a685cb26e7f5b4f9a9d5e61096", func := "latchgarth/latchgarthlaw3.UnivOne", spec := "univOne", apart := false, narrowed := true }
def UnivOneUptoSaid : Prop := univOneUptoRow.holds Try.pinned (OpenSpec.upto univOneSpec)

/-- 'latchgarthlaw3.UnivGoes', WHERE WHAT IT READS IS OF BULK AT MOST 1048576: true; the input reads as it did. -/
def univGoesUptoRow : OpenClaim := { program := "ytnecppjgcbhnaaa", sum := "ac3051d95b318cbcb30fbc1783140f73477c41a685cb26e7f5b4f9a9d5e61096", func := "latchgarth/latchgarthlaw3.UnivGoes", spec := "univGoes", apart := false, narrowed := true }
def UnivGoesUptoSaid : Prop := univGoesUptoRow.holds Try.pinned (OpenSpec.upto univGoesSpec)

/-- 'latchgarthlaw3.SnapRow', WHERE WHAT IT READS IS OF BULK AT MOST 1048576: true; the input reads as it did. -/
def snapRowUptoRow : OpenClaim := { program := "ytnecppjgcbhnaaa", sum := "ac3051d95b318cbcb30fbc1783140f73477c41a685cb26e7f5b4f9a9d5e61096", func := "latchgarth/latchgarthlaw3.SnapRow", spec := "snapRow", apart := false, narrowed := true }
def SnapRowUptoSaid : Prop := snapRowUptoRow.holds Try.pinned (OpenSpec.upto snapRowSpec)

/-- 'latchgarthlaw3.SnapGoes', WHERE WHAT IT READS IS OF BULK AT MOST 1048576: true; the input reads as it did. -/
def snapGoesUptoRow : OpenClaim := { program := "ytnecppjgcbhnaaa", sum := "ac3051d95b318cbcb30fbc1783140f73477c41a685cb26e7f5b4f9a9d5e61096", func := "latchgarth/latchgarthlaw3.SnapGoes", spec := "snapGoes", apart := false, narrowed := true }
def SnapGoesUptoSaid : Prop := snapGoesUptoRow.holds Try.pinned (OpenSpec.upto snapGoesSpec)

end Rows
end Go.Proofs.Ytnecppjgcbhnaaa
