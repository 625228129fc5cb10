/-
  No cell of these rows narrows 'for every input' (looked for: loops, veiled, ifaces, maps, wideKeys, modest, calm, conditions, laid).
  DERIVED. THE GIVEN ROWS OF THIS SEAT. 4 by the template 'for every input the law returns true; each argument reads behind the call as it read before'; 0 by the template 'total and deterministic' (their statements: YtogbkgimpkaemaaTotals.lean).
  GIVEN WITH THE SEED: the statements are not yours to turn. If you find one false, say at which input.
  Laid BY PROGRAM, IN A SANDBOX (cutbox-rows.mjs): the forced cells as the released guide's own fill.sh prints them over the translation 638f274332e4f6ed… (all of the seat's roots in one cut). By AI agents, Wed Nov 11 2026. No macro, syntax, notation, axiom, sorry.
-/
import Derived.Test.YtogbkgimpkaemaaChecked
import GoSem.Claim
import GoSem.ClaimJoined
import GoSem.ClaimMapViews
import Derived.JoinedTies
import Derived.KernelRfl
namespace Go.Proofs.Ytogbkgimpkaemaa
/- THE CELL 'sum', in the pinned program and in every row, IS THE sha256 OF THE DUMP (.gsa) THAT YtogbkgimpkaemaaProg.lean LOADS. Nothing in Lean hashes anything: it is a label: what it is worth is what the hold of that sum in a sandbox is worth. -/
noncomputable def Try.pinned : Pinned := { name := "ytogbkgimpkaemaa", sum := "638f274332e4f6ed3381c4cfce345be2a43494c5848bc4ea5f2c28f0afa17898", checked := Try.checked }
namespace Rows
def none {H : Type} : Left H := { results := [], args := [] }

/-- 'latchgarthtop.TopQueues': WHATEVER THE INPUT: true; the input reads as it did. -/
def topQueuesSpec : ChangeSpec := { name := "topQueues", fn := fun _ => fun
  | [d] => { results := [.lit (.bool true)], args := [d] }
  | _ => none }
def topQueuesRow : OpenClaim := { program := "ytogbkgimpkaemaa", sum := "638f274332e4f6ed3381c4cfce345be2a43494c5848bc4ea5f2c28f0afa17898", func := "latchgarth/latchgarthtop.TopQueues", spec := "topQueues", apart := false }
def TopQueuesSaid : Prop := topQueuesRow.holds Try.pinned (OpenSpec.ofChange topQueuesSpec)

/-- ITS FALSE NEIGHBOUR: 'it returns false'. Refute it at one input. -/
def topQueuesWrong : ChangeSpec := { name := "topQueues", fn := fun _ => fun
  | [d] => { results := [.lit (.bool false)], args := [d] }
  | _ => none }
def TopQueuesWrongFalsely : Prop := topQueuesRow.holds Try.pinned (OpenSpec.ofChange topQueuesWrong)

/-- 'latchgarthlaw3.FifoOrder': WHATEVER THE INPUT: true; the input reads as it did. -/
def fifoOrderSpec : ChangeSpec := { name := "fifoOrder", fn := fun _ => fun
  | [d1, d2] => { results := [.lit (.bool true)], args := [d1, d2] }
  | _ => none }
def fifoOrderRow : OpenClaim := { program := "ytogbkgimpkaemaa", sum := "638f274332e4f6ed3381c4cfce345be2a43494c5848bc4ea5f2c28f0afa17898", func := "latchgarth/latchgarthlaw3.FifoOrder", spec := "fifoOrder", apart := false }
def FifoOrderSaid : Prop := fifoOrderRow.holds Try.pinned (OpenSpec.ofChange fifoOrderSpec)

/-- ITS FALSE NEIGHBOUR: 'it returns false'. Refute it at one input. -/
def fifoOrderWrong : ChangeSpec := { name := "fifoOrder", fn := fun _ => fun
  | [d1, d2] => { results := [.lit (.bool false)], args := [d1, d2] }
  | _ => none }
def FifoOrderWrongFalsely : Prop := fifoOrderRow.holds Try.pinned (OpenSpec.ofChange fifoOrderWrong)

/-- 'latchgarthlaw3.StackRow': WHATEVER THE INPUT: true; the input reads as it did. -/
def stackRowSpec : ChangeSpec := { name := "stackRow", fn := fun _ => fun
  | [d1, d2] => { results := [.lit (.bool true)], args := [d1, d2] }
  | _ => none }
def stackRowRow : OpenClaim := { program := "ytogbkgimpkaemaa", sum := "638f274332e4f6ed3381c4cfce345be2a43494c5848bc4ea5f2c28f0afa17898", func := "latchgarth/latchgarthlaw3.StackRow", spec := "stackRow", unfollowed := true, recurses := true, apart := false }
def StackRowSaid : Prop := stackRowRow.holds Try.pinned (OpenSpec.ofChange stackRowSpec)

/-- ITS FALSE NEIGHBOUR: 'it returns false'. Refute it at one input. -/
def stackRowWrong : ChangeSpec := { name := "stackRow", fn := fun _ => fun
  | [d1, d2] => { results := [.lit (.bool false)], args := [d1, d2] }
  | _ => none }
def StackRowWrongFalsely : Prop := stackRowRow.holds Try.pinned (OpenSpec.ofChange stackRowWrong)

/-- 'latchgarthlaw3.FifoRow': WHATEVER THE INPUT: true; the input reads as it did. -/
def fifoRowSpec : ChangeSpec := { name := "fifoRow", fn := fun _ => fun
  | [d1, d2] => { results := [.lit (.bool true)], args := [d1, d2] }
  | _ => none }
def fifoRowRow : OpenClaim := { program := "ytogbkgimpkaemaa", sum := "638f274332e4f6ed3381c4cfce345be2a43494c5848bc4ea5f2c28f0afa17898", func := "latchgarth/latchgarthlaw3.FifoRow", spec := "fifoRow", unfollowed := true, recurses := true, apart := false }
def FifoRowSaid : Prop := fifoRowRow.holds Try.pinned (OpenSpec.ofChange fifoRowSpec)

/-- ITS FALSE NEIGHBOUR: 'it returns false'. Refute it at one input. -/
def fifoRowWrong : ChangeSpec := { name := "fifoRow", fn := fun _ => fun
  | [d1, d2] => { results := [.lit (.bool false)], args := [d1, d2] }
  | _ => none }
def FifoRowWrongFalsely : Prop := fifoRowRow.holds Try.pinned (OpenSpec.ofChange fifoRowWrong)

/- THE SECOND FORM. 'bulk': how many values and letters a reading holds, each counted each time it is reached (what is shared counts as often as it is met; a slice's spare places count too). A statement '..UptoSaid' is the law's where the arguments, and the package variables that the reading takes, are together of bulk at most 1048576: NARROWER than '..Said'. Prove '..Said' where nothing that the law and all that it calls make is longer than what came in: it says more and counts as full. Else prove '..UptoSaid'. A law counts once. -/
mutual
def uptoBulk {H : Type} : DataW H → Nat
  | .lit (.string bytes) => bytes.length + 1
  | .lit _ => 1
  | .nil => 1
  | .ptr d => uptoBulk d + 1
  | .slice elems spare => uptoBulkAll elems + uptoBulkAll spare + 1
  | .agg parts => uptoBulkAll parts + 1
  | .iface _ d => uptoBulk d + 1
  | .map entries => uptoBulkEntries entries + 1
  | .held _ => 1
def uptoBulkAll {H : Type} : List (DataW H) → Nat
  | [] => 0
  | d :: r => uptoBulk d + uptoBulkAll r
def uptoBulkEntries {H : Type} : List (Lit × DataW H) → Nat
  | [] => 0
  | x :: r => uptoBulkEntry x + uptoBulkEntries r
def uptoBulkEntry {H : Type} : Lit × DataW H → Nat
  | (.string bytes, d) => bytes.length + uptoBulk d + 1
  | (_, d) => uptoBulk d + 1
 end
def uptoSmall : (H : Type) → List (DataW H) → Bool := fun _ ds => decide (uptoBulkAll ds ≤ 1048576)
def OpenSpec.upto (s : _root_.Go.ChangeSpec) : _root_.Go.OpenSpec := { _root_.Go.OpenSpec.ofChange s with cond := some uptoSmall }

/-- 'latchgarthtop.TopQueues', WHERE WHAT IT READS IS OF BULK AT MOST 1048576: true; the input reads as it did. -/
def topQueuesUptoRow : OpenClaim := { program := "ytogbkgimpkaemaa", sum := "638f274332e4f6ed3381c4cfce345be2a43494c5848bc4ea5f2c28f0afa17898", func := "latchgarth/latchgarthtop.TopQueues", spec := "topQueues", apart := false, narrowed := true }
def TopQueuesUptoSaid : Prop := topQueuesUptoRow.holds Try.pinned (OpenSpec.upto topQueuesSpec)

/-- 'latchgarthlaw3.FifoOrder', WHERE WHAT IT READS IS OF BULK AT MOST 1048576: true; the input reads as it did. -/
def fifoOrderUptoRow : OpenClaim := { program := "ytogbkgimpkaemaa", sum := "638f274332e4f6ed3381c4cfce345be2a43494c5848bc4ea5f2c28f0afa17898", func := "latchgarth/latchgarthlaw3.FifoOrder", spec := "fifoOrder", apart := false, narrowed := true }
def FifoOrderUptoSaid : Prop := fifoOrderUptoRow.holds Try.pinned (OpenSpec.upto fifoOrderSpec)

/-- 'latchgarthlaw3.StackRow', WHERE WHAT IT READS IS OF BULK AT MOST 1048576: true; the input reads as it did. -/
def stackRowUptoRow : OpenClaim := { program := "ytogbkgimpkaemaa", sum := "638f274332e4f6ed3381c4cfce345be2a43494c5848bc4ea5f2c28f0afa17898", func := "latchgarth/latchgarthlaw3.StackRow", spec := "stackRow", unfollowed := true, recurses := true, apart := false, narrowed := true }
def StackRowUptoSaid : Prop := stackRowUptoRow.holds Try.pinned (OpenSpec.upto stackRowSpec)

/-- 'latchgarthlaw3.FifoRow', WHERE WHAT IT READS IS OF BULK AT MOST 1048576: true; the input reads as it did. -/
def fifoRowUptoRow : OpenClaim := { program := "ytogbkgimpkaemaa", sum := "638f274332e4f6ed3381c4cfce345be2a43494c5848bc4ea5f2c28f0afa17898", func := "latchgarth/latchgarthlaw3.FifoRow", spec := "fifoRow", unfollowed := true, recurses := true, apart := false, narrowed := true }
def FifoRowUptoSaid : Prop := fifoRowUptoRow.holds Try.pinned (OpenSpec.upto fifoRowSpec)

end Rows
end Go.Proofs.Ytogbkgimpkaemaa
