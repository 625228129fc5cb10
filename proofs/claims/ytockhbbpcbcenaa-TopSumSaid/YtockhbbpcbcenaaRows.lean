/-
  No cell of these rows narrows 'for every input' (looked for: loops, veiled, ifaces, maps, wideKeys, modest, calm, conditions, laid).
  DERIVED. THE GIVEN ROWS OF THIS SEAT. 6 by the template 'for every input the law returns true; each argument reads behind the call as it read before'; 0 by the template 'total and deterministic' (their statements: YtockhbbpcbcenaaTotals.lean).
  GIVEN WITH THE SEED: the statements are not yours to turn. If you find one false, say at which input.
  Laid BY PROGRAM, IN A SANDBOX (cutbox-rows.mjs): the forced cells as the released guide's own fill.sh prints them over the translation a01c44e9ab5388f8… (all of the seat's roots in one cut). By AI agents, Wed Nov 11 2026. No macro, syntax, notation, axiom, sorry.
-/
import Derived.Test.YtockhbbpcbcenaaChecked
import GoSem.Claim
import GoSem.ClaimJoined
import GoSem.ClaimMapViews
import Derived.JoinedTies
import Derived.KernelRfl
namespace Go.Proofs.Ytockhbbpcbcenaa
/- THE CELL 'sum', in the pinned program and in every row, IS THE sha256 OF THE DUMP (.gsa) THAT YtockhbbpcbcenaaProg.lean LOADS. Nothing in Lean hashes anything: it is a label: what it is worth is what the hold of that sum in a sandbox is worth. -/
noncomputable def Try.pinned : Pinned := { name := "ytockhbbpcbcenaa", sum := "a01c44e9ab5388f8358125c0bbe0b4d981299ba9c689242180d056eb27c12920", checked := Try.checked }
namespace Rows
def none {H : Type} : Left H := { results := [], args := [] }

/-- 'latchgarthlaw4.CombOnce': WHATEVER THE INPUT: true; the input reads as it did. -/
def combOnceSpec : ChangeSpec := { name := "combOnce", fn := fun _ => fun
  | [d1, d2] => { results := [.lit (.bool true)], args := [d1, d2] }
  | _ => none }
def combOnceRow : OpenClaim := { program := "ytockhbbpcbcenaa", sum := "a01c44e9ab5388f8358125c0bbe0b4d981299ba9c689242180d056eb27c12920", func := "latchgarth/latchgarthlaw4.CombOnce", spec := "combOnce", apart := false }
def CombOnceSaid : Prop := combOnceRow.holds Try.pinned (OpenSpec.ofChange combOnceSpec)

/-- ITS FALSE NEIGHBOUR: 'it returns false'. Refute it at one input. -/
def combOnceWrong : ChangeSpec := { name := "combOnce", fn := fun _ => fun
  | [d1, d2] => { results := [.lit (.bool false)], args := [d1, d2] }
  | _ => none }
def CombOnceWrongFalsely : Prop := combOnceRow.holds Try.pinned (OpenSpec.ofChange combOnceWrong)

/-- 'latchgarthlaw4.CombCrash': WHATEVER THE INPUT: true; the input reads as it did. -/
def combCrashSpec : ChangeSpec := { name := "combCrash", fn := fun _ => fun
  | [d1, d2, d3] => { results := [.lit (.bool true)], args := [d1, d2, d3] }
  | _ => none }
def combCrashRow : OpenClaim := { program := "ytockhbbpcbcenaa", sum := "a01c44e9ab5388f8358125c0bbe0b4d981299ba9c689242180d056eb27c12920", func := "latchgarth/latchgarthlaw4.CombCrash", spec := "combCrash", apart := false }
def CombCrashSaid : Prop := combCrashRow.holds Try.pinned (OpenSpec.ofChange combCrashSpec)

/-- ITS FALSE NEIGHBOUR: 'it returns false'. Refute it at one input. -/
def combCrashWrong : ChangeSpec := { name := "combCrash", fn := fun _ => fun
  | [d1, d2, d3] => { results := [.lit (.bool false)], args := [d1, d2, d3] }
  | _ => none }
def CombCrashWrongFalsely : Prop := combCrashRow.holds Try.pinned (OpenSpec.ofChange combCrashWrong)

/-- 'latchgarthlaw4.CombGoes': WHATEVER THE INPUT: true; the input reads as it did. -/
def combGoesSpec : ChangeSpec := { name := "combGoes", fn := fun _ => fun
  | [d1, d2] => { results := [.lit (.bool true)], args := [d1, d2] }
  | _ => none }
def combGoesRow : OpenClaim := { program := "ytockhbbpcbcenaa", sum := "a01c44e9ab5388f8358125c0bbe0b4d981299ba9c689242180d056eb27c12920", func := "latchgarth/latchgarthlaw4.CombGoes", spec := "combGoes", apart := false }
def CombGoesSaid : Prop := combGoesRow.holds Try.pinned (OpenSpec.ofChange combGoesSpec)

/-- ITS FALSE NEIGHBOUR: 'it returns false'. Refute it at one input. -/
def combGoesWrong : ChangeSpec := { name := "combGoes", fn := fun _ => fun
  | [d1, d2] => { results := [.lit (.bool false)], args := [d1, d2] }
  | _ => none }
def CombGoesWrongFalsely : Prop := combGoesRow.holds Try.pinned (OpenSpec.ofChange combGoesWrong)

/-- 'latchgarthtop.TopSum': WHATEVER THE INPUT: true; the input reads as it did. -/
def topSumSpec : ChangeSpec := { name := "topSum", fn := fun _ => fun
  | [d1, d2, d3] => { results := [.lit (.bool true)], args := [d1, d2, d3] }
  | _ => none }
def topSumRow : OpenClaim := { program := "ytockhbbpcbcenaa", sum := "a01c44e9ab5388f8358125c0bbe0b4d981299ba9c689242180d056eb27c12920", func := "latchgarth/latchgarthtop.TopSum", spec := "topSum", unfollowed := true, recurses := true, apart := false }
def TopSumSaid : Prop := topSumRow.holds Try.pinned (OpenSpec.ofChange topSumSpec)

/-- ITS FALSE NEIGHBOUR: 'it returns false'. Refute it at one input. -/
def topSumWrong : ChangeSpec := { name := "topSum", fn := fun _ => fun
  | [d1, d2, d3] => { results := [.lit (.bool false)], args := [d1, d2, d3] }
  | _ => none }
def TopSumWrongFalsely : Prop := topSumRow.holds Try.pinned (OpenSpec.ofChange topSumWrong)

/-- 'latchgarthlaw3.UnivRow': WHATEVER THE INPUT: true; the input reads as it did. -/
def univRowSpec : ChangeSpec := { name := "univRow", fn := fun _ => fun
  | [d1, d2] => { results := [.lit (.bool true)], args := [d1, d2] }
  | _ => none }
def univRowRow : OpenClaim := { program := "ytockhbbpcbcenaa", sum := "a01c44e9ab5388f8358125c0bbe0b4d981299ba9c689242180d056eb27c12920", func := "latchgarth/latchgarthlaw3.UnivRow", spec := "univRow", unfollowed := true, recurses := true, apart := false }
def UnivRowSaid : Prop := univRowRow.holds Try.pinned (OpenSpec.ofChange univRowSpec)

/-- ITS FALSE NEIGHBOUR: 'it returns false'. Refute it at one input. -/
def univRowWrong : ChangeSpec := { name := "univRow", fn := fun _ => fun
  | [d1, d2] => { results := [.lit (.bool false)], args := [d1, d2] }
  | _ => none }
def UnivRowWrongFalsely : Prop := univRowRow.holds Try.pinned (OpenSpec.ofChange univRowWrong)

/-- 'latchgarthlaw4.CombRow': WHATEVER THE INPUT: true; the input reads as it did. -/
def combRowSpec : ChangeSpec := { name := "combRow", fn := fun _ => fun
  | [d1, d2] => { results := [.lit (.bool true)], args := [d1, d2] }
  | _ => none }
def combRowRow : OpenClaim := { program := "ytockhbbpcbcenaa", sum := "a01c44e9ab5388f8358125c0bbe0b4d981299ba9c689242180d056eb27c12920", func := "latchgarth/latchgarthlaw4.CombRow", spec := "combRow", unfollowed := true, recurses := true, apart := false }
def CombRowSaid : Prop := combRowRow.holds Try.pinned (OpenSpec.ofChange combRowSpec)

/-- ITS FALSE NEIGHBOUR: 'it returns false'. Refute it at one input. -/
def combRowWrong : ChangeSpec := { name := "combRow", fn := fun _ => fun
  | [d1, d2] => { results := [.lit (.bool false)], args := [d1, d2] }
  | _ => none }
def CombRowWrongFalsely : Prop := combRowRow.holds Try.pinned (OpenSpec.ofChange combRowWrong)

/- THE SECOND FORM. 'bulk': how many values and letters a reading holds, each counted each time it is reached (what is shared counts as often as it is met; a slice's spare places count too). A statement '..UptoSaid' is the law's where the arguments, and the package variables that the reading takes, are together of bulk at most 1048576: NARROWER than '..Said'. Prove '..Said' where nothing that the law and all that it calls make is longer than what came in: it says more and counts as full. Else prove '..UptoSaid'. A law counts once. -/
mutual
def uptoBulk {H : Type} : DataW H → Nat
  | .lit (.string bytes) => bytes.length + 1
  | .lit _ => 1
  | .nil => 1
  | .ptr d => uptoBulk d + 1
  | .slice elems spare => uptoBulkAll elems + uptoBulkAll spare + 1
  | .agg parts => uptoBulkAll parts + 1
  | .iface _ d => uptoBulk d + 1
  | .map entries => uptoBulkEntries entries + 1
  | .held _ => 1
def uptoBulkAll {H : Type} : List (DataW H) → Nat
  | [] => 0
  | d :: r => uptoBulk d + uptoBulkAll r
def uptoBulkEntries {H : Type} : List (Lit × DataW H) → Nat
  | [] => 0
  | x :: r => uptoBulkEntry x + uptoBulkEntries r
def uptoBulkEntry {H : Type} : Lit × DataW H → Nat
  | (.string bytes, d) => bytes.length + uptoBulk d + 1
  | (_, d) => uptoBulk d + 1
 end
def uptoSmall : (H : Type) → List (DataW H) → Bool := fun _ ds => decide (uptoBulkAll ds ≤ 1048576)
def OpenSpec.upto (s : _root_.Go.ChangeSpec) : _root_.Go.OpenSpec := { _root_.Go.OpenSpec.ofChange s with cond := some uptoSmall }

/-- 'latchgarthlaw4.CombOnce', WHERE WHAT IT READS IS OF BULK AT MOST 1048576: true; the input reads as it did. -/
def combOnceUptoRow : OpenClaim := { program := "ytockhbbpcbcenaa", sum := "a01c44e9ab5388f8358125c0bbe0b4d981299ba9c689242180d056eb27c12920", func := "latchgarth/latchgarthlaw4.CombOnce", spec := "combOnce", apart := false, narrowed := true }
def CombOnceUptoSaid : Prop := combOnceUptoRow.holds Try.pinned (OpenSpec.upto combOnceSpec)

/-- 'latchgarthlaw4.CombCrash', WHERE WHAT IT READS IS OF BULK AT MOST 1048576: true; the input reads as it did. -/
def combCrashUptoRow : OpenClaim := { program := "ytockhbbpcbcenaa", sum := "a01c44e9ab5388f8358125c0bbe0b4d981299ba9c689242180d056eb27c12920", func := "latchgarth/latchgarthlaw4.CombCrash", spec := "combCrash", apart := false, narrowed := true }
def CombCrashUptoSaid : Prop := combCrashUptoRow.holds Try.pinned (OpenSpec.upto combCrashSpec)

/-- 'latchgarthlaw4.CombGoes', WHERE WHAT IT READS IS OF BULK AT MOST 1048576: true; the input reads as it did. -/
def combGoesUptoRow : OpenClaim := { program := "ytockhbbpcbcenaa", sum := "a01c44e9ab5388f8358125c0bbe0b4d981299ba9c689242180d056eb27c12920", func := "latchgarth/latchgarthlaw4.CombGoes", spec := "combGoes", apart := false, narrowed := true }
def CombGoesUptoSaid : Prop := combGoesUptoRow.holds Try.pinned (OpenSpec.upto combGoesSpec)

/-- 'latchgarthtop.TopSum', WHERE WHAT IT READS IS OF BULK AT MOST 1048576: true; the input reads as it did. -/
def topSumUptoRow : OpenClaim := { program := "ytockhbbpcbcenaa", sum := "a01c44e9ab5388f8358125c0bbe0b4d981299ba9c689242180d056eb27c12920", func := "latchgarth/latchgarthtop.TopSum", spec := "topSum", unfollowed := true, recurses := true, apart := false, narrowed := true }
def TopSumUptoSaid : Prop := topSumUptoRow.holds Try.pinned (OpenSpec.upto topSumSpec)

/-- 'latchgarthlaw3.UnivRow', WHERE WHAT IT READS IS OF BULK AT MOST 1048576: true; the input reads as it did. -/
def univRowUptoRow : OpenClaim := { program := "ytockhbbpcbcenaa", sum := "a01c44e9ab5388f8358125c0bbe0b4d981299ba9c689242180d056eb27c12920", func := "latchgarth/latchgarthlaw3.UnivRow", spec := "univRow", unfollowed := true, recurses := true, apart := false, narrowed := true }
def UnivRowUptoSaid : Prop := univRowUptoRow.holds Try.pinned (OpenSpec.upto univRowSpec)

/-- 'latchgarthlaw4.CombRow', WHERE WHAT IT READS IS OF BULK AT MOST 1048576: true; the input reads as it did. -/
def combRowUptoRow : OpenClaim := { program := "ytockhbbpcbcenaa", sum := "a01c44e9ab5388f8358125c0bbe0b4d981299ba9c689242180d056eb27c12920", func := "latchgarth/latchgarthlaw4.CombRow", spec := "combRow", unfollowed := true, recurses := true, apart := false, narrowed := true }
def CombRowUptoSaid : Prop := combRowUptoRow.holds Try.pinned (OpenSpec.upto combRowSpec)

end Rows
end Go.Proofs.Ytockhbbpcbcenaa
