/-
  NARROWER THAN 'FOR EVERY INPUT', by the rows' own cells (each row's printed sentence says how): BankRow: laid · BankMore: laid · BankSays: laid · BankKeeps: laid · LinSays: laid · LinWide: laid.
  DERIVED. THE GIVEN ROWS OF THIS SEAT. 6 by the template 'for every input the law returns true; each argument reads behind the call as it read before'; 0 by the template 'total and deterministic' (their statements: YtnepjdobknjecaaDoorTotals.lean).
  GIVEN WITH THE SEED: the statements are not yours to turn. If you find one false, say at which input.
  Laid BY PROGRAM, IN A SANDBOX (cutbox-rows.mjs): the forced cells as the released guide's own fill.sh prints them over the translation d0c56d989accceda… (all of the seat's roots in one cut). By AI agents, Wed Nov 11 2026. No macro, syntax, notation, axiom, sorry.
-/
import Derived.Test.YtnepjdobknjecaaDoorChecked
import GoSem.Claim
import GoSem.ClaimJoined
import GoSem.ClaimMapViews
import Derived.JoinedTies
import Derived.KernelRfl
namespace Go.Proofs.YtnepjdobknjecaaDoor
/- THE CELL 'sum', in the pinned program and in every row, IS THE sha256 OF THE DUMP (.gsa) THAT YtnepjdobknjecaaDoorProg.lean LOADS. Nothing in Lean hashes anything: it is a label: what it is worth is what the hold of that sum in a sandbox is worth. -/
noncomputable def Tryd.pinned : Pinned := { name := "ytnepjdobknjecaadoor", sum := "d0c56d989accceda768dd8c1baa4f1084ec00f093aa2dfb5a9554a12eff32eb9", checked := Tryd.checked }
namespace Rows
def none {H : Type} : Left H := { results := [], args := [] }

/- WHAT THE LISTED PACKAGE-LEVEL VARIABLES READ AS WHEN THE CALL BEGINS. Each datum BY PROGRAM (the guide's laid-datum.mjs) off the statement by which the dump's own 'gosem.cut.vars' lays the variable. In a bare row this is a premise. The card (YtnepjdobknjecaaDoorCards.lean) ties it to the program's text. -/
def laid_errors_errorType {H : Type} : DataW H := .iface "internal/reflectlite.rtype" (.agg [.ptr (.lit (.string [101, 114, 114, 111, 114]))])

/-- 'latchgarthlaw4.BankRow': WHATEVER THE INPUT: true; the input reads as it did. -/
def bankRowSpec : ChangeSpec := { name := "bankRow", fn := fun _ => fun
  | [d1, d2] => { results := [.lit (.bool true)], args := [d1, d2] }
  | _ => none }
def bankRowRow : OpenClaim := { program := "ytnepjdobknjecaadoor", sum := "d0c56d989accceda768dd8c1baa4f1084ec00f093aa2dfb5a9554a12eff32eb9", func := "latchgarth/latchgarthlaw4.BankRow", spec := "bankRow", inPlace := ["internal/reflectlite.ValueOf", "(internal/reflectlite.Value).Type", "(internal/reflectlite.Value).IsNil", "internal/reflectlite.TypeOf", "(internal/reflectlite.Value).Elem", "(internal/reflectlite.Value).Set"], unfollowed := true, recurses := true, named := ["errors.errorType"], apart := false, laid := [("errors.errorType", laid_errors_errorType)] }
def BankRowSaid : Prop := bankRowRow.holds Tryd.pinned (OpenSpec.ofChange bankRowSpec)

/-- ITS FALSE NEIGHBOUR: 'it returns false'. Refute it at one input. -/
def bankRowWrong : ChangeSpec := { name := "bankRow", fn := fun _ => fun
  | [d1, d2] => { results := [.lit (.bool false)], args := [d1, d2] }
  | _ => none }
def BankRowWrongFalsely : Prop := bankRowRow.holds Tryd.pinned (OpenSpec.ofChange bankRowWrong)

/-- 'latchgarthlaw4.BankMore': WHATEVER THE INPUT: true; the input reads as it did. -/
def bankMoreSpec : ChangeSpec := { name := "bankMore", fn := fun _ => fun
  | [d1, d2, d3] => { results := [.lit (.bool true)], args := [d1, d2, d3] }
  | _ => none }
def bankMoreRow : OpenClaim := { program := "ytnepjdobknjecaadoor", sum := "d0c56d989accceda768dd8c1baa4f1084ec00f093aa2dfb5a9554a12eff32eb9", func := "latchgarth/latchgarthlaw4.BankMore", spec := "bankMore", inPlace := ["internal/reflectlite.ValueOf", "(internal/reflectlite.Value).Type", "(internal/reflectlite.Value).IsNil", "internal/reflectlite.TypeOf", "(internal/reflectlite.Value).Elem", "(internal/reflectlite.Value).Set"], unfollowed := true, recurses := true, named := ["errors.errorType"], apart := false, laid := [("errors.errorType", laid_errors_errorType)] }
def BankMoreSaid : Prop := bankMoreRow.holds Tryd.pinned (OpenSpec.ofChange bankMoreSpec)

/-- ITS FALSE NEIGHBOUR: 'it returns false'. Refute it at one input. -/
def bankMoreWrong : ChangeSpec := { name := "bankMore", fn := fun _ => fun
  | [d1, d2, d3] => { results := [.lit (.bool false)], args := [d1, d2, d3] }
  | _ => none }
def BankMoreWrongFalsely : Prop := bankMoreRow.holds Tryd.pinned (OpenSpec.ofChange bankMoreWrong)

/-- 'latchgarthlaw4.BankSays': WHATEVER THE INPUT: true; the input reads as it did. -/
def bankSaysSpec : ChangeSpec := { name := "bankSays", fn := fun _ => fun
  | [d1, d2, d3] => { results := [.lit (.bool true)], args := [d1, d2, d3] }
  | _ => none }
def bankSaysRow : OpenClaim := { program := "ytnepjdobknjecaadoor", sum := "d0c56d989accceda768dd8c1baa4f1084ec00f093aa2dfb5a9554a12eff32eb9", func := "latchgarth/latchgarthlaw4.BankSays", spec := "bankSays", inPlace := ["internal/reflectlite.ValueOf", "(internal/reflectlite.Value).Type", "(internal/reflectlite.Value).IsNil", "internal/reflectlite.TypeOf", "(internal/reflectlite.Value).Elem", "(internal/reflectlite.Value).Set"], unfollowed := true, recurses := true, named := ["errors.errorType"], apart := false, laid := [("errors.errorType", laid_errors_errorType)] }
def BankSaysSaid : Prop := bankSaysRow.holds Tryd.pinned (OpenSpec.ofChange bankSaysSpec)

/-- ITS FALSE NEIGHBOUR: 'it returns false'. Refute it at one input. -/
def bankSaysWrong : ChangeSpec := { name := "bankSays", fn := fun _ => fun
  | [d1, d2, d3] => { results := [.lit (.bool false)], args := [d1, d2, d3] }
  | _ => none }
def BankSaysWrongFalsely : Prop := bankSaysRow.holds Tryd.pinned (OpenSpec.ofChange bankSaysWrong)

/-- 'latchgarthlaw4.BankKeeps': WHATEVER THE INPUT: true; the input reads as it did. -/
def bankKeepsSpec : ChangeSpec := { name := "bankKeeps", fn := fun _ => fun
  | [d1, d2, d3] => { results := [.lit (.bool true)], args := [d1, d2, d3] }
  | _ => none }
def bankKeepsRow : OpenClaim := { program := "ytnepjdobknjecaadoor", sum := "d0c56d989accceda768dd8c1baa4f1084ec00f093aa2dfb5a9554a12eff32eb9", func := "latchgarth/latchgarthlaw4.BankKeeps", spec := "bankKeeps", inPlace := ["internal/reflectlite.ValueOf", "(internal/reflectlite.Value).Type", "(internal/reflectlite.Value).IsNil", "internal/reflectlite.TypeOf", "(internal/reflectlite.Value).Elem", "(internal/reflectlite.Value).Set"], unfollowed := true, recurses := true, named := ["errors.errorType"], apart := false, laid := [("errors.errorType", laid_errors_errorType)] }
def BankKeepsSaid : Prop := bankKeepsRow.holds Tryd.pinned (OpenSpec.ofChange bankKeepsSpec)

/-- ITS FALSE NEIGHBOUR: 'it returns false'. Refute it at one input. -/
def bankKeepsWrong : ChangeSpec := { name := "bankKeeps", fn := fun _ => fun
  | [d1, d2, d3] => { results := [.lit (.bool false)], args := [d1, d2, d3] }
  | _ => none }
def BankKeepsWrongFalsely : Prop := bankKeepsRow.holds Tryd.pinned (OpenSpec.ofChange bankKeepsWrong)

/-- 'latchgarthlaw4.LinSays': WHATEVER THE INPUT: true; the input reads as it did. -/
def linSaysSpec : ChangeSpec := { name := "linSays", fn := fun _ => fun
  | [d1, d2] => { results := [.lit (.bool true)], args := [d1, d2] }
  | _ => none }
def linSaysRow : OpenClaim := { program := "ytnepjdobknjecaadoor", sum := "d0c56d989accceda768dd8c1baa4f1084ec00f093aa2dfb5a9554a12eff32eb9", func := "latchgarth/latchgarthlaw4.LinSays", spec := "linSays", inPlace := ["internal/reflectlite.ValueOf", "(internal/reflectlite.Value).Type", "(internal/reflectlite.Value).IsNil", "internal/reflectlite.TypeOf", "(internal/reflectlite.Value).Elem", "(internal/reflectlite.Value).Set"], unfollowed := true, recurses := true, named := ["errors.errorType"], apart := false, laid := [("errors.errorType", laid_errors_errorType)] }
def LinSaysSaid : Prop := linSaysRow.holds Tryd.pinned (OpenSpec.ofChange linSaysSpec)

/-- ITS FALSE NEIGHBOUR: 'it returns false'. Refute it at one input. -/
def linSaysWrong : ChangeSpec := { name := "linSays", fn := fun _ => fun
  | [d1, d2] => { results := [.lit (.bool false)], args := [d1, d2] }
  | _ => none }
def LinSaysWrongFalsely : Prop := linSaysRow.holds Tryd.pinned (OpenSpec.ofChange linSaysWrong)

/-- 'latchgarthlaw4.LinWide': WHATEVER THE INPUT: true; the input reads as it did. -/
def linWideSpec : ChangeSpec := { name := "linWide", fn := fun _ => fun
  | [d1, d2, d3, d4, d5] => { results := [.lit (.bool true)], args := [d1, d2, d3, d4, d5] }
  | _ => none }
def linWideRow : OpenClaim := { program := "ytnepjdobknjecaadoor", sum := "d0c56d989accceda768dd8c1baa4f1084ec00f093aa2dfb5a9554a12eff32eb9", func := "latchgarth/latchgarthlaw4.LinWide", spec := "linWide", inPlace := ["internal/reflectlite.ValueOf", "(internal/reflectlite.Value).Type", "(internal/reflectlite.Value).IsNil", "internal/reflectlite.TypeOf", "(internal/reflectlite.Value).Elem", "(internal/reflectlite.Value).Set"], unfollowed := true, recurses := true, named := ["errors.errorType"], apart := false, laid := [("errors.errorType", laid_errors_errorType)] }
def LinWideSaid : Prop := linWideRow.holds Tryd.pinned (OpenSpec.ofChange linWideSpec)

/-- ITS FALSE NEIGHBOUR: 'it returns false'. Refute it at one input. -/
def linWideWrong : ChangeSpec := { name := "linWide", fn := fun _ => fun
  | [d1, d2, d3, d4, d5] => { results := [.lit (.bool false)], args := [d1, d2, d3, d4, d5] }
  | _ => none }
def LinWideWrongFalsely : Prop := linWideRow.holds Tryd.pinned (OpenSpec.ofChange linWideWrong)

/- THE SECOND FORM. 'bulk': how many values and letters a reading holds, each counted each time it is reached (what is shared counts as often as it is met; a slice's spare places count too). A statement '..UptoSaid' is the law's where the arguments, and the package variables that the reading takes, are together of bulk at most 1048576: NARROWER than '..Said'. Prove '..Said' where nothing that the law and all that it calls make is longer than what came in: it says more and counts as full. Else prove '..UptoSaid'. A law counts once. -/
mutual
def uptoBulk {H : Type} : DataW H → Nat
  | .lit (.string bytes) => bytes.length + 1
  | .lit _ => 1
  | .nil => 1
  | .ptr d => uptoBulk d + 1
  | .slice elems spare => uptoBulkAll elems + uptoBulkAll spare + 1
  | .agg parts => uptoBulkAll parts + 1
  | .iface _ d => uptoBulk d + 1
  | .map entries => uptoBulkEntries entries + 1
  | .held _ => 1
def uptoBulkAll {H : Type} : List (DataW H) → Nat
  | [] => 0
  | d :: r => uptoBulk d + uptoBulkAll r
def uptoBulkEntries {H : Type} : List (Lit × DataW H) → Nat
  | [] => 0
  | x :: r => uptoBulkEntry x + uptoBulkEntries r
def uptoBulkEntry {H : Type} : Lit × DataW H → Nat
  | (.string bytes, d) => bytes.length + uptoBulk d + 1
  | (_, d) => uptoBulk d + 1
 end
def uptoSmall : (H : Type) → List (DataW H) → Bool := fun _ ds => decide (uptoBulkAll ds ≤ 1048576)
def OpenSpec.upto (s : _root_.Go.ChangeSpec) : _root_.Go.OpenSpec := { _root_.Go.OpenSpec.ofChange s with cond := some uptoSmall }

/-- 'latchgarthlaw4.BankRow', WHERE WHAT IT READS IS OF BULK AT MOST 1048576: true; the input reads as it did. -/
def bankRowUptoRow : OpenClaim := { program := "ytnepjdobknjecaadoor", sum := "d0c56d989accceda768dd8c1baa4f1084ec00f093aa2dfb5a9554a12eff32eb9", func := "latchgarth/latchgarthlaw4.BankRow", spec := "bankRow", inPlace := ["internal/reflectlite.ValueOf", "(internal/reflectlite.Value).Type", "(internal/reflectlite.Value).IsNil", "internal/reflectlite.TypeOf", "(internal/reflectlite.Value).Elem", "(internal/reflectlite.Value).Set"], unfollowed := true, recurses := true, named := ["errors.errorType"], apart := false, laid := [("errors.errorType", laid_errors_errorType)], narrowed := true }
def BankRowUptoSaid : Prop := bankRowUptoRow.holds Tryd.pinned (OpenSpec.upto bankRowSpec)

/-- 'latchgarthlaw4.BankMore', WHERE WHAT IT READS IS OF BULK AT MOST 1048576: true; the input reads as it did. -/
def bankMoreUptoRow : OpenClaim := { program := "ytnepjdobknjecaadoor", sum := "d0c56d989accceda768dd8c1baa4f1084ec00f093aa2dfb5a9554a12eff32eb9", func := "latchgarth/latchgarthlaw4.BankMore", spec := "bankMore", inPlace := ["internal/reflectlite.ValueOf", "(internal/reflectlite.Value).Type", "(internal/reflectlite.Value).IsNil", "internal/reflectlite.TypeOf", "(internal/reflectlite.Value).Elem", "(internal/reflectlite.Value).Set"], unfollowed := true, recurses := true, named := ["errors.errorType"], apart := false, laid := [("errors.errorType", laid_errors_errorType)], narrowed := true }
def BankMoreUptoSaid : Prop := bankMoreUptoRow.holds Tryd.pinned (OpenSpec.upto bankMoreSpec)

/-- 'latchgarthlaw4.BankSays', WHERE WHAT IT READS IS OF BULK AT MOST 1048576: true; the input reads as it did. -/
def bankSaysUptoRow : OpenClaim := { program := "ytnepjdobknjecaadoor", sum := "d0c56d989accceda768dd8c1baa4f1084ec00f093aa2dfb5a9554a12eff32eb9", func := "latchgarth/latchgarthlaw4.BankSays", spec := "bankSays", inPlace := ["internal/reflectlite.ValueOf", "(internal/reflectlite.Value).Type", "(internal/reflectlite.Value).IsNil", "internal/reflectlite.TypeOf", "(internal/reflectlite.Value).Elem", "(internal/reflectlite.Value).Set"], unfollowed := true, recurses := true, named := ["errors.errorType"], apart := false, laid := [("errors.errorType", laid_errors_errorType)], narrowed := true }
def BankSaysUptoSaid : Prop := bankSaysUptoRow.holds Tryd.pinned (OpenSpec.upto bankSaysSpec)

/-- 'latchgarthlaw4.BankKeeps', WHERE WHAT IT READS IS OF BULK AT MOST 1048576: true; the input reads as it did. -/
def bankKeepsUptoRow : OpenClaim := { program := "ytnepjdobknjecaadoor", sum := "d0c56d989accceda768dd8c1baa4f1084ec00f093aa2dfb5a9554a12eff32eb9", func := "latchgarth/latchgarthlaw4.BankKeeps", spec := "bankKeeps", inPlace := ["internal/reflectlite.ValueOf", "(internal/reflectlite.Value).Type", "(internal/reflectlite.Value).IsNil", "internal/reflectlite.TypeOf", "(internal/reflectlite.Value).Elem", "(internal/reflectlite.Value).Set"], unfollowed := true, recurses := true, named := ["errors.errorType"], apart := false, laid := [("errors.errorType", laid_errors_errorType)], narrowed := true }
def BankKeepsUptoSaid : Prop := bankKeepsUptoRow.holds Tryd.pinned (OpenSpec.upto bankKeepsSpec)

/-- 'latchgarthlaw4.LinSays', WHERE WHAT IT READS IS OF BULK AT MOST 1048576: true; the input reads as it did. -/
def linSaysUptoRow : OpenClaim := { program := "ytnepjdobknjecaadoor", sum := "d0c56d989accceda768dd8c1baa4f1084ec00f093aa2dfb5a9554a12eff32eb9", func := "latchgarth/latchgarthlaw4.LinSays", spec := "linSays", inPlace := ["internal/reflectlite.ValueOf", "(internal/reflectlite.Value).Type", "(internal/reflectlite.Value).IsNil", "internal/reflectlite.TypeOf", "(internal/reflectlite.Value).Elem", "(internal/reflectlite.Value).Set"], unfollowed := true, recurses := true, named := ["errors.errorType"], apart := false, laid := [("errors.errorType", laid_errors_errorType)], narrowed := true }
def LinSaysUptoSaid : Prop := linSaysUptoRow.holds Tryd.pinned (OpenSpec.upto linSaysSpec)

/-- 'latchgarthlaw4.LinWide', WHERE WHAT IT READS IS OF BULK AT MOST 1048576: true; the input reads as it did. -/
def linWideUptoRow : OpenClaim := { program := "ytnepjdobknjecaadoor", sum := "d0c56d989accceda768dd8c1baa4f1084ec00f093aa2dfb5a9554a12eff32eb9", func := "latchgarth/latchgarthlaw4.LinWide", spec := "linWide", inPlace := ["internal/reflectlite.ValueOf", "(internal/reflectlite.Value).Type", "(internal/reflectlite.Value).IsNil", "internal/reflectlite.TypeOf", "(internal/reflectlite.Value).Elem", "(internal/reflectlite.Value).Set"], unfollowed := true, recurses := true, named := ["errors.errorType"], apart := false, laid := [("errors.errorType", laid_errors_errorType)], narrowed := true }
def LinWideUptoSaid : Prop := linWideUptoRow.holds Tryd.pinned (OpenSpec.upto linWideSpec)

end Rows
end Go.Proofs.YtnepjdobknjecaaDoor
