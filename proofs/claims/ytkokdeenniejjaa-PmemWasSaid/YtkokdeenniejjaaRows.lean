/-
  No cell of these rows narrows 'for every input' (looked for: loops, veiled, ifaces, maps, wideKeys, modest, calm, conditions, laid).
  DERIVED. THE GIVEN ROWS OF THIS SEAT. 7 by the template 'for every input the law returns true; each argument reads behind the call as it read before'; 0 by the template 'total and deterministic' (their statements: YtkokdeenniejjaaTotals.lean).
  GIVEN WITH THE SEED: the statements are not yours to turn. If you find one false, say at which input.
  Laid BY PROGRAM, IN A SANDBOX (cutbox-rows.mjs): the forced cells as the released guide's own fill.sh prints them over the translation bf49e97f85cebce4… (all of the seat's roots in one cut). By AI agents, Wed Nov 11 2026. No macro, syntax, notation, axiom, sorry.
-/
import Derived.Test.YtkokdeenniejjaaChecked
import GoSem.Claim
import GoSem.ClaimJoined
import GoSem.ClaimMapViews
import Derived.JoinedTies
import Derived.KernelRfl
namespace Go.Proofs.Ytkokdeenniejjaa
/- THE CELL 'sum', in the pinned program and in every row, IS THE sha256 OF THE DUMP (.gsa) THAT YtkokdeenniejjaaProg.lean LOADS. Nothing in Lean hashes anything: it is a label: what it is worth is what the hold of that sum in a sandbox is worth. -/
noncomputable def Try.pinned : Pinned := { name := "ytkokdeenniejjaa", sum := "bf49e97f85cebce433ddd3c89f5e39e207c08e138f0a5fd9067cc9383838412a", checked := Try.checked }
namespace Rows
def none {H : Type} : Left H := { results := [], args := [] }

/-- 'latchgarthlaw4.PmemWas': WHATEVER THE INPUT: true; the input reads as it did. -/
def pmemWasSpec : ChangeSpec := { name := "pmemWas", fn := fun _ => fun
  | [d1, d2] => { results := [.lit (.bool true)], args := [d1, d2] }
  | _ => none }
def pmemWasRow : OpenClaim := { program := "ytkokdeenniejjaa", sum := "bf49e97f85cebce433ddd3c89f5e39e207c08e138f0a5fd9067cc9383838412a", func := "latchgarth/latchgarthlaw4.PmemWas", spec := "pmemWas", unfollowed := true, recurses := true, apart := false }
def PmemWasSaid : Prop := pmemWasRow.holds Try.pinned (OpenSpec.ofChange pmemWasSpec)

/-- ITS FALSE NEIGHBOUR: 'it returns false'. Refute it at one input. -/
def pmemWasWrong : ChangeSpec := { name := "pmemWas", fn := fun _ => fun
  | [d1, d2] => { results := [.lit (.bool false)], args := [d1, d2] }
  | _ => none }
def PmemWasWrongFalsely : Prop := pmemWasRow.holds Try.pinned (OpenSpec.ofChange pmemWasWrong)

/-- 'latchgarthlaw4.SemCounts': WHATEVER THE INPUT: true; the input reads as it did. -/
def semCountsSpec : ChangeSpec := { name := "semCounts", fn := fun _ => fun
  | [d1, d2] => { results := [.lit (.bool true)], args := [d1, d2] }
  | _ => none }
def semCountsRow : OpenClaim := { program := "ytkokdeenniejjaa", sum := "bf49e97f85cebce433ddd3c89f5e39e207c08e138f0a5fd9067cc9383838412a", func := "latchgarth/latchgarthlaw4.SemCounts", spec := "semCounts", apart := false }
def SemCountsSaid : Prop := semCountsRow.holds Try.pinned (OpenSpec.ofChange semCountsSpec)

/-- ITS FALSE NEIGHBOUR: 'it returns false'. Refute it at one input. -/
def semCountsWrong : ChangeSpec := { name := "semCounts", fn := fun _ => fun
  | [d1, d2] => { results := [.lit (.bool false)], args := [d1, d2] }
  | _ => none }
def SemCountsWrongFalsely : Prop := semCountsRow.holds Try.pinned (OpenSpec.ofChange semCountsWrong)

/-- 'latchgarthlaw4.SemBack': WHATEVER THE INPUT: true; the input reads as it did. -/
def semBackSpec : ChangeSpec := { name := "semBack", fn := fun _ => fun
  | [d1, d2, d3] => { results := [.lit (.bool true)], args := [d1, d2, d3] }
  | _ => none }
def semBackRow : OpenClaim := { program := "ytkokdeenniejjaa", sum := "bf49e97f85cebce433ddd3c89f5e39e207c08e138f0a5fd9067cc9383838412a", func := "latchgarth/latchgarthlaw4.SemBack", spec := "semBack", apart := false }
def SemBackSaid : Prop := semBackRow.holds Try.pinned (OpenSpec.ofChange semBackSpec)

/-- ITS FALSE NEIGHBOUR: 'it returns false'. Refute it at one input. -/
def semBackWrong : ChangeSpec := { name := "semBack", fn := fun _ => fun
  | [d1, d2, d3] => { results := [.lit (.bool false)], args := [d1, d2, d3] }
  | _ => none }
def SemBackWrongFalsely : Prop := semBackRow.holds Try.pinned (OpenSpec.ofChange semBackWrong)

/-- 'latchgarthlaw4.PmemLasts': WHATEVER THE INPUT: true; the input reads as it did. -/
def pmemLastsSpec : ChangeSpec := { name := "pmemLasts", fn := fun _ => fun
  | [d1, d2, d3, d4, d5] => { results := [.lit (.bool true)], args := [d1, d2, d3, d4, d5] }
  | _ => none }
def pmemLastsRow : OpenClaim := { program := "ytkokdeenniejjaa", sum := "bf49e97f85cebce433ddd3c89f5e39e207c08e138f0a5fd9067cc9383838412a", func := "latchgarth/latchgarthlaw4.PmemLasts", spec := "pmemLasts", unfollowed := true, recurses := true, apart := false }
def PmemLastsSaid : Prop := pmemLastsRow.holds Try.pinned (OpenSpec.ofChange pmemLastsSpec)

/-- ITS FALSE NEIGHBOUR: 'it returns false'. Refute it at one input. -/
def pmemLastsWrong : ChangeSpec := { name := "pmemLasts", fn := fun _ => fun
  | [d1, d2, d3, d4, d5] => { results := [.lit (.bool false)], args := [d1, d2, d3, d4, d5] }
  | _ => none }
def PmemLastsWrongFalsely : Prop := pmemLastsRow.holds Try.pinned (OpenSpec.ofChange pmemLastsWrong)

/-- 'latchgarthlaw4.RwApart': WHATEVER THE INPUT: true; the input reads as it did. -/
def rwApartSpec : ChangeSpec := { name := "rwApart", fn := fun _ => fun
  | [d] => { results := [.lit (.bool true)], args := [d] }
  | _ => none }
def rwApartRow : OpenClaim := { program := "ytkokdeenniejjaa", sum := "bf49e97f85cebce433ddd3c89f5e39e207c08e138f0a5fd9067cc9383838412a", func := "latchgarth/latchgarthlaw4.RwApart", spec := "rwApart", unfollowed := true, recurses := true, apart := false }
def RwApartSaid : Prop := rwApartRow.holds Try.pinned (OpenSpec.ofChange rwApartSpec)

/-- ITS FALSE NEIGHBOUR: 'it returns false'. Refute it at one input. -/
def rwApartWrong : ChangeSpec := { name := "rwApart", fn := fun _ => fun
  | [d] => { results := [.lit (.bool false)], args := [d] }
  | _ => none }
def RwApartWrongFalsely : Prop := rwApartRow.holds Try.pinned (OpenSpec.ofChange rwApartWrong)

/-- 'latchgarthlaw4.RwServes': WHATEVER THE INPUT: true; the input reads as it did. -/
def rwServesSpec : ChangeSpec := { name := "rwServes", fn := fun _ => fun
  | [d] => { results := [.lit (.bool true)], args := [d] }
  | _ => none }
def rwServesRow : OpenClaim := { program := "ytkokdeenniejjaa", sum := "bf49e97f85cebce433ddd3c89f5e39e207c08e138f0a5fd9067cc9383838412a", func := "latchgarth/latchgarthlaw4.RwServes", spec := "rwServes", unfollowed := true, recurses := true, apart := false }
def RwServesSaid : Prop := rwServesRow.holds Try.pinned (OpenSpec.ofChange rwServesSpec)

/-- ITS FALSE NEIGHBOUR: 'it returns false'. Refute it at one input. -/
def rwServesWrong : ChangeSpec := { name := "rwServes", fn := fun _ => fun
  | [d] => { results := [.lit (.bool false)], args := [d] }
  | _ => none }
def RwServesWrongFalsely : Prop := rwServesRow.holds Try.pinned (OpenSpec.ofChange rwServesWrong)

/-- 'latchgarthlaw4.RwReads': WHATEVER THE INPUT: true; the input reads as it did. -/
def rwReadsSpec : ChangeSpec := { name := "rwReads", fn := fun _ => fun
  | [d1, d2] => { results := [.lit (.bool true)], args := [d1, d2] }
  | _ => none }
def rwReadsRow : OpenClaim := { program := "ytkokdeenniejjaa", sum := "bf49e97f85cebce433ddd3c89f5e39e207c08e138f0a5fd9067cc9383838412a", func := "latchgarth/latchgarthlaw4.RwReads", spec := "rwReads", unfollowed := true, recurses := true, apart := false }
def RwReadsSaid : Prop := rwReadsRow.holds Try.pinned (OpenSpec.ofChange rwReadsSpec)

/-- ITS FALSE NEIGHBOUR: 'it returns false'. Refute it at one input. -/
def rwReadsWrong : ChangeSpec := { name := "rwReads", fn := fun _ => fun
  | [d1, d2] => { results := [.lit (.bool false)], args := [d1, d2] }
  | _ => none }
def RwReadsWrongFalsely : Prop := rwReadsRow.holds Try.pinned (OpenSpec.ofChange rwReadsWrong)

/- THE SECOND FORM. 'bulk': how many values and letters a reading holds, each counted each time it is reached (what is shared counts as often as it is met; a slice's spare places count too). A statement '..UptoSaid' is the law's where the arguments, and the package variables that the reading takes, are together of bulk at most 1048576: NARROWER than '..Said'. Prove '..Said' where nothing that the law and all that it calls make is longer than what came in: it says more and counts as full. Else prove '..UptoSaid'. A law counts once. -/
mutual
def uptoBulk {H : Type} : DataW H → Nat
  | .lit (.string bytes) => bytes.length + 1
  | .lit _ => 1
  | .nil => 1
  | .ptr d => uptoBulk d + 1
  | .slice elems spare => uptoBulkAll elems + uptoBulkAll spare + 1
  | .agg parts => uptoBulkAll parts + 1
  | .iface _ d => uptoBulk d + 1
  | .map entries => uptoBulkEntries entries + 1
  | .held _ => 1
def uptoBulkAll {H : Type} : List (DataW H) → Nat
  | [] => 0
  | d :: r => uptoBulk d + uptoBulkAll r
def uptoBulkEntries {H : Type} : List (Lit × DataW H) → Nat
  | [] => 0
  | x :: r => uptoBulkEntry x + uptoBulkEntries r
def uptoBulkEntry {H : Type} : Lit × DataW H → Nat
  | (.string bytes, d) => bytes.length + uptoBulk d + 1
  | (_, d) => uptoBulk d + 1
 end
def uptoSmall : (H : Type) → List (DataW H) → Bool := fun _ ds => decide (uptoBulkAll ds ≤ 1048576)
def OpenSpec.upto (s : _root_.Go.ChangeSpec) : _root_.Go.OpenSpec := { _root_.Go.OpenSpec.ofChange s with cond := some uptoSmall }

/-- 'latchgarthlaw4.PmemWas', WHERE WHAT IT READS IS OF BULK AT MOST 1048576: true; the input reads as it did. -/
def pmemWasUptoRow : OpenClaim := { program := "ytkokdeenniejjaa", sum := "bf49e97f85cebce433ddd3c89f5e39e207c08e138f0a5fd9067cc9383838412a", func := "latchgarth/latchgarthlaw4.PmemWas", spec := "pmemWas", unfollowed := true, recurses := true, apart := false, narrowed := true }
def PmemWasUptoSaid : Prop := pmemWasUptoRow.holds Try.pinned (OpenSpec.upto pmemWasSpec)

/-- 'latchgarthlaw4.SemCounts', WHERE WHAT IT READS IS OF BULK AT MOST 1048576: true; the input reads as it did. -/
def semCountsUptoRow : OpenClaim := { program := "ytkokdeenniejjaa", sum := "bf49e97f85cebce433ddd3c89f5e39e207c08e138f0a5fd9067cc9383838412a", func := "latchgarth/latchgarthlaw4.SemCounts", spec := "semCounts", apart := false, narrowed := true }
def SemCountsUptoSaid : Prop := semCountsUptoRow.holds Try.pinned (OpenSpec.upto semCountsSpec)

/-- 'latchgarthlaw4.SemBack', WHERE WHAT IT READS IS OF BULK AT MOST 1048576: true; the input reads as it did. -/
def semBackUptoRow : OpenClaim := { program := "ytkokdeenniejjaa", sum := "bf49e97f85cebce433ddd3c89f5e39e207c08e138f0a5fd9067cc9383838412a", func := "latchgarth/latchgarthlaw4.SemBack", spec := "semBack", apart := false, narrowed := true }
def SemBackUptoSaid : Prop := semBackUptoRow.holds Try.pinned (OpenSpec.upto semBackSpec)

/-- 'latchgarthlaw4.PmemLasts', WHERE WHAT IT READS IS OF BULK AT MOST 1048576: true; the input reads as it did. -/
def pmemLastsUptoRow : OpenClaim := { program := "ytkokdeenniejjaa", sum := "bf49e97f85cebce433ddd3c89f5e39e207c08e138f0a5fd9067cc9383838412a", func := "latchgarth/latchgarthlaw4.PmemLasts", spec := "pmemLasts", unfollowed := true, recurses := true, apart := false, narrowed := true }
def PmemLastsUptoSaid : Prop := pmemLastsUptoRow.holds Try.pinned (OpenSpec.upto pmemLastsSpec)

/-- 'latchgarthlaw4.RwApart', WHERE WHAT IT READS IS OF BULK AT MOST 1048576: true; the input reads as it did. -/
def rwApartUptoRow : OpenClaim := { program := "ytkokdeenniejjaa", sum := "bf49e97f85cebce433ddd3c89f5e39e207c08e138f0a5fd9067cc9383838412a", func := "latchgarth/latchgarthlaw4.RwApart", spec := "rwApart", unfollowed := true, recurses := true, apart := false, narrowed := true }
def RwApartUptoSaid : Prop := rwApartUptoRow.holds Try.pinned (OpenSpec.upto rwApartSpec)

/-- 'latchgarthlaw4.RwServes', WHERE WHAT IT READS IS OF BULK AT MOST 1048576: true; the input reads as it did. -/
def rwServesUptoRow : OpenClaim := { program := "ytkokdeenniejjaa", sum := "bf49e97f85cebce433ddd3c89f5e39e207c08e138f0a5fd9067cc9383838412a", func := "latchgarth/latchgarthlaw4.RwServes", spec := "rwServes", unfollowed := true, recurses := true, apart := false, narrowed := true }
def RwServesUptoSaid : Prop := rwServesUptoRow.holds Try.pinned (OpenSpec.upto rwServesSpec)

/-- 'latchgarthlaw4.RwReads', WHERE WHAT IT READS IS OF BULK AT MOST 1048576: true; the input reads as it did. -/
def rwReadsUptoRow : OpenClaim := { program := "ytkokdeenniejjaa", sum := "bf49e97f85cebce433ddd3c89f5e39e207c08e138f0a5fd9067cc9383838412a", func := "latchgarth/latchgarthlaw4.RwReads", spec := "rwReads", unfollowed := true, recurses := true, apart := false, narrowed := true }
def RwReadsUptoSaid : Prop := rwReadsUptoRow.holds Try.pinned (OpenSpec.upto rwReadsSpec)

end Rows
end Go.Proofs.Ytkokdeenniejjaa
