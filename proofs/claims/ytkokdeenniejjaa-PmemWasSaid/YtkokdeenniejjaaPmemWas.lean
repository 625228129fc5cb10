/- PmemWas: behind any steps each cell has what was written to it at some time, or 0; with all kept a crash changes nothing. No conditions. -/
import Derived.Test.YtkokdeenniejjaaPd
import Derived.Test.YtkokdeenniejjaaEngJ
namespace Go.Proofs.Ytkokdeenniejjaa
open Go.Eng Go.ChangeShapes Go.WideShapes Go.ChangeAt Go.RowKit
theorem pmemWas_own : ownKnob Try.prog.godebug = none := by kernel_rfl
theorem pmemWas_laid : laidOutB Try.prog = true := by kernel_rfl
theorem pmemWas_rowed : (Try.f3.params.toList.all fun t => Try.prog.readableRec t && decide (t < Try.prog.types.size)) = true := by kernel_rfl
set_option maxRecDepth 100000 in
theorem pmemWas_lifted (os : Os) (started : os.Started) (K : Type) (enc : TypeId × Value → K) :
    ReturnsInHanded {} Try.checked os 3 .any (Rows.pmemWasSpec.pre6 enc Try.prog Try.f3 Rows.pmemWasRow.domain false) (Rows.pmemWasSpec.post enc Try.prog Try.f3 false true false false) := by
  refine returnsInHanded_of_change (C := Try.checked) pmemWas_own started (by kernel_rfl) Try.func3
    (ChangeSpec.witness6 (enc := enc) (C := Try.checked) false ⟨#[], #[.int .i64 0, .slice none 0 0], []⟩ 8 (by kernel_rfl) (by kernel_rfl) (by kernel_rfl) (by kernel_rfl)) ?_
  intro W base args ds gs before hval0 hW hcnd _
  have hval : ∀ (j : Nat) t v, Try.f3.params[j]? = some t → args[j]? = some v → Value.okWide Try.prog W .any base t v := hval0
  clear hval0 hcnd
  have hW' := hW
  obtain ⟨p, q, hA0, hV, rfl, hfz, hnd⟩ := hW'
  have hA : DataW.TrodAll enc Try.prog W 0 (fun _ => true) true Try.f3.params.toList args.toList ds p := hA0
  clear hA0
  rw [Try.params3] at hA hval
  obtain ⟨v0, vs0, d0, ds0, p0, q0, e0, rfl, rfl, t0, u0⟩ := trodAll_cons hA
  obtain ⟨v1, vs1, d1, ds1, p1, q1, rfl, rfl, rfl, t1, u1⟩ := trodAll_cons u0
  obtain ⟨rfl, rfl, rfl⟩ := trodAll_nil u1
  obtain rfl : args = #[v0, v1] := by cases args; simp_all
  obtain ⟨rfl, rfl⟩ := trodVars_none hV
  obtain ⟨n0, rfl, b0⟩ := in_int Try.underlying3 (hval 0 3 _ rfl rfl) t0
  obtain ⟨s1, xs1, rfl, r1, b1, l1, m1⟩ := in_int_rows Try.underlying22 Try.underlying30 Try.underlying3 rfl rfl (hval 1 22 _ rfl rfl) t1
  refine (SemCall.law (pmemWas_c r1 (fun _ => rfl))).mono fun e W' he => ?_
  obtain ⟨rfl, hb⟩ := he
  exact ⟨_, rfl, law_post pmemWas_laid pmemWas_rowed rfl ⟨rfl, rfl, rfl⟩ rfl Try.underlying4 hW hb⟩
/-- THE GIVEN STATEMENT -/
theorem pmemWas_holds : Rows.PmemWasSaid :=
  OpenClaim.holds_of_wide 3 Try.f3 rfl rfl rfl rfl rfl rfl rfl ⟨rfl, rfl, rfl, rfl, rfl⟩ rfl rfl rfl rfl rfl (by kernel_rfl) Try.func3 (by kernel_rfl)
    (of_decide_eq_true (by kernel_rfl)) (by unfold Func.isWrapper; first | (rw [if_pos (by decide +kernel)]; kernel_rfl) | (rw [if_neg (by decide +kernel)]; exact ⟨rfl, rfl⟩))
    (fun os started K enc _ => pmemWas_lifted os started K enc)
end Go.Proofs.Ytkokdeenniejjaa
