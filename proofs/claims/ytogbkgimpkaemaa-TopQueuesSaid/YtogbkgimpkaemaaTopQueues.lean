/- TopQueues: what is put and got one by one, each alone, comes out the same of a queue with two ends and of a ring. No conditions. -/
import Derived.Test.YtogbkgimpkaemaaTr
import Derived.Test.YtogbkgimpkaemaaEngJ
namespace Go.Proofs.Ytogbkgimpkaemaa
open Go.Eng Go.ChangeShapes Go.WideShapes Go.ChangeAt Go.RowKit
theorem topQueues_own : ownKnob Try.prog.godebug = none := by kernel_rfl
theorem topQueues_laid : laidOutB Try.prog = true := by kernel_rfl
theorem topQueues_rowed : (Try.f3.params.toList.all fun t => Try.prog.readableRec t && decide (t < Try.prog.types.size)) = true := by kernel_rfl
set_option maxRecDepth 100000 in
theorem topQueues_lifted (os : Os) (started : os.Started) (K : Type) (enc : TypeId × Value → K) :
    ReturnsInHanded {} Try.checked os 3 .any (Rows.topQueuesSpec.pre6 enc Try.prog Try.f3 Rows.topQueuesRow.domain false) (Rows.topQueuesSpec.post enc Try.prog Try.f3 false true false false) := by
  refine returnsInHanded_of_change (C := Try.checked) topQueues_own started (by kernel_rfl) Try.func3
    (ChangeSpec.witness6 (enc := enc) (C := Try.checked) false ⟨#[], #[.slice none 0 0], []⟩ 8 (by kernel_rfl) (by kernel_rfl) (by kernel_rfl) (by kernel_rfl)) ?_
  intro W base args ds gs before hval0 hW hcnd _
  have hval : ∀ (j : Nat) t v, Try.f3.params[j]? = some t → args[j]? = some v → Value.okWide Try.prog W .any base t v := hval0
  clear hval0 hcnd
  have hW' := hW
  obtain ⟨p, q, hA0, hV, rfl, hfz, hnd⟩ := hW'
  have hA : DataW.TrodAll enc Try.prog W 0 (fun _ => true) true Try.f3.params.toList args.toList ds p := hA0
  clear hA0
  rw [Try.params3] at hA hval
  obtain ⟨v0, vs0, d0, ds0, p0, q0, e0, rfl, rfl, t0, u0⟩ := trodAll_cons hA
  obtain ⟨rfl, rfl, rfl⟩ := trodAll_nil u0
  obtain rfl : args = #[v0] := by cases args; simp_all
  obtain ⟨rfl, rfl⟩ := trodVars_none hV
  obtain ⟨s0, xs0, rfl, r0, b0, l0⟩ := in_ints Try.underlying22 Try.underlying3 rfl (hval 0 22 _ rfl rfl) t0
  refine (SemCall.law (topQueues_c r0 (fun _ => rfl))).mono fun e W' he => ?_
  obtain ⟨rfl, hb⟩ := he
  exact ⟨_, rfl, law_post topQueues_laid topQueues_rowed rfl ⟨rfl, rfl, rfl⟩ rfl Try.underlying4 hW hb⟩
/-- THE GIVEN STATEMENT -/
theorem topQueues_holds : Rows.TopQueuesSaid :=
  OpenClaim.holds_of_wide 3 Try.f3 rfl rfl rfl rfl rfl rfl rfl ⟨rfl, rfl, rfl, rfl, rfl⟩ rfl rfl rfl rfl rfl (by kernel_rfl) Try.func3 (by kernel_rfl)
    (of_decide_eq_true (by kernel_rfl)) (by unfold Func.isWrapper; first | (rw [if_pos (by decide +kernel)]; kernel_rfl) | (rw [if_neg (by decide +kernel)]; exact ⟨rfl, rfl⟩))
    (fun os started K enc _ => topQueues_lifted os started K enc)
end Go.Proofs.Ytogbkgimpkaemaa
