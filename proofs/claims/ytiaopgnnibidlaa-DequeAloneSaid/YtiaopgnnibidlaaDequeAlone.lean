/- For every list of kinds the statement DequeAlone answers true and leaves its argument as it was. No conditions. -/
import Derived.Test.YtiaopgnnibidlaaD7
import Derived.Test.YtiaopgnnibidlaaEngJ
namespace Go.Proofs.Ytiaopgnnibidlaa
open Go.Eng Go.ChangeShapes Go.WideShapes Go.ChangeAt Go.RowKit
theorem dequeAlone_own : ownKnob Try.prog.godebug = none := by kernel_rfl
theorem dequeAlone_laid : laidOutB Try.prog = true := by kernel_rfl
theorem dequeAlone_rowed : (Try.f7.params.toList.all fun t => Try.prog.readableRec t && decide (t < Try.prog.types.size)) = true := by kernel_rfl
set_option maxRecDepth 100000 in
theorem dequeAlone_lifted (os : Os) (started : os.Started) (K : Type) (enc : TypeId × Value → K) :
    ReturnsInHanded {} Try.checked os 7 .any (Rows.dequeAloneSpec.pre6 enc Try.prog Try.f7 Rows.dequeAloneRow.domain false) (Rows.dequeAloneSpec.post enc Try.prog Try.f7 false true false false) := by
  refine returnsInHanded_of_change (C := Try.checked) dequeAlone_own started (by kernel_rfl) Try.func7
    (ChangeSpec.witness6 (enc := enc) (C := Try.checked) false ⟨#[], #[.slice none 0 0], []⟩ 8 (by kernel_rfl) (by kernel_rfl) (by kernel_rfl) (by kernel_rfl)) ?_
  intro W base args ds gs before hval0 hW hcnd _
  have hval : ∀ (j : Nat) t v, Try.f7.params[j]? = some t → args[j]? = some v → Value.okWide Try.prog W .any base t v := hval0
  clear hval0 hcnd
  have hW' := hW
  obtain ⟨p, q, hA0, hV, rfl, hfz, hnd⟩ := hW'
  have hA : DataW.TrodAll enc Try.prog W 0 (fun _ => true) true Try.f7.params.toList args.toList ds p := hA0
  clear hA0
  rw [Try.params7] at hA hval
  obtain ⟨v0, vs0, d0, ds0, p0, q0, e0, rfl, rfl, t0, u0⟩ := trodAll_cons hA
  obtain ⟨rfl, rfl, rfl⟩ := trodAll_nil u0
  obtain rfl : args = #[v0] := by cases args; simp_all
  obtain ⟨rfl, rfl⟩ := trodVars_none hV
  obtain ⟨s0, xs0, rfl, r0, b0, l0⟩ := in_ints Try.underlying36 Try.underlying3 rfl (hval 0 36 _ rfl rfl) t0
  refine (SemCall.law (dequeAlone_c r0 (fun _ => rfl))).mono fun e W' he => ?_
  obtain ⟨rfl, hb⟩ := he
  exact ⟨_, rfl, law_post dequeAlone_laid dequeAlone_rowed rfl ⟨rfl, rfl, rfl⟩ rfl Try.underlying4 hW hb⟩
/-- THE GIVEN STATEMENT -/
theorem dequeAlone_holds : Rows.DequeAloneSaid :=
  OpenClaim.holds_of_wide 7 Try.f7 rfl rfl rfl rfl rfl rfl rfl ⟨rfl, rfl, rfl, rfl, rfl⟩ rfl rfl rfl rfl rfl (by kernel_rfl) Try.func7 (by kernel_rfl)
    (of_decide_eq_true (by kernel_rfl)) (by unfold Func.isWrapper; first | (rw [if_pos (by decide +kernel)]; kernel_rfl) | (rw [if_neg (by decide +kernel)]; exact ⟨rfl, rfl⟩))
    (fun os started K enc _ => dequeAlone_lifted os started K enc)
end Go.Proofs.Ytiaopgnnibidlaa
