/- LinAlone: of one hand's ops, in order of time, the row is that. No conditions. -/
import Derived.Test.YtnepjdobknjecaaLA
import Derived.Test.YtnepjdobknjecaaEngJ
namespace Go.Proofs.Ytnepjdobknjecaa
open Go.Eng Go.ChangeShapes Go.WideShapes Go.ChangeAt Go.RowKit
theorem linAlone_own : ownKnob Try.prog.godebug = none := by kernel_rfl
theorem linAlone_laid : laidOutB Try.prog = true := by kernel_rfl
theorem linAlone_rowed : (Try.f5.params.toList.all fun t => Try.prog.readableRec t && decide (t < Try.prog.types.size)) = true := by kernel_rfl
set_option maxRecDepth 100000 in
theorem linAlone_lifted (os : Os) (started : os.Started) (K : Type) (enc : TypeId × Value → K) :
    ReturnsInHanded {} Try.checked os 5 .any (Rows.linAloneSpec.pre6 enc Try.prog Try.f5 Rows.linAloneRow.domain false) (Rows.linAloneSpec.post enc Try.prog Try.f5 false true false false) := by
  refine returnsInHanded_of_change (C := Try.checked) linAlone_own started (by kernel_rfl) Try.func5
    (ChangeSpec.witness6 (enc := enc) (C := Try.checked) false ⟨#[], #[.int .i64 0, .slice none 0 0, .slice none 0 0], []⟩ 8 (by kernel_rfl) (by kernel_rfl) (by kernel_rfl) (by kernel_rfl)) ?_
  intro W base args ds gs before hval0 hW hcnd _
  have hval : ∀ (j : Nat) t v, Try.f5.params[j]? = some t → args[j]? = some v → Value.okWide Try.prog W .any base t v := hval0
  clear hval0 hcnd
  have hW' := hW
  obtain ⟨p, q, hA0, hV, rfl, hfz, hnd⟩ := hW'
  have hA : DataW.TrodAll enc Try.prog W 0 (fun _ => true) true Try.f5.params.toList args.toList ds p := hA0
  clear hA0
  rw [Try.params5] at hA hval
  obtain ⟨v0, vs0, d0, ds0, p0, q0, e0, rfl, rfl, t0, u0⟩ := trodAll_cons hA
  obtain ⟨v1, vs1, d1, ds1, p1, q1, rfl, rfl, rfl, t1, u1⟩ := trodAll_cons u0
  obtain ⟨v2, vs2, d2, ds2, p2, q2, rfl, rfl, rfl, t2, u2⟩ := trodAll_cons u1
  obtain ⟨rfl, rfl, rfl⟩ := trodAll_nil u2
  obtain rfl : args = #[v0, v1, v2] := by cases args; simp_all
  obtain ⟨rfl, rfl⟩ := trodVars_none hV
  obtain ⟨n0, rfl, b0⟩ := in_int Try.underlying3 (hval 0 3 _ rfl rfl) t0
  obtain ⟨s1, xs1, rfl, r1, b1, l1⟩ := in_ints Try.underlying23 Try.underlying3 rfl (hval 1 23 _ rfl rfl) t1
  obtain ⟨s2, xs2, rfl, r2, b2, l2⟩ := in_ints Try.underlying23 Try.underlying3 rfl (hval 2 23 _ rfl rfl) t2
  refine (SemCall.law (linAlone_c r1 r2 (fun _ => rfl))).mono fun e W' he => ?_
  obtain ⟨rfl, hb⟩ := he
  exact ⟨_, rfl, law_post linAlone_laid linAlone_rowed rfl ⟨rfl, rfl, rfl⟩ rfl Try.underlying4 hW hb⟩
/-- THE GIVEN STATEMENT -/
theorem linAlone_holds : Rows.LinAloneSaid :=
  OpenClaim.holds_of_wide 5 Try.f5 rfl rfl rfl rfl rfl rfl rfl ⟨rfl, rfl, rfl, rfl, rfl⟩ rfl rfl rfl rfl rfl (by kernel_rfl) Try.func5 (by kernel_rfl)
    (of_decide_eq_true (by kernel_rfl)) (by unfold Func.isWrapper; first | (rw [if_pos (by decide +kernel)]; kernel_rfl) | (rw [if_neg (by decide +kernel)]; exact ⟨rfl, rfl⟩))
    (fun os started K enc _ => linAlone_lifted os started K enc)
end Go.Proofs.Ytnepjdobknjecaa
