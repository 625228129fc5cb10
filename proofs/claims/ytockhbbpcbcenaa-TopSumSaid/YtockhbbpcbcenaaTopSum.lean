/- TopSum: what hands add one behind the other, each alone, gets the same of one row, and of one who adds for all, though that crashes between. No conditions. -/
import Derived.Test.YtockhbbpcbcenaaTb
import Derived.Test.YtockhbbpcbcenaaEngJ
namespace Go.Proofs.Ytockhbbpcbcenaa
open Go.Eng Go.ChangeShapes Go.WideShapes Go.ChangeAt Go.RowKit
theorem topSum_own : ownKnob Try.prog.godebug = none := by kernel_rfl
theorem topSum_laid : laidOutB Try.prog = true := by kernel_rfl
theorem topSum_rowed : (Try.f6.params.toList.all fun t => Try.prog.readableRec t && decide (t < Try.prog.types.size)) = true := by kernel_rfl
set_option maxRecDepth 100000 in
theorem topSum_lifted (os : Os) (started : os.Started) (K : Type) (enc : TypeId × Value → K) :
    ReturnsInHanded {} Try.checked os 6 .any (Rows.topSumSpec.pre6 enc Try.prog Try.f6 Rows.topSumRow.domain false) (Rows.topSumSpec.post enc Try.prog Try.f6 false true false false) := by
  refine returnsInHanded_of_change (C := Try.checked) topSum_own started (by kernel_rfl) Try.func6
    (ChangeSpec.witness6 (enc := enc) (C := Try.checked) false ⟨#[], #[.slice none 0 0, .slice none 0 0, .bool false], []⟩ 8 (by kernel_rfl) (by kernel_rfl) (by kernel_rfl) (by kernel_rfl)) ?_
  intro W base args ds gs before hval0 hW hcnd _
  have hval : ∀ (j : Nat) t v, Try.f6.params[j]? = some t → args[j]? = some v → Value.okWide Try.prog W .any base t v := hval0
  clear hval0 hcnd
  have hW' := hW
  obtain ⟨p, q, hA0, hV, rfl, hfz, hnd⟩ := hW'
  have hA : DataW.TrodAll enc Try.prog W 0 (fun _ => true) true Try.f6.params.toList args.toList ds p := hA0
  clear hA0
  rw [Try.params6] at hA hval
  obtain ⟨v0, vs0, d0, ds0, p0, q0, e0, rfl, rfl, t0, u0⟩ := trodAll_cons hA
  obtain ⟨v1, vs1, d1, ds1, p1, q1, rfl, rfl, rfl, t1, u1⟩ := trodAll_cons u0
  obtain ⟨v2, vs2, d2, ds2, p2, q2, rfl, rfl, rfl, t2, u2⟩ := trodAll_cons u1
  obtain ⟨rfl, rfl, rfl⟩ := trodAll_nil u2
  obtain rfl : args = #[v0, v1, v2] := by cases args; simp_all
  obtain ⟨rfl, rfl⟩ := trodVars_none hV
  obtain ⟨s0, xs0, rfl, r0, b0, l0⟩ := in_ints Try.underlying29 Try.underlying3 rfl (hval 0 29 _ rfl rfl) t0
  obtain ⟨s1, xs1, rfl, r1, b1, l1⟩ := in_ints Try.underlying29 Try.underlying3 rfl (hval 1 29 _ rfl rfl) t1
  obtain ⟨n2, rfl, _⟩ := open_bool Try.underlying4 (hval 2 4 _ rfl rfl) t2
  refine (SemCall.law (topSum_c r0 r1 (fun _ => rfl))).mono fun e W' he => ?_
  obtain ⟨rfl, hb⟩ := he
  exact ⟨_, rfl, law_post topSum_laid topSum_rowed rfl ⟨rfl, rfl, rfl⟩ rfl Try.underlying4 hW hb⟩
/-- THE GIVEN STATEMENT -/
theorem topSum_holds : Rows.TopSumSaid :=
  OpenClaim.holds_of_wide 6 Try.f6 rfl rfl rfl rfl rfl rfl rfl ⟨rfl, rfl, rfl, rfl, rfl⟩ rfl rfl rfl rfl rfl (by kernel_rfl) Try.func6 (by kernel_rfl)
    (of_decide_eq_true (by kernel_rfl)) (by unfold Func.isWrapper; first | (rw [if_pos (by decide +kernel)]; kernel_rfl) | (rw [if_neg (by decide +kernel)]; exact ⟨rfl, rfl⟩))
    (fun os started K enc _ => topSum_lifted os started K enc)
end Go.Proofs.Ytockhbbpcbcenaa
