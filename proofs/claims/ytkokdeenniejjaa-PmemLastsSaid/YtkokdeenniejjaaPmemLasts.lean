/- PmemLasts: what is written, flushed and fenced, and not written again, is there behind any crashes. No conditions. -/
import Derived.Test.YtkokdeenniejjaaPd
import Derived.Test.YtkokdeenniejjaaEngJ
namespace Go.Proofs.Ytkokdeenniejjaa
open Go.Eng Go.ChangeShapes Go.WideShapes Go.ChangeAt Go.RowKit
theorem pmemLasts_own : ownKnob Try.prog.godebug = none := by kernel_rfl
theorem pmemLasts_laid : laidOutB Try.prog = true := by kernel_rfl
theorem pmemLasts_rowed : (Try.f6.params.toList.all fun t => Try.prog.readableRec t && decide (t < Try.prog.types.size)) = true := by kernel_rfl
set_option maxRecDepth 100000 in
theorem pmemLasts_lifted (os : Os) (started : os.Started) (K : Type) (enc : TypeId × Value → K) :
    ReturnsInHanded {} Try.checked os 6 .any (Rows.pmemLastsSpec.pre6 enc Try.prog Try.f6 Rows.pmemLastsRow.domain false) (Rows.pmemLastsSpec.post enc Try.prog Try.f6 false true false false) := by
  refine returnsInHanded_of_change (C := Try.checked) pmemLasts_own started (by kernel_rfl) Try.func6
    (ChangeSpec.witness6 (enc := enc) (C := Try.checked) false ⟨#[], #[.int .i64 0, .slice none 0 0, .int .i64 0, .int .i64 0, .slice none 0 0], []⟩ 8 (by kernel_rfl) (by kernel_rfl) (by kernel_rfl) (by kernel_rfl)) ?_
  intro W base args ds gs before hval0 hW hcnd _
  have hval : ∀ (j : Nat) t v, Try.f6.params[j]? = some t → args[j]? = some v → Value.okWide Try.prog W .any base t v := hval0
  clear hval0 hcnd
  have hW' := hW
  obtain ⟨p, q, hA0, hV, rfl, hfz, hnd⟩ := hW'
  have hA : DataW.TrodAll enc Try.prog W 0 (fun _ => true) true Try.f6.params.toList args.toList ds p := hA0
  clear hA0
  rw [Try.params6] at hA hval
  obtain ⟨v0, vs0, d0, ds0, p0, q0, e0, rfl, rfl, t0, u0⟩ := trodAll_cons hA
  obtain ⟨v1, vs1, d1, ds1, p1, q1, rfl, rfl, rfl, t1, u1⟩ := trodAll_cons u0
  obtain ⟨v2, vs2, d2, ds2, p2, q2, rfl, rfl, rfl, t2, u2⟩ := trodAll_cons u1
  obtain ⟨v3, vs3, d3, ds3, p3, q3, rfl, rfl, rfl, t3, u3⟩ := trodAll_cons u2
  obtain ⟨v4, vs4, d4, ds4, p4, q4, rfl, rfl, rfl, t4, u4⟩ := trodAll_cons u3
  obtain ⟨rfl, rfl, rfl⟩ := trodAll_nil u4
  obtain rfl : args = #[v0, v1, v2, v3, v4] := by cases args; simp_all
  obtain ⟨rfl, rfl⟩ := trodVars_none hV
  obtain ⟨n0, rfl, b0⟩ := in_int Try.underlying3 (hval 0 3 _ rfl rfl) t0
  obtain ⟨s1, xs1, rfl, r1, b1, l1, m1⟩ := in_int_rows Try.underlying22 Try.underlying30 Try.underlying3 rfl rfl (hval 1 22 _ rfl rfl) t1
  obtain ⟨n2, rfl, b2⟩ := in_int Try.underlying3 (hval 2 3 _ rfl rfl) t2
  obtain ⟨n3, rfl, b3⟩ := in_int Try.underlying3 (hval 3 3 _ rfl rfl) t3
  obtain ⟨s4, xs4, rfl, r4, b4, l4, m4⟩ := in_int_rows Try.underlying22 Try.underlying30 Try.underlying3 rfl rfl (hval 4 22 _ rfl rfl) t4
  refine (SemCall.law (pmemLasts_c r1 r4 (fun _ => rfl))).mono fun e W' he => ?_
  obtain ⟨rfl, hb⟩ := he
  exact ⟨_, rfl, law_post pmemLasts_laid pmemLasts_rowed rfl ⟨rfl, rfl, rfl⟩ rfl Try.underlying4 hW hb⟩
/-- THE GIVEN STATEMENT -/
theorem pmemLasts_holds : Rows.PmemLastsSaid :=
  OpenClaim.holds_of_wide 6 Try.f6 rfl rfl rfl rfl rfl rfl rfl ⟨rfl, rfl, rfl, rfl, rfl⟩ rfl rfl rfl rfl rfl (by kernel_rfl) Try.func6 (by kernel_rfl)
    (of_decide_eq_true (by kernel_rfl)) (by unfold Func.isWrapper; first | (rw [if_pos (by decide +kernel)]; kernel_rfl) | (rw [if_neg (by decide +kernel)]; exact ⟨rfl, rfl⟩))
    (fun os started K enc _ => pmemLasts_lifted os started K enc)
end Go.Proofs.Ytkokdeenniejjaa
