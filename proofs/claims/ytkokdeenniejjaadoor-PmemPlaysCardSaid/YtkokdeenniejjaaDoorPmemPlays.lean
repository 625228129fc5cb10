/- PmemPlays: any cells, and anything that is written, flushed, crashed and fenced, goes as the document says. No conditions. -/
import Derived.Test.YtkokdeenniejjaaDoorPg
import Derived.Test.YtkokdeenniejjaaDoorEngJ
import Derived.Test.YtkokdeenniejjaaDoorTie
import Derived.Test.YtkokdeenniejjaaDoorCards
import Derived.ChangeVars
import Derived.LaidLaws
import Derived.LaidHandle
import Derived.Stop.Joined
import Derived.SevenTiedAt
namespace Go.Proofs.YtkokdeenniejjaaDoor
open Go Go.Eng Go.ChangeShapes Go.WideShapes Go.ChangeAt Go.RowKit
theorem pmemPlays_own : ownKnob Tryd.prog.godebug = none := by kernel_rfl
theorem pmemPlays_laid : laidOutB Tryd.prog = true := by kernel_rfl
theorem pmemPlays_rowed : (Tryd.f4.params.toList.all fun t => Tryd.prog.readableRec t && decide (t < Tryd.prog.types.size)) = true := by kernel_rfl
theorem pmemPlays_et : Tryd.prog.globalNamed "errors.errorType" = some 0 := by kernel_rfl
theorem pmemPlays_rt : (Tryd.prog.cutTypes.find? (·.1 == "internal/reflectlite.rtype")).map (·.2) = some 111 := by kernel_rfl
theorem pmemPlays_oneRow : ((List.range 153).filter fun t => Tryd.prog.rowNamed t [101, 114, 114, 111, 114]) = [25] := by kernel_rfl
theorem pmemPlays_size : Tryd.prog.types.size = 153 := by kernel_rfl
theorem pmemPlays_handle {W : World} (h : laidMetH Tryd.prog [("errors.errorType", Rows.laid_errors_errorType)] W) : W.cell? ⟨0, 0, none⟩ = some errT := by
  have h' : laidMet Tryd.prog [] W ∧ handlesMet Tryd.prog [("errors.errorType", Rows.laid_errors_errorType)] W := h
  obtain ⟨name, u, ty, e1, e2, e3, e4, e5⟩ := h'.2 _ (List.mem_singleton.2 rfl)
  have en : name = [101, 114, 114, 111, 114] := (Option.some.inj e1).symm
  subst en
  obtain rfl := Option.some.inj (pmemPlays_rt.symm.trans e2)
  have hm : ty ∈ (List.range 153).filter fun t => Tryd.prog.rowNamed t [101, 114, 114, 111, 114] := List.mem_filter.2 ⟨List.mem_range.2 (by rw [← pmemPlays_size]; exact e3), e4⟩
  rw [pmemPlays_oneRow] at hm
  obtain rfl := List.mem_singleton.1 hm
  have hh : typeHandle Tryd.prog 25 = .pointer (some ⟨1, 25, none⟩) := by kernel_rfl
  rw [hh] at e5
  have hc := World.var?_cell pmemPlays_et e5 0
  unfold errT
  simpa using hc
noncomputable def pmemPlays_world (os : Os) : World :=
  let w0 := World.holding Tryd.prog os ⟨#[], #[], []⟩
  { w0 with heap := w0.heap.modify 0 fun
      | .cells _ t frozen => .cells #[errT] t frozen
      | o => o }
theorem pmemPlays_world_met (os : Os) (args : Array Value) : laidMetH Tryd.prog [("errors.errorType", Rows.laid_errors_errorType)] ((pmemPlays_world os).forCall (fun _ _ => 0) ⟨#[], args, []⟩).memory :=
  laidMetH_of_parts (laidMet_nil _ _) (by kernel_rfl)
set_option maxRecDepth 100000 in
theorem pmemPlays_lifted (os : Os) (started : os.Started) (K : Type) (enc : TypeId × Value → K) :
    ReturnsInHanded {} Tryd.checked os 4 .any (fun w args => (Rows.pmemPlaysSpec.pre enc Tryd.prog Tryd.f4 [] false w args ∧ laidMetH Tryd.prog [("errors.errorType", Rows.laid_errors_errorType)] w) ∧ sizedMet enc Tryd.prog Tryd.f4 (OpenSpec.ofChange Rows.pmemPlaysSpec) false w args)
      (Rows.pmemPlaysSpec.post enc Tryd.prog Tryd.f4 false true false false) := by
  refine returnsInHanded_of_change_and (C := Tryd.checked) (X := fun w _ => laidMetH Tryd.prog [("errors.errorType", Rows.laid_errors_errorType)] w) (fun _ _ _ hh h => h.of_heap hh) pmemPlays_own started (by kernel_rfl) Tryd.func4
    (ChangeSpec.witness_at (enc := enc) (C := Tryd.checked) (os := os) (X := fun w _ => laidMetH Tryd.prog [("errors.errorType", Rows.laid_errors_errorType)] w) false (pmemPlays_world os) #[.int .i64 0, .slice none 0 0] 8 rfl (by kernel_rfl) (by kernel_rfl) (by kernel_rfl) (by kernel_rfl) (by kernel_rfl) (pmemPlays_world_met os _)) ?_
  intro W base args ds gs before hval0 hW hcnd _ hL _
  have hval : ∀ (j : Nat) t v, Tryd.f4.params[j]? = some t → args[j]? = some v → Value.okWide Tryd.prog W .any base t v := hval0
  clear hval0 hcnd
  have hG : HasErrT W.cell? := pmemPlays_handle hL
  have hW' := hW
  obtain ⟨p, q, hA0, hV, rfl, hfz, hnd⟩ := hW'
  have hA : DataW.TrodAll enc Tryd.prog W 0 (fun _ => true) true Tryd.f4.params.toList args.toList ds p := hA0
  clear hA0
  rw [Tryd.params4] at hA hval
  obtain ⟨v0, vs0, d0, ds0, p0, q0, e0, rfl, rfl, t0, u0⟩ := trodAll_cons hA
  obtain ⟨v1, vs1, d1, ds1, p1, q1, rfl, rfl, rfl, t1, u1⟩ := trodAll_cons u0
  obtain ⟨rfl, rfl, rfl⟩ := trodAll_nil u1
  obtain rfl : args = #[v0, v1] := by cases args; simp_all
  obtain ⟨rfl, rfl⟩ := trodVars_none hV
  obtain ⟨n0, rfl, b0⟩ := in_int Tryd.underlying3 (hval 0 3 _ rfl rfl) t0
  obtain ⟨s1, xs1, rfl, r1, b1, l1, m1⟩ := in_int_rows Tryd.underlying38 Tryd.underlying22 Tryd.underlying3 rfl rfl (hval 1 38 _ rfl rfl) t1
  refine (SemCall.law (pmemPlays_c hG r1 (fun _ => rfl))).mono fun e W' he => ?_
  obtain ⟨rfl, hb⟩ := he
  exact ⟨_, rfl, law_post pmemPlays_laid pmemPlays_rowed rfl ⟨rfl, rfl, rfl⟩ rfl Tryd.underlying4 hW hb⟩
theorem pmemPlays_row_holds : Rows.PmemPlaysSaid :=
  OpenClaim.holds_of_wide 4 Tryd.f4 rfl rfl rfl rfl rfl rfl rfl ⟨rfl, rfl, rfl, rfl, rfl⟩ rfl rfl rfl rfl rfl (by kernel_rfl) Tryd.func4 (by kernel_rfl)
    (of_decide_eq_true (by kernel_rfl)) (by unfold Func.isWrapper; first | (rw [if_pos (by decide +kernel)]; kernel_rfl) | (rw [if_neg (by decide +kernel)]; exact ⟨rfl, rfl⟩))
    (fun os started K enc _ => pmemPlays_lifted os started K enc)
/-- THE GIVEN CARD -/
theorem pmemPlays_card_holds : Rows.PmemPlaysCardSaid :=
  Claim7.holds_tied_plain_at .later [] [.handle] true (true, "a60891dbf1a9572fb153593946f30f631a613fe0f8e0f8b412e5ff270cf5db10") true
    pmemPlays_row_holds (fun _ h => by cases h) (by kernel_rfl) (fun _ h => by cases h) pmemPlays_row_tie rfl ⟨rfl, rfl⟩ (by kernel_rfl) rfl
    (fun f fn hf hfn => by
      obtain rfl : f = 4 := Option.some.inj ((show Tryd.prog.funcNamed "latchgarth/latchgarthlaw4.PmemPlays" = some 4 by kernel_rfl).symm.trans hf) |>.symm
      obtain rfl : fn = Tryd.f4 := (Option.some.inj (Tryd.func4.symm.trans hfn)).symm
      refine ⟨by kernel_rfl, ?_⟩
      intro j t ht
      rw [Tryd.params4] at ht
      have h3 : t = 3 ∨ t = 38 := by
        rcases j with _ | _ | j
        · obtain rfl : 3 = t := by simpa using ht
          decide
        · obtain rfl : 38 = t := by simpa using ht
          decide
        · simp at ht
      rcases h3 with rfl | rfl
      · exact (show Tryd.prog.wantsStandIn 3 = false by kernel_rfl)
      · exact (show Tryd.prog.wantsStandIn 38 = false by kernel_rfl)
    )
    (by kernel_rfl)
end Go.Proofs.YtkokdeenniejjaaDoor
