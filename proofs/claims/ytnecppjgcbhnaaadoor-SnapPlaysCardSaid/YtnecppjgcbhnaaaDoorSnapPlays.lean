/- The board and the one of the document go in step, whatever is begun and stepped, and tell the same. No conditions. -/
import Derived.Test.YtnecppjgcbhnaaaDoorBh
import Derived.Test.YtnecppjgcbhnaaaDoorEngJ
import Derived.Test.YtnecppjgcbhnaaaDoorTie
import Derived.Test.YtnecppjgcbhnaaaDoorCards
import Derived.ChangeVars
import Derived.LaidLaws
import Derived.LaidHandle
import Derived.Stop.Joined
import Derived.SevenTiedAt
namespace Go.Proofs.YtnecppjgcbhnaaaDoor
open Go Go.Eng Go.ChangeShapes Go.WideShapes Go.ChangeAt Go.RowKit
theorem snapPlays_own : ownKnob Tryd.prog.godebug = none := by kernel_rfl
theorem snapPlays_laid : laidOutB Tryd.prog = true := by kernel_rfl
theorem snapPlays_rowed : (Tryd.f5.params.toList.all fun t => Tryd.prog.readableRec t && decide (t < Tryd.prog.types.size)) = true := by kernel_rfl
theorem snapPlays_et : Tryd.prog.globalNamed "errors.errorType" = some 0 := by kernel_rfl
theorem snapPlays_rt : (Tryd.prog.cutTypes.find? (·.1 == "internal/reflectlite.rtype")).map (·.2) = some 132 := by kernel_rfl
theorem snapPlays_oneRow : ((List.range 174).filter fun t => Tryd.prog.rowNamed t [101, 114, 114, 111, 114]) = [25] := by kernel_rfl
theorem snapPlays_size : Tryd.prog.types.size = 174 := by kernel_rfl
theorem snapPlays_handle {W : World} (h : laidMetH Tryd.prog [("errors.errorType", Rows.laid_errors_errorType)] W) : W.cell? ⟨0, 0, none⟩ = some errT := by
  have h' : laidMet Tryd.prog [] W ∧ handlesMet Tryd.prog [("errors.errorType", Rows.laid_errors_errorType)] W := h
  obtain ⟨name, u, ty, e1, e2, e3, e4, e5⟩ := h'.2 _ (List.mem_singleton.2 rfl)
  have en : name = [101, 114, 114, 111, 114] := (Option.some.inj e1).symm
  subst en
  obtain rfl := Option.some.inj (snapPlays_rt.symm.trans e2)
  have hm : ty ∈ (List.range 174).filter fun t => Tryd.prog.rowNamed t [101, 114, 114, 111, 114] := List.mem_filter.2 ⟨List.mem_range.2 (by rw [← snapPlays_size]; exact e3), e4⟩
  rw [snapPlays_oneRow] at hm
  obtain rfl := List.mem_singleton.1 hm
  have hh : typeHandle Tryd.prog 25 = .pointer (some ⟨1, 25, none⟩) := by kernel_rfl
  rw [hh] at e5
  have hc := World.var?_cell snapPlays_et e5 0
  unfold errT
  simpa using hc
noncomputable def snapPlays_world (os : Os) : World :=
  let w0 := World.holding Tryd.prog os ⟨#[], #[], []⟩
  { w0 with heap := w0.heap.modify 0 fun
      | .cells _ t frozen => .cells #[errT] t frozen
      | o => o }
theorem snapPlays_world_met (os : Os) (args : Array Value) : laidMetH Tryd.prog [("errors.errorType", Rows.laid_errors_errorType)] ((snapPlays_world os).forCall (fun _ _ => 0) ⟨#[], args, []⟩).memory :=
  laidMetH_of_parts (laidMet_nil _ _) (by kernel_rfl)
set_option maxRecDepth 100000 in
theorem snapPlays_lifted (os : Os) (started : os.Started) (K : Type) (enc : TypeId × Value → K) :
    ReturnsInHanded {} Tryd.checked os 5 .any (fun w args => (Rows.snapPlaysSpec.pre enc Tryd.prog Tryd.f5 [] false w args ∧ laidMetH Tryd.prog [("errors.errorType", Rows.laid_errors_errorType)] w) ∧ sizedMet enc Tryd.prog Tryd.f5 (OpenSpec.ofChange Rows.snapPlaysSpec) false w args)
      (Rows.snapPlaysSpec.post enc Tryd.prog Tryd.f5 false true false false) := by
  refine returnsInHanded_of_change_and (C := Tryd.checked) (X := fun w _ => laidMetH Tryd.prog [("errors.errorType", Rows.laid_errors_errorType)] w) (fun _ _ _ hh h => h.of_heap hh) snapPlays_own started (by kernel_rfl) Tryd.func5
    (ChangeSpec.witness_at (enc := enc) (C := Tryd.checked) (os := os) (X := fun w _ => laidMetH Tryd.prog [("errors.errorType", Rows.laid_errors_errorType)] w) false (snapPlays_world os) #[.int .i64 0, .slice none 0 0] 8 rfl (by kernel_rfl) (by kernel_rfl) (by kernel_rfl) (by kernel_rfl) (by kernel_rfl) (snapPlays_world_met os _)) ?_
  intro W base args ds gs before hval0 hW hcnd _ hL _
  have hval : ∀ (j : Nat) t v, Tryd.f5.params[j]? = some t → args[j]? = some v → Value.okWide Tryd.prog W .any base t v := hval0
  clear hval0 hcnd
  have hG : HasErrT W.cell? := snapPlays_handle hL
  have hW' := hW
  obtain ⟨p, q, hA0, hV, rfl, hfz, hnd⟩ := hW'
  have hA : DataW.TrodAll enc Tryd.prog W 0 (fun _ => true) true Tryd.f5.params.toList args.toList ds p := hA0
  clear hA0
  rw [Tryd.params5] at hA hval
  obtain ⟨v0, vs0, d0, ds0, p0, q0, e0, rfl, rfl, t0, u0⟩ := trodAll_cons hA
  obtain ⟨v1, vs1, d1, ds1, p1, q1, rfl, rfl, rfl, t1, u1⟩ := trodAll_cons u0
  obtain ⟨rfl, rfl, rfl⟩ := trodAll_nil u1
  obtain rfl : args = #[v0, v1] := by cases args; simp_all
  obtain ⟨rfl, rfl⟩ := trodVars_none hV
  obtain ⟨n0, rfl, b0⟩ := in_int Tryd.underlying3 (hval 0 3 _ rfl rfl) t0
  obtain ⟨s1, xs1, rfl, r1, b1, l1, m1⟩ := in_int_rows Tryd.underlying47 Tryd.underlying22 Tryd.underlying3 rfl rfl (hval 1 47 _ rfl rfl) t1
  refine (SemCall.law (snapPlays_c hG r1 (fun _ => rfl))).mono fun e W' he => ?_
  obtain ⟨rfl, hb⟩ := he
  exact ⟨_, rfl, law_post snapPlays_laid snapPlays_rowed rfl ⟨rfl, rfl, rfl⟩ rfl Tryd.underlying4 hW hb⟩
theorem snapPlays_row_holds : Rows.SnapPlaysSaid :=
  OpenClaim.holds_of_wide 5 Tryd.f5 rfl rfl rfl rfl rfl rfl rfl ⟨rfl, rfl, rfl, rfl, rfl⟩ rfl rfl rfl rfl rfl (by kernel_rfl) Tryd.func5 (by kernel_rfl)
    (of_decide_eq_true (by kernel_rfl)) (by unfold Func.isWrapper; first | (rw [if_pos (by decide +kernel)]; kernel_rfl) | (rw [if_neg (by decide +kernel)]; exact ⟨rfl, rfl⟩))
    (fun os started K enc _ => snapPlays_lifted os started K enc)
/-- THE GIVEN CARD -/
theorem snapPlays_card_holds : Rows.SnapPlaysCardSaid :=
  Claim7.holds_tied_plain_at .later [] [.handle] true (true, "9e06fcbbf5ca29e1ddd194e0fd52c273b025d95af8eae89b74e1dc479c3a673c") true
    snapPlays_row_holds (fun _ h => by cases h) (by kernel_rfl) (fun _ h => by cases h) snapPlays_row_tie rfl ⟨rfl, rfl⟩ (by kernel_rfl) rfl
    (fun f fn hf hfn => by
      obtain rfl : f = 5 := Option.some.inj ((show Tryd.prog.funcNamed "latchgarth/latchgarthlaw3.SnapPlays" = some 5 by kernel_rfl).symm.trans hf) |>.symm
      obtain rfl : fn = Tryd.f5 := (Option.some.inj (Tryd.func5.symm.trans hfn)).symm
      refine ⟨by kernel_rfl, ?_⟩
      intro j t ht
      rw [Tryd.params5] at ht
      have h3 : t = 3 ∨ t = 47 := by
        rcases j with _ | _ | j
        · obtain rfl : 3 = t := by simpa using ht
          decide
        · obtain rfl : 47 = t := by simpa using ht
          decide
        · simp at ht
      rcases h3 with rfl | rfl
      · exact (show Tryd.prog.wantsStandIn 3 = false by kernel_rfl)
      · exact (show Tryd.prog.wantsStandIn 47 = false by kernel_rfl)
    )
    (by kernel_rfl)
end Go.Proofs.YtnecppjgcbhnaaaDoor
