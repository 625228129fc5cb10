import Derived.Test.YtnecppjgcbhnaaaDoorUp
namespace Go.Proofs.YtnecppjgcbhnaaaDoor
open Go.Eng
set_option maxRecDepth 20000
/-! ### a new row of the document -/
def nil3 : SV := ⟨none, 0, 0⟩
theorem RdSl.nil {ro : Addr → Option Value} : RdSl ⟨[], ro⟩ ⟨none, 0, 0⟩ (ints []) := ⟨rfl, fun _ => rfl, fun b h => nomatch h⟩
theorem nu_gh {own : List Ent} {ro : Addr → Option Value} {e1 : Ent} {ra rb rc N : Nat} (hab : rb ≠ ra) (hac : rc ≠ ra) (hbc : rc ≠ rb) (fa : ∀ a v, ro a = some v → a.block ≠ ra) (fb : ∀ a v, ro a = some v → a.block ≠ rb) (fc : ∀ a v, ro a = some v → a.block ≠ rc) (hN : N ≤ 4) :
    ∃ ro', Gh ⟨own ++ e1 :: [⟨some ra, ints (List.replicate N 0), N⟩, ⟨some rb, ints (List.replicate N 0), N⟩, ⟨some rc, ints (List.replicate N 0), N⟩], ro⟩ ⟨own, ro'⟩ ∧ (∀ a v, ro a = some v → ro' a = some v) ∧
      ∀ u, u = ra ∨ u = rb ∨ u = rc → RdSl ⟨[], ro'⟩ ⟨some (Addr.mk u 0 none), N, N⟩ (ints (List.replicate N 0)) := by
  have hz : ∀ r, rowZ (r, List.replicate N 0) = ⟨some r, ints (List.replicate N 0), N⟩ := fun r => by simp [rowZ]
  have hs : ∀ r, svZ (r, List.replicate N (0 : Int)) = ⟨some (Addr.mk r 0 none), N, N⟩ := fun r => by simp [svZ]
  obtain ⟨ro', g, m, r⟩ := frzL (own := own) [(ra, List.replicate N 0), (rb, List.replicate N 0), (rc, List.replicate N 0)] ro (by simp; exact ⟨⟨Ne.symm hab, Ne.symm hac⟩, Ne.symm hbc⟩) (by
    intro p hp
    simp only [List.mem_cons, List.not_mem_nil, or_false] at hp
    rcases hp with rfl | rfl | rfl
    · exact fa
    · exact fb
    · exact fc) (by
    intro p hp
    simp only [List.mem_cons, List.not_mem_nil, or_false] at hp
    rcases hp with rfl | rfl | rfl <;> (simp only [List.length_replicate, maxLen]; omega))
  simp only [List.map_cons, List.map_nil, hz] at g
  refine ⟨ro', (Gh.drop (by simp)).trans g, m, fun u hu => ?_⟩
  rw [← hs]
  rcases hu with rfl | rfl | rfl <;> exact r _ (by simp)
theorem ref_unew_c {N : Nat} {own : List Ent} {ro : Addr → Option Value} {post : Value → H → Prop} (hN : N ≤ 4)
    (hk : ∀ A B C D E ro', (∀ a v, ro a = some v → ro' a = some v) → UvR ro' A B C D E [] [] (List.replicate N 0) (List.replicate N 0) (List.replicate N 0) → post (.agg (List.toArray (uvC A B C D E))) ⟨own, ro'⟩) :
    SemCall Tryd.prog 19 (List.toArray [.int .i64 (N : Int)]) ⟨own, ro⟩ post := by
  refine f19_call _ _ post ?_
  intro r1 _
  have e : ∀ r : Nat, (⟨some r, repl ((N : Int)).toNat [Value.int .i64 0], (repl ((N : Int)).toNat [Value.int .i64 0]).length⟩ : Ent) = ⟨some r, ints (List.replicate N 0), N⟩ := fun r => by rw [Int.toNat_natCast, repl_ints, ints_length, List.length_replicate]
  have ok : 0 ≤ (N : Int) ∧ (N : Int) ≤ (N : Int) ∧ ((8 : Nat) : Int) * (N : Int) ≤ 140737488355328 ∧ (N : Int) ≤ 1000000000 := ⟨by omega, Int.le_refl _, by omega, by omega⟩
  have leaf : ∀ {ra rb rc : Nat} (u v w : Nat), (u = ra ∨ u = rb ∨ u = rc) → (v = ra ∨ v = rb ∨ v = rc) → (w = ra ∨ w = rb ∨ w = rc) →
      (⟨own ++ [uvE r1 ⟨none, 0, 0⟩ ⟨none, 0, 0⟩ ⟨none, 0, 0⟩ ⟨none, 0, 0⟩ ⟨none, 0, 0⟩], ro⟩ : H).fresh ra → (⟨own ++ [uvE r1 ⟨none, 0, 0⟩ ⟨none, 0, 0⟩ ⟨none, 0, 0⟩ ⟨none, 0, 0⟩ ⟨none, 0, 0⟩] ++ [⟨some ra, ints (List.replicate N 0), N⟩], ro⟩ : H).fresh rb →
      (⟨own ++ [uvE r1 ⟨none, 0, 0⟩ ⟨none, 0, 0⟩ ⟨none, 0, 0⟩ ⟨none, 0, 0⟩ ⟨none, 0, 0⟩] ++ [⟨some ra, ints (List.replicate N 0), N⟩] ++ [⟨some rb, ints (List.replicate N 0), N⟩], ro⟩ : H).fresh rc →
      VRet ⟨own ++ uvE r1 ⟨none, 0, 0⟩ ⟨none, 0, 0⟩ ⟨some (Addr.mk u 0 none), N, N⟩ ⟨some (Addr.mk v 0 none), N, N⟩ ⟨some (Addr.mk w 0 none), N, N⟩ :: [⟨some ra, ints (List.replicate N 0), N⟩, ⟨some rb, ints (List.replicate N 0), N⟩, ⟨some rc, ints (List.replicate N 0), N⟩], ro⟩
        (.agg (List.toArray (uvC ⟨none, 0, 0⟩ ⟨none, 0, 0⟩ ⟨some (Addr.mk u 0 none), N, N⟩ ⟨some (Addr.mk v 0 none), N, N⟩ ⟨some (Addr.mk w 0 none), N, N⟩))) post := by
    intro ra rb rc u v w hu hv hw fa fb fc
    obtain ⟨ro', g, m, r⟩ := nu_gh (own := own) (ro := ro) (e1 := uvE r1 ⟨none, 0, 0⟩ ⟨none, 0, 0⟩ ⟨some (Addr.mk u 0 none), N, N⟩ ⟨some (Addr.mk v 0 none), N, N⟩ ⟨some (Addr.mk w 0 none), N, N⟩) (ra := ra) (rb := rb) (rc := rc) (N := N)
      (fun h => fb.1 ⟨some ra, ints (List.replicate N 0), N⟩ (by simp) (by rw [h])) (fun h => fc.1 ⟨some ra, ints (List.replicate N 0), N⟩ (by simp) (by rw [h])) (fun h => fc.1 ⟨some rb, ints (List.replicate N 0), N⟩ (by simp) (by rw [h])) fa.2 fb.2 fc.2 hN
    exact ⟨_, g, hk _ _ _ _ _ ro' m ⟨RdSl.nil, RdSl.nil, r u hu, r v hv, r w hw⟩⟩
  refine ⟨?_, ?_, ?_⟩
  · refine ⟨ok.1, ok.2.1, ok.2.2.1, ok.2.2.2, ?_⟩
    intro ra fa
    refine ⟨?_, ?_⟩
    · refine ⟨ok.1, ok.2.1, ok.2.2.1, ok.2.2.2, ?_⟩
      intro rb fb
      refine ⟨ok.1, ok.2.1, ok.2.2.1, ok.2.2.2, ?_⟩
      intro rc fc
      rw [e ra, e rb, e rc]
      refine uv_put (r := r1) (a0 := ⟨none, 0, 0⟩) (a1 := ⟨none, 0, 0⟩) (a2 := ⟨some (Addr.mk ra 0 none), N, N⟩) (a3 := ⟨some (Addr.mk rb 0 none), N, N⟩) (a4 := ⟨some (Addr.mk rc 0 none), N, N⟩) (z0 := ⟨none, 0, 0⟩) (z1 := ⟨none, 0, 0⟩) (z2 := ⟨none, 0, 0⟩) (z3 := ⟨none, 0, 0⟩) (z4 := ⟨none, 0, 0⟩) own [⟨some ra, ints (List.replicate N 0), N⟩, ⟨some rb, ints (List.replicate N 0), N⟩, ⟨some rc, ints (List.replicate N 0), N⟩] (by simp; rfl) ?_
      refine uv_get (a0 := ⟨none, 0, 0⟩) (a1 := ⟨none, 0, 0⟩) (a2 := ⟨some (Addr.mk ra 0 none), N, N⟩) (a3 := ⟨some (Addr.mk rb 0 none), N, N⟩) (a4 := ⟨some (Addr.mk rc 0 none), N, N⟩) (by simp) ?_
      exact leaf ra rb rc (.inl rfl) (.inr (.inl rfl)) (.inr (.inr rfl)) fa (by rw [e ra] at fb; exact fb) (by rw [e ra, e rb] at fc; exact fc)
    · refine ⟨ok.1, ok.2.1, ok.2.2.1, ok.2.2.2, ?_⟩
      intro rb fb
      refine ⟨ok.1, ok.2.1, ok.2.2.1, ok.2.2.2, ?_⟩
      intro rc fc
      rw [e ra, e rb, e rc]
      refine uv_put (r := r1) (a0 := ⟨none, 0, 0⟩) (a1 := ⟨none, 0, 0⟩) (a2 := ⟨some (Addr.mk ra 0 none), N, N⟩) (a3 := ⟨some (Addr.mk rc 0 none), N, N⟩) (a4 := ⟨some (Addr.mk rb 0 none), N, N⟩) (z0 := ⟨none, 0, 0⟩) (z1 := ⟨none, 0, 0⟩) (z2 := ⟨none, 0, 0⟩) (z3 := ⟨none, 0, 0⟩) (z4 := ⟨none, 0, 0⟩) own [⟨some ra, ints (List.replicate N 0), N⟩, ⟨some rb, ints (List.replicate N 0), N⟩, ⟨some rc, ints (List.replicate N 0), N⟩] (by simp; rfl) ?_
      refine uv_get (a0 := ⟨none, 0, 0⟩) (a1 := ⟨none, 0, 0⟩) (a2 := ⟨some (Addr.mk ra 0 none), N, N⟩) (a3 := ⟨some (Addr.mk rc 0 none), N, N⟩) (a4 := ⟨some (Addr.mk rb 0 none), N, N⟩) (by simp) ?_
      exact leaf ra rc rb (.inl rfl) (.inr (.inr rfl)) (.inr (.inl rfl)) fa (by rw [e ra] at fb; exact fb) (by rw [e ra, e rb] at fc; exact fc)
  · refine ⟨ok.1, ok.2.1, ok.2.2.1, ok.2.2.2, ?_⟩
    intro ra fa
    refine ⟨?_, ?_⟩
    · refine ⟨ok.1, ok.2.1, ok.2.2.1, ok.2.2.2, ?_⟩
      intro rb fb
      refine ⟨ok.1, ok.2.1, ok.2.2.1, ok.2.2.2, ?_⟩
      intro rc fc
      rw [e ra, e rb, e rc]
      refine uv_put (r := r1) (a0 := ⟨none, 0, 0⟩) (a1 := ⟨none, 0, 0⟩) (a2 := ⟨some (Addr.mk rb 0 none), N, N⟩) (a3 := ⟨some (Addr.mk ra 0 none), N, N⟩) (a4 := ⟨some (Addr.mk rc 0 none), N, N⟩) (z0 := ⟨none, 0, 0⟩) (z1 := ⟨none, 0, 0⟩) (z2 := ⟨none, 0, 0⟩) (z3 := ⟨none, 0, 0⟩) (z4 := ⟨none, 0, 0⟩) own [⟨some ra, ints (List.replicate N 0), N⟩, ⟨some rb, ints (List.replicate N 0), N⟩, ⟨some rc, ints (List.replicate N 0), N⟩] (by simp; rfl) ?_
      refine uv_get (a0 := ⟨none, 0, 0⟩) (a1 := ⟨none, 0, 0⟩) (a2 := ⟨some (Addr.mk rb 0 none), N, N⟩) (a3 := ⟨some (Addr.mk ra 0 none), N, N⟩) (a4 := ⟨some (Addr.mk rc 0 none), N, N⟩) (by simp) ?_
      exact leaf rb ra rc (.inr (.inl rfl)) (.inl rfl) (.inr (.inr rfl)) fa (by rw [e ra] at fb; exact fb) (by rw [e ra, e rb] at fc; exact fc)
    · refine ⟨ok.1, ok.2.1, ok.2.2.1, ok.2.2.2, ?_⟩
      intro rb fb
      refine ⟨ok.1, ok.2.1, ok.2.2.1, ok.2.2.2, ?_⟩
      intro rc fc
      rw [e ra, e rb, e rc]
      refine uv_put (r := r1) (a0 := ⟨none, 0, 0⟩) (a1 := ⟨none, 0, 0⟩) (a2 := ⟨some (Addr.mk rc 0 none), N, N⟩) (a3 := ⟨some (Addr.mk ra 0 none), N, N⟩) (a4 := ⟨some (Addr.mk rb 0 none), N, N⟩) (z0 := ⟨none, 0, 0⟩) (z1 := ⟨none, 0, 0⟩) (z2 := ⟨none, 0, 0⟩) (z3 := ⟨none, 0, 0⟩) (z4 := ⟨none, 0, 0⟩) own [⟨some ra, ints (List.replicate N 0), N⟩, ⟨some rb, ints (List.replicate N 0), N⟩, ⟨some rc, ints (List.replicate N 0), N⟩] (by simp; rfl) ?_
      refine uv_get (a0 := ⟨none, 0, 0⟩) (a1 := ⟨none, 0, 0⟩) (a2 := ⟨some (Addr.mk rc 0 none), N, N⟩) (a3 := ⟨some (Addr.mk ra 0 none), N, N⟩) (a4 := ⟨some (Addr.mk rb 0 none), N, N⟩) (by simp) ?_
      exact leaf rc ra rb (.inr (.inr rfl)) (.inl rfl) (.inr (.inl rfl)) fa (by rw [e ra] at fb; exact fb) (by rw [e ra, e rb] at fc; exact fc)
  · refine ⟨ok.1, ok.2.1, ok.2.2.1, ok.2.2.2, ?_⟩
    intro ra fa
    refine ⟨?_, ?_⟩
    · refine ⟨ok.1, ok.2.1, ok.2.2.1, ok.2.2.2, ?_⟩
      intro rb fb
      refine ⟨ok.1, ok.2.1, ok.2.2.1, ok.2.2.2, ?_⟩
      intro rc fc
      rw [e ra, e rb, e rc]
      refine uv_put (r := r1) (a0 := ⟨none, 0, 0⟩) (a1 := ⟨none, 0, 0⟩) (a2 := ⟨some (Addr.mk rb 0 none), N, N⟩) (a3 := ⟨some (Addr.mk rc 0 none), N, N⟩) (a4 := ⟨some (Addr.mk ra 0 none), N, N⟩) (z0 := ⟨none, 0, 0⟩) (z1 := ⟨none, 0, 0⟩) (z2 := ⟨none, 0, 0⟩) (z3 := ⟨none, 0, 0⟩) (z4 := ⟨none, 0, 0⟩) own [⟨some ra, ints (List.replicate N 0), N⟩, ⟨some rb, ints (List.replicate N 0), N⟩, ⟨some rc, ints (List.replicate N 0), N⟩] (by simp; rfl) ?_
      refine uv_get (a0 := ⟨none, 0, 0⟩) (a1 := ⟨none, 0, 0⟩) (a2 := ⟨some (Addr.mk rb 0 none), N, N⟩) (a3 := ⟨some (Addr.mk rc 0 none), N, N⟩) (a4 := ⟨some (Addr.mk ra 0 none), N, N⟩) (by simp) ?_
      exact leaf rb rc ra (.inr (.inl rfl)) (.inr (.inr rfl)) (.inl rfl) fa (by rw [e ra] at fb; exact fb) (by rw [e ra, e rb] at fc; exact fc)
    · refine ⟨ok.1, ok.2.1, ok.2.2.1, ok.2.2.2, ?_⟩
      intro rb fb
      refine ⟨ok.1, ok.2.1, ok.2.2.1, ok.2.2.2, ?_⟩
      intro rc fc
      rw [e ra, e rb, e rc]
      refine uv_put (r := r1) (a0 := ⟨none, 0, 0⟩) (a1 := ⟨none, 0, 0⟩) (a2 := ⟨some (Addr.mk rc 0 none), N, N⟩) (a3 := ⟨some (Addr.mk rb 0 none), N, N⟩) (a4 := ⟨some (Addr.mk ra 0 none), N, N⟩) (z0 := ⟨none, 0, 0⟩) (z1 := ⟨none, 0, 0⟩) (z2 := ⟨none, 0, 0⟩) (z3 := ⟨none, 0, 0⟩) (z4 := ⟨none, 0, 0⟩) own [⟨some ra, ints (List.replicate N 0), N⟩, ⟨some rb, ints (List.replicate N 0), N⟩, ⟨some rc, ints (List.replicate N 0), N⟩] (by simp; rfl) ?_
      refine uv_get (a0 := ⟨none, 0, 0⟩) (a1 := ⟨none, 0, 0⟩) (a2 := ⟨some (Addr.mk rc 0 none), N, N⟩) (a3 := ⟨some (Addr.mk rb 0 none), N, N⟩) (a4 := ⟨some (Addr.mk ra 0 none), N, N⟩) (by simp) ?_
      exact leaf rc rb ra (.inr (.inr rfl)) (.inr (.inl rfl)) (.inl rfl) fa (by rw [e ra] at fb; exact fb) (by rw [e ra, e rb] at fc; exact fc)
end Go.Proofs.YtnecppjgcbhnaaaDoor
