import Derived.Test.YtiaopgnnibidlaaDw
namespace Go.Proofs.Ytiaopgnnibidlaa
open Go.Eng
set_option maxRecDepth 20000
def sq : Nat → (Nat → Int) × (Nat → Int)
  | 0 => (fun _ => 0, (dPush (fun _ => 0) 5).1)
  | k + 1 => ((dStepE (sq k).1 (sq k).2 0).1, (dStepE (sq k).1 (sq k).2 0).2.1)
theorem sq_bnd : ∀ k : Nat, Bnd (20 + k) (sq k).1 ∧ Bnd (20 + k) (sq k).2
  | 0 => by
    refine ⟨fun k => by simp [sq], fun k => ?_⟩
    simp only [sq, dPush]
    rw [if_neg (by decide), if_neg (by decide)]
    simp only [dBegin]
    split
    · rename_i hk
      obtain rfl | rfl | rfl | rfl : k = 0 ∨ k = 1 ∨ k = 2 ∨ k = 3 := by omega
      all_goals decide
    · decide
  | k + 1 => by
    obtain ⟨a, b⟩ := sq_bnd k
    obtain ⟨c, d⟩ := dStepE_bnd a b (by omega) 0
    exact ⟨c.mono (by omega), d.mono (by omega)⟩
theorem sq_e : ∀ k, k < 3 → (dStepE (sq k).1 (sq k).2 0).2.2.2.2 = 0 ∧ 0 ≤ (sq k).1 8 ∧ 0 ≤ (sq k).1 9 ∧ (sq k).2 (0 * 4 + 0) ≠ 7 ∧ (sq k).2 (0 * 4 + 0) ≠ 11 := by decide +kernel
theorem sq_f : (sq 3).1 8 = 0 ∧ (sq 3).1 9 = 1 ∧ (dSteal 2 (sq 3).2 1).2 = 0 := by decide +kernel
theorem deque_fact_c {own : List Ent} {ro : Addr → Option Value} {post : Value → H → Prop} (hk : post (.bool true) ⟨own, ro⟩) : SemCall Try.prog 16 (List.toArray []) ⟨own, ro⟩ post := by
  refine f16_call _ post ?_
  refine dq_new_c (fun hc => absurd ⟨by decide, by decide⟩ hc) (fun p L hs _ _ => ⟨_, none, rfl, ?_⟩)
  have hp : (dPush (fun _ => 0) 5).2 = 0 := by decide
  refine ⟨fun b h => b = false ∧ ∃ L, h = ⟨own ++ (L ++ []), ro⟩ ∧ DqAt p 2 (sq 0).1 (sq 0).2 L, VIf_nnil ?_, ?_⟩
  · refine dq_push_c own [] (by simp) hs (fun L1 h1 => ⟨_, rfl, isIfaceV_errV _, gi ⟨?_, L1, rfl, h1⟩⟩)
    rw [hp]; rfl
  rintro _ b h ⟨rfl, L1, rfl, h1⟩
  refine VIf_b (nomatch ·) (fun _ => ?_)
  refine ⟨fun h => ∃ L, h = ⟨own ++ (L ++ []), ro⟩ ∧ DqAt p 2 (sq 3).1 (sq 3).2 L, ⟨fun m i h => ∃ (k : Nat) (L : List Ent), i = (k : Int) ∧ k ≤ 3 ∧ m = 3 - k ∧ h = ⟨own ++ (L ++ []), ro⟩ ∧ DqAt p 2 (sq k).1 (sq k).2 L, ⟨3, gi ⟨0, L1, rfl, by omega, rfl, rfl, h1⟩⟩, ?_⟩, ?_⟩
  · rintro m _ i h ⟨k, L, rfl, hk3, rfl, rfl, hs⟩
    refine VIf_dec (fun hi => ?_) (fun hi => gi ⟨L, rfl, by rw [show 3 = k by omega]; exact hs⟩)
    have hi : (k : Int) < 3 := hi
    obtain ⟨e1, e2, e3, e4, e5⟩ := sq_e k (by omega)
    obtain ⟨b1, b2⟩ := sq_bnd k
    refine dq_step_c (q := 0) own [] rfl hs (by omega) ⟨b1.mono (by omega), b2.mono (by omega), e2, fun _ => e3, fun h => absurd h e4, fun h => absurd h e5⟩ (fun L' h' => ⟨_, _, _, rfl, ?_⟩)
    rw [e1]
    refine VIf_nerr (fun h => absurd rfl h) (fun _ => ⟨⟨by omega, by omega⟩, 3 - (k + 1), by omega, gi ⟨k + 1, L', rfl, by omega, rfl, rfl, h'⟩⟩)
  rintro _ h ⟨L2, rfl, h2⟩
  obtain ⟨g1, g2, g3⟩ := sq_f
  refine dq_ends_c h2 (fun _ h => by simp [h]) ⟨_, _, rfl, ?_⟩
  rw [g1, g2]
  refine ⟨fun b h => b = true ∧ ∃ L, h = ⟨own ++ (L ++ []), ro⟩, VIf_eq (fun _ => VIf_eq (fun _ => ?_) (fun h => absurd rfl h)) (fun h => absurd rfl h), ?_⟩
  · refine dq_steal_c own [] rfl h2 (fun L3 h3 => ⟨_, rfl, isIfaceV_errV _, gi ⟨?_, L3, rfl⟩⟩)
    rw [g3]; rfl
  · rintro _ b h ⟨rfl, L, rfl⟩
    exact ⟨⟨own, ro⟩, Gh.drop (by simp), hk⟩
end Go.Proofs.Ytiaopgnnibidlaa
