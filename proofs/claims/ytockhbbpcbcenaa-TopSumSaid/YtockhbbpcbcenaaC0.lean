import Derived.Test.YtockhbbpcbcenaaCq
namespace Go.Proofs.Ytockhbbpcbcenaa
open Go.Eng
set_option maxRecDepth 20000
/-! ### what is added, told exactly -/
def CGs (c : CS) (k : Nat) (c' : CS) : Prop := c.hL k = 5 →
  (∀ p, p < 4 → c'.G (1 - c.W) p = if p < 4 ∧ c.aN p = c.D c.W p + 1 then c.S c.W + dsum (c.D c.W) c.aN c.aA p else c.G c.W p) ∧
  (∀ p, p < 4 → c'.D (1 - c.W) p = if p < 4 ∧ c.aN p = c.D c.W p + 1 then c.D c.W p + 1 else c.D c.W p)
theorem comb_lineG {c : CS} {m : List Int} {i : Int} (hr : CRel c m) (h : CI c i) (q : Int) :
    (∃ e, e ≠ 0 ∧ combStep m q = (m, false, 0, e) ∧ ∀ k : Nat, q = (k : Int) → (k : Int) < c.n → c.hL k = 0) ∨
    ∃ (k : Nat) (c' : CS) (b : Bool) (g : Int), q = (k : Int) ∧ k < 4 ∧ (k : Int) < c.n ∧ c.hL k ≠ 0 ∧ (combStep m q).2 = (b, g, 0) ∧ CRel c' (combStep m q).1 ∧ CI c' (i + 1) ∧ CLine c k c' b g ∧ CGs c k c' := by
  unfold combStep
  have hn := hr.n
  have n4 := h.n4
  by_cases h1 : ¬ (0 ≤ q ∧ q ≤ gI m 0 - 1)
  · rw [if_pos h1]; exact .inl ⟨_, by simp, rfl, fun k hk hn => by omega⟩
  rw [if_neg h1]
  obtain ⟨k, rfl⟩ : ∃ k : Nat, q = (k : Int) := ⟨q.toNat, by omega⟩
  simp only [Int.toNat_natCast]
  have hk : k < 4 := by omega
  have hkn : (k : Int) < c.n := by omega
  have hW : (gI m 37).toNat = c.W := by rw [hr.W]; simp
  have hW1 : (1 - gI m 37).toNat = 1 - c.W := by rw [hr.W]; have := h.w; omega
  have hWI : 1 - gI m 37 = ((1 - c.W : Nat) : Int) := by rw [hr.W]; have := h.w; omega
  rw [hr.hL k hk, hr.hA k hk, hr.hN k hk, hr.K, hW, hW1, hWI, hr.D c.W k h.w hk, hr.G c.W k h.w hk]
  by_cases h0 : c.hL k = 0
  · rw [if_pos h0]; exact .inl ⟨_, by simp, rfl, fun k' hk' _ => by rw [show k' = k by omega]; exact h0⟩
  rw [if_neg h0]
  refine .inr ?_
  by_cases h1 : c.hL k = 1
  · rw [if_pos h1, h1]
    exact ⟨k, _, _, _, rfl, hk, hkn, h0, rfl, (hr.ask k hk _ _).hl k hk _, h.line1 hk h1, .ask h1, fun h => by omega⟩
  rw [if_neg h1]
  by_cases h2 : c.hL k = 2
  · rw [if_pos h2, h2]
    by_cases hK : c.K = 0
    · rw [if_pos hK]
      exact ⟨k, _, _, _, rfl, hk, hkn, h0, rfl, (hr.lock _).hl k hk _, h.lock hk h2 hK, .lock h2 hK, fun h => by omega⟩
    · rw [if_neg hK]
      exact ⟨k, _, _, _, rfl, hk, hkn, h0, rfl, hr.hl k hk _, h.wait hk (by omega) (by omega), .two h2 hK, fun h => by omega⟩
  rw [if_neg h2]
  by_cases h3 : c.hL k = 3
  · rw [if_pos h3, h3]
    by_cases hK : c.K = 0
    · rw [if_neg (not_not_intro hK)]
      exact ⟨k, _, _, _, rfl, hk, hkn, h0, rfl, hr.hl k hk _, h.wait hk (by omega) (by omega), .three h3 hK, fun h => by omega⟩
    · rw [if_pos hK]
      exact ⟨k, _, _, _, rfl, hk, hkn, h0, rfl, hr.hl k hk _, h.wait hk (by omega) (by omega), .wait h3 hK, fun h => by omega⟩
  rw [if_neg h3]
  by_cases h4 : c.hL k = 4
  · rw [if_pos h4]
    by_cases hD : c.D c.W k = c.hN k
    · rw [if_pos hD]
      exact ⟨k, _, _, _, rfl, hk, hkn, h0, rfl, hr.h3 k hk _ _ _, h.done hk h4 hD.symm, .fin h4 hD.symm, fun h => by omega⟩
    · rw [if_neg hD]
      exact ⟨k, _, _, _, rfl, hk, hkn, h0, rfl, hr.hl k hk _, h.wait hk (by omega) (by omega), .again h4 (Ne.symm hD), fun h => by omega⟩
  rw [if_neg h4]
  by_cases h5 : c.hL k = 5
  · rw [if_pos h5, h5]
    obtain ⟨s0, s1, s2⟩ := combN_spec hr h.w 4 (by omega)
    have hsl := combN_len (m := m) (cHalf_len m (gI m 37)) 4 (by omega)
    unfold combAll
    rw [hW1]
    refine ⟨k, _, _, _, rfl, hk, hkn, h0, rfl, (hr.now (1 - c.W) (by omega) _ hsl).hl k hk _, h.combine hk h5 s0 s1 s2, .add _ h5, fun _ => ⟨fun p hp => ?_, fun p hp => ?_⟩⟩
    · dsimp only; rw [if_pos rfl, s2 p hp]
    · dsimp only; rw [if_pos rfl, s1 p hp]
  rw [if_neg h5]
  by_cases h6 : c.hL k = 6
  · rw [if_pos h6, h6]
    have hget := fun j hj => cHalf_get m ((1 - c.W : Nat) : Int) j hj
    simp only [Int.toNat_natCast] at hget
    have hw := h.w
    refine ⟨k, _, _, _, rfl, hk, hkn, h0, rfl, (hr.sure (1 - c.W) (by omega) _ (cHalf_len m _)).hl k hk _, h.copy hk h6 ?_ (fun p hp => ?_) (fun p hp => ?_), .copy _ h6, fun h => by omega⟩
    · rw [hget 0 (by omega), Nat.add_zero]; exact hr.S _ (by omega)
    · rw [hget _ (by omega), ← hr.D _ p (by omega) hp]; congr 1; omega
    · rw [hget _ (by omega), ← hr.G _ p (by omega) hp]; congr 1; omega
  rw [if_neg h6]
  by_cases h7 : c.hL k = 7
  · rw [if_pos h7, h7]
    exact ⟨k, _, _, _, rfl, hk, hkn, h0, rfl, (hr.which _).hl k hk _, h.flip hk h7, .flip h7, fun h => by omega⟩
  rw [if_neg h7]
  have h8 : c.hL k = 8 := by have := h.ln k hk; omega
  rw [if_pos h8]
  exact ⟨k, _, _, _, rfl, hk, hkn, h0, rfl, (hr.lock _).hl k hk _, h.free hk h8, .free h8, fun h => by omega⟩
theorem cv_stepG {p : Nat} {c : CS} {i q : Int} {L own : List Ent} {ro : Addr → Option Value} {post : Value → H → Prop} (A C : List Ent) (hown : own = A ++ (L ++ C)) (hs : CV p c i L) (hi : i ≤ 900)
    (hk : ∀ L' c' b g e, CV p c' (i + 1) L' → ((e ≠ 0 ∧ c' = c ∧ b = false ∧ g = 0 ∧ ∀ k : Nat, q = (k : Int) → (k : Int) < c.n → c.hL k = 0) ∨ (e = 0 ∧ ∃ k : Nat, q = (k : Int) ∧ k < 4 ∧ (k : Int) < c.n ∧ c.hL k ≠ 0 ∧ CLine c k c' b g ∧ CGs c k c')) →
      post (.tuple (List.toArray [.bool b, .int .i64 g, errV (eno 65 e)])) ⟨A ++ (L' ++ C), ro⟩) :
    SemCall Try.prog 13 (List.toArray [.pointer (some (Addr.mk p 0 none)), .int .i64 q]) ⟨own, ro⟩ post := by
  obtain ⟨m, hm, hr, h⟩ := hs
  refine comb_step_c A C hown hm (hr.ok h (by omega)) (fun k j => hr.ok9 h (by omega) k j) (fun L' hL' => ?_)
  rcases comb_lineG hr h q with ⟨e, e0, e1, e2⟩ | ⟨k, c', b, g, rfl, k4, kn, h0, e1, hr', h', hl, hG⟩
  · rw [e1] at hL' ⊢
    exact hk L' c _ _ _ ⟨m, hL', hr, h.mono (by omega)⟩ (.inl ⟨e0, rfl, rfl, rfl, e2⟩)
  · rw [e1]
    exact hk L' c' _ _ _ ⟨_, hL', hr', h'⟩ (.inr ⟨rfl, k, rfl, k4, kn, h0, hl, hG⟩)
end Go.Proofs.Ytockhbbpcbcenaa
