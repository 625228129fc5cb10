import Derived.Test.YtockhbbpcbcenaaDoorCr
namespace Go.Proofs.YtockhbbpcbcenaaDoor
open Go.Eng
set_option maxRecDepth 20000
/-! ### the laws of the comb, plain -/
def dsum (D D' a : Nat → Int) : Nat → Int
  | 0 => 0
  | k + 1 => dsum D D' a k + if D' k = D k + 1 then a k else 0
theorem dsum_congr {D D' E E' a b : Nat → Int} : ∀ k, (∀ p, p < k → (D' p = D p + 1 ↔ E' p = E p + 1)) → (∀ p, p < k → D' p = D p + 1 → a p = b p) → dsum D D' a k = dsum E E' b k
  | 0, _, _ => rfl
  | k + 1, h1, h2 => by
    simp only [dsum]
    rw [dsum_congr k (fun p hp => h1 p (by omega)) (fun p hp => h2 p (by omega))]
    have := h1 k (by omega)
    have h3 := h2 k (by omega)
    by_cases e : D' k = D k + 1
    · rw [if_pos e, if_pos (this.1 e), h3 e]
    · rw [if_neg e, if_neg (fun h => e (this.2 h))]
theorem dsum_same {D D' a : Nat → Int} : ∀ k, (∀ p, p < k → D' p = D p) → dsum D D' a k = 0
  | 0, _ => rfl
  | k + 1, h => by
    simp only [dsum]
    rw [dsum_same k (fun p hp => h p (by omega)), if_neg (by have := h k (by omega); omega)]
    rfl
theorem dsum_ok {D D' a : Nat → Int} : ∀ k, (∀ p, p < k → 0 ≤ a p ∧ a p ≤ 1000) → 0 ≤ dsum D D' a k ∧ dsum D D' a k ≤ 1000 * k
  | 0, _ => by simp [dsum]
  | k + 1, h => by
    have := dsum_ok (D := D) (D' := D') k (fun p hp => h p (by omega))
    have := h k (by omega)
    simp only [dsum]
    split <;> omega
/-- what one adds for all -/
theorem combN_spec {c : CS} {m : List Int} (h : CRel c m) (hW : c.W < 2) : ∀ k, k ≤ 4 →
    gI (combN m (cHalf m (gI m 37)) k) 0 = c.S c.W + dsum (c.D c.W) c.aN c.aA k ∧
    (∀ p, p < 4 → gI (combN m (cHalf m (gI m 37)) k) (1 + p) = if p < k ∧ c.aN p = c.D c.W p + 1 then c.D c.W p + 1 else c.D c.W p) ∧
    (∀ p, p < 4 → gI (combN m (cHalf m (gI m 37)) k) (5 + p) = if p < k ∧ c.aN p = c.D c.W p + 1 then c.S c.W + dsum (c.D c.W) c.aN c.aA p else c.G c.W p)
  | 0, _ => by
    have hw : (gI m 37).toNat = c.W := by rw [h.W]; simp
    simp only [combN]
    refine ⟨?_, fun p hp => ?_, fun p hp => ?_⟩
    · rw [cHalf_get _ _ 0 (by omega), hw]
      have := h.S c.W hW
      simp only [dsum]
      rw [show 1 + c.W * 9 + 0 = 1 + c.W * 9 by omega, this]; omega
    · rw [cHalf_get _ _ _ (by omega), hw, if_neg (by omega)]
      rw [show 1 + c.W * 9 + (1 + p) = 1 + c.W * 9 + 1 + p by omega]
      exact h.D c.W p hW hp
    · rw [cHalf_get _ _ _ (by omega), hw, if_neg (by omega)]
      rw [show 1 + c.W * 9 + (5 + p) = 1 + c.W * 9 + 5 + p by omega]
      exact h.G c.W p hW hp
  | k + 1, hk => by
    obtain ⟨i0, i1, i2⟩ := combN_spec h hW k (by omega)
    have hsl := combN_len (m := m) (cHalf_len m (gI m 37)) k (by omega)
    have hget := fun j => combOne_get (m := m) (q := k) hsl (by omega) j
    have e1 := i1 k (by omega)
    rw [if_neg (by omega)] at e1
    have ea := h.aA k (by omega)
    have en := h.aN k (by omega)
    simp only [combN]
    by_cases hc : c.aN k = c.D c.W k + 1
    · have hc' : gI m (40 + k * 2) = gI (combN m (cHalf m (gI m 37)) k) (1 + k) + 1 := by rw [en, e1, hc]
      refine ⟨?_, fun p hp => ?_, fun p hp => ?_⟩
      · rw [hget, if_pos hc', if_neg (by omega), if_pos rfl, i0, ea]
        simp only [dsum]
        rw [if_pos hc]; omega
      · rw [hget, if_pos hc']
        by_cases hpk : p = k
        · subst hpk; rw [if_pos rfl, if_pos ⟨by omega, hc⟩, en, hc]
        · rw [if_neg (by omega), if_neg (by omega), if_neg (by omega), i1 p hp]
          by_cases hlt : p < k ∧ c.aN p = c.D c.W p + 1
          · rw [if_pos hlt, if_pos ⟨by omega, hlt.2⟩]
          · rw [if_neg hlt, if_neg (fun h => hlt ⟨by omega, h.2⟩)]
      · rw [hget, if_pos hc', if_neg (by omega), if_neg (by omega)]
        by_cases hpk : p = k
        · subst hpk; rw [if_pos rfl, if_pos ⟨by omega, hc⟩, i0]
        · rw [if_neg (by omega), i2 p hp]
          by_cases hlt : p < k ∧ c.aN p = c.D c.W p + 1
          · rw [if_pos hlt, if_pos ⟨by omega, hlt.2⟩]
          · rw [if_neg hlt, if_neg (fun h => hlt ⟨by omega, h.2⟩)]
    · have hc' : ¬ gI m (40 + k * 2) = gI (combN m (cHalf m (gI m 37)) k) (1 + k) + 1 := by rw [en, e1]; exact hc
      refine ⟨?_, fun p hp => ?_, fun p hp => ?_⟩
      · rw [hget, if_neg hc', i0]
        simp only [dsum]
        rw [if_neg hc]; omega
      · rw [hget, if_neg hc', i1 p hp]
        by_cases hlt : p < k ∧ c.aN p = c.D c.W p + 1
        · rw [if_pos hlt, if_pos ⟨by omega, hlt.2⟩]
        · rw [if_neg hlt, if_neg (fun h => by
            by_cases e : p = k
            · subst e; exact hc h.2
            · exact hlt ⟨by omega, h.2⟩)]
      · rw [hget, if_neg hc', i2 p hp]
        by_cases hlt : p < k ∧ c.aN p = c.D c.W p + 1
        · rw [if_pos hlt, if_pos ⟨by omega, hlt.2⟩]
        · rw [if_neg hlt, if_neg (fun h => by
            by_cases e : p = k
            · subst e; exact hc h.2
            · exact hlt ⟨by omega, h.2⟩)]
/-- the half that is made, against the one that counts -/
structure CMid (c : CS) : Prop where
  s : c.S (1 - c.W) = c.S c.W + dsum (c.D c.W) (c.D (1 - c.W)) c.aA 4
  d : ∀ q, q < 4 → (c.D (1 - c.W) q = c.D c.W q + 1 ∧ c.aN q = c.D (1 - c.W) q ∧ c.G (1 - c.W) q + c.aA q ≤ c.S (1 - c.W)) ∨ (c.D (1 - c.W) q = c.D c.W q ∧ c.G (1 - c.W) q = c.G c.W q)
structure CI (c : CS) (i : Int) : Prop where
  n1 : 1 ≤ c.n
  n4 : c.n ≤ 4
  w : c.W < 2
  eS : c.sS c.W = c.S c.W
  eD : ∀ p, p < 4 → c.sD c.W p = c.D c.W p
  eG : ∀ p, p < 4 → c.sG c.W p = c.G c.W p
  ln : ∀ p, p < 4 → 0 ≤ c.hL p ∧ c.hL p ≤ 8
  out : ∀ p : Nat, p < 4 → c.n ≤ p → c.hL p = 0
  k : ∀ p : Nat, p < 4 → (5 ≤ c.hL p ↔ c.K = p + 1)
  k0 : 0 ≤ c.K
  k4 : c.K ≤ 4
  nu : ∀ p, p < 4 → c.hL p ≠ 0 → c.hN p = c.D c.W p + 1 ∨ c.hN p = c.D c.W p
  ask : ∀ p, p < 4 → 2 ≤ c.hL p → c.aN p = c.hN p ∧ c.aA p = c.hA p
  aq : ∀ p, p < 4 → c.aN p ≤ c.D c.W p ∨ c.aN p = c.D c.W p + 1 ∧ 2 ≤ c.hL p
  a : ∀ p, p < 4 → 0 ≤ c.aA p ∧ c.aA p ≤ 1000 ∧ 0 ≤ c.hA p ∧ c.hA p ≤ 1000
  mid : ∀ p, p < 4 → c.hL p = 6 ∨ c.hL p = 7 → CMid c ∧ c.D (1 - c.W) p = c.hN p
  m7 : ∀ p, p < 4 → c.hL p = 7 → c.sS (1 - c.W) = c.S (1 - c.W) ∧ ∀ q, q < 4 → c.sD (1 - c.W) q = c.D (1 - c.W) q ∧ c.sG (1 - c.W) q = c.G (1 - c.W) q
  m8 : ∀ p, p < 4 → c.hL p = 8 → c.hN p = c.D c.W p
  gs : ∀ p, p < 4 → c.hL p ≠ 0 → c.hN p = c.D c.W p → c.G c.W p + c.hA p ≤ c.S c.W
  bS : ∀ w, w < 2 → 0 ≤ c.S w ∧ c.S w ≤ 4000 * i ∧ 0 ≤ c.sS w ∧ c.sS w ≤ 4000 * i
  bD : ∀ w p, w < 2 → p < 4 → 0 ≤ c.D w p ∧ c.D w p ≤ i ∧ 0 ≤ c.sD w p ∧ c.sD w p ≤ i
  bG : ∀ w p, w < 2 → p < 4 → 0 ≤ c.G w p ∧ c.G w p ≤ 4000 * i ∧ 0 ≤ c.sG w p ∧ c.sG w p ≤ 4000 * i
  bN : ∀ p, p < 4 → 0 ≤ c.aN p ∧ c.aN p ≤ i ∧ 0 ≤ c.hN p ∧ c.hN p ≤ i
  i0 : 0 ≤ i
def cs0 (n : Int) : CS := ⟨n, 0, 0, fun _ => 0, fun _ _ => 0, fun _ _ => 0, fun _ => 0, fun _ _ => 0, fun _ _ => 0, fun _ => 0, fun _ => 0, fun _ => 0, fun _ => 0, fun _ => 0⟩
theorem gI_comb0 (n : Int) (k : Nat) (h : 0 < k) : gI (comb0 n) k = 0 := by
  unfold gI comb0
  cases k with
  | zero => omega
  | succ k => 
    rw [List.getElem?_cons_succ, List.getElem?_replicate]
    split <;> rfl
theorem CRel.start (n : Int) : CRel (cs0 n) (comb0 n) where
  len := by simp [comb0]
  n := rfl
  W := gI_comb0 n _ (by omega)
  K := gI_comb0 n _ (by omega)
  S := fun w _ => gI_comb0 n _ (by omega)
  D := fun w p _ _ => gI_comb0 n _ (by omega)
  G := fun w p _ _ => gI_comb0 n _ (by omega)
  sS := fun w _ => gI_comb0 n _ (by omega)
  sD := fun w p _ _ => gI_comb0 n _ (by omega)
  sG := fun w p _ _ => gI_comb0 n _ (by omega)
  aA := fun p _ => gI_comb0 n _ (by omega)
  aN := fun p _ => gI_comb0 n _ (by omega)
  hL := fun p _ => gI_comb0 n _ (by omega)
  hA := fun p _ => gI_comb0 n _ (by omega)
  hN := fun p _ => gI_comb0 n _ (by omega)
theorem CI.start {n : Int} (h0 : 1 ≤ n) (h1 : n ≤ 4) : CI (cs0 n) 0 := by
  refine ⟨h0, h1, by simp [cs0], rfl, fun _ _ => rfl, fun _ _ => rfl, by simp [cs0], by simp [cs0], fun p hp => by simp [cs0]; omega, by simp [cs0], by simp [cs0], by simp [cs0], by simp [cs0], by simp [cs0], by simp [cs0], by simp [cs0], by simp [cs0], by simp [cs0], by simp [cs0], by simp [cs0], by simp [cs0], by simp [cs0], by simp [cs0], by omega⟩
theorem CI.mono {c : CS} {i j : Int} (h : CI c i) (hj : i ≤ j) : CI c j :=
  { h with bS := fun w hw => by have := h.bS w hw; omega, bD := fun w p hw hp => by have := h.bD w p hw hp; omega, bG := fun w p hw hp => by have := h.bG w p hw hp; omega, bN := fun p hp => by have := h.bN p hp; omega, i0 := by have := h.i0; omega }
end Go.Proofs.YtockhbbpcbcenaaDoor
