import Derived.Test.YtockhbbpcbcenaaDoorCn
namespace Go.Proofs.YtockhbbpcbcenaaDoor
open Go.Eng
set_option maxRecDepth 20000
theorem CRel.bound {c : CS} {m : List Int} {i : Int} (hr : CRel c m) (h : CI c i) (hi : i ≤ 1000) (k : Nat) : -100000000 ≤ gI m k ∧ gI m k ≤ 100000000 := by
  have hl := hr.len
  have h0 := h.i0
  by_cases c1 : k = 0
  · subst c1; rw [hr.n]; have := h.n1; have := h.n4; omega
  by_cases c2 : k < 19
  · obtain ⟨w, r, hw, hr9, rfl⟩ : ∃ w r, w < 2 ∧ r < 9 ∧ k = 1 + w * 9 + r := ⟨(k - 1) / 9, (k - 1) % 9, by omega, by omega, by omega⟩
    by_cases r0 : r = 0
    · subst r0; have := hr.S w hw; have := h.bS w hw; rw [show 1 + w * 9 + 0 = 1 + w * 9 by omega]; omega
    by_cases r1 : r < 5
    · have e := hr.D w (r - 1) hw (by omega); have := h.bD w (r - 1) hw (by omega); rw [show 1 + w * 9 + 1 + (r - 1) = 1 + w * 9 + r by omega] at e; omega
    · have e := hr.G w (r - 5) hw (by omega); have := h.bG w (r - 5) hw (by omega); rw [show 1 + w * 9 + 5 + (r - 5) = 1 + w * 9 + r by omega] at e; omega
  by_cases c3 : k < 37
  · obtain ⟨w, r, hw, hr9, rfl⟩ : ∃ w r, w < 2 ∧ r < 9 ∧ k = 19 + w * 9 + r := ⟨(k - 19) / 9, (k - 19) % 9, by omega, by omega, by omega⟩
    by_cases r0 : r = 0
    · subst r0; have := hr.sS w hw; have := h.bS w hw; rw [show 19 + w * 9 + 0 = 19 + w * 9 by omega]; omega
    by_cases r1 : r < 5
    · have e := hr.sD w (r - 1) hw (by omega); have := h.bD w (r - 1) hw (by omega); rw [show 19 + w * 9 + 1 + (r - 1) = 19 + w * 9 + r by omega] at e; omega
    · have e := hr.sG w (r - 5) hw (by omega); have := h.bG w (r - 5) hw (by omega); rw [show 19 + w * 9 + 5 + (r - 5) = 19 + w * 9 + r by omega] at e; omega
  by_cases c4 : k = 37
  · subst c4; rw [hr.W]; have := h.w; omega
  by_cases c5 : k = 38
  · subst c5; rw [hr.K]; have := h.k0; have := h.k4; omega
  by_cases c6 : k < 47
  · obtain ⟨p, r, hp, hr9, rfl⟩ : ∃ p r, p < 4 ∧ r < 2 ∧ k = 39 + p * 2 + r := ⟨(k - 39) / 2, (k - 39) % 2, by omega, by omega, by omega⟩
    by_cases r0 : r = 0
    · subst r0; have e := hr.aA p hp; have := h.a p hp; rw [show 39 + p * 2 + 0 = 39 + p * 2 by omega]; omega
    · have e := hr.aN p hp; have := h.bN p hp; rw [show 39 + p * 2 + r = 40 + p * 2 by omega]; omega
  by_cases c7 : k < 59
  · obtain ⟨p, r, hp, hr9, rfl⟩ : ∃ p r, p < 4 ∧ r < 3 ∧ k = 47 + p * 3 + r := ⟨(k - 47) / 3, (k - 47) % 3, by omega, by omega, by omega⟩
    by_cases r0 : r = 0
    · subst r0; have e := hr.hL p hp; have := h.ln p hp; rw [show 47 + p * 3 + 0 = 47 + p * 3 by omega]; omega
    by_cases r1 : r = 1
    · subst r1; have e := hr.hA p hp; have := h.a p hp; omega
    · have e := hr.hN p hp; have := h.bN p hp; rw [show 47 + p * 3 + r = 47 + p * 3 + 2 by omega]; omega
  · have : gI m k = 0 := by unfold gI; rw [List.getElem?_eq_none (by omega)]; rfl
    omega
theorem CRel.ok {c : CS} {m : List Int} {i : Int} (hr : CRel c m) (h : CI c i) (hi : i ≤ 1000) : COk m :=
  ⟨hr.bound h hi, by rw [hr.n]; exact h.n1, by rw [hr.n]; exact h.n4, by rw [hr.W]; have := h.w; omega⟩
theorem CRel.ok9 {c : CS} {m : List Int} {i : Int} (hr : CRel c m) (h : CI c i) (hi : i ≤ 1000) (k j : Nat) (hk : k ≤ 4) : -1000000000 ≤ gI (combN m (cHalf m (gI m 37)) k) j ∧ gI (combN m (cHalf m (gI m 37)) k) j ≤ 1000000000 := by
  obtain ⟨s0, s1, s2⟩ := combN_spec hr h.w k hk
  have hl := combN_len (m := m) (cHalf_len m (gI m 37)) k (by omega)
  have h0 := h.i0
  have bS := h.bS c.W h.w
  have ha : ∀ k, k ≤ 4 → 0 ≤ dsum (c.D c.W) c.aN c.aA k ∧ dsum (c.D c.W) c.aN c.aA k ≤ 1000 * k := fun k hk => dsum_ok k (fun r hr => ⟨(h.a r (by omega)).1, (h.a r (by omega)).2.1⟩)
  by_cases c1 : j = 0
  · subst c1; have := ha k hk; omega
  by_cases c2 : j < 5
  · have e := s1 (j - 1) (by omega)
    rw [show 1 + (j - 1) = j by omega] at e
    have := h.bD c.W (j - 1) h.w (by omega)
    rw [e]; split <;> omega
  by_cases c3 : j < 9
  · have e := s2 (j - 5) (by omega)
    rw [show 5 + (j - 5) = j by omega] at e
    have := h.bG c.W (j - 5) h.w (by omega)
    have := ha (j - 5) (by omega)
    rw [e]; split <;> omega
  · have : gI (combN m (cHalf m (gI m 37)) k) j = 0 := by generalize combN m (cHalf m (gI m 37)) k = x at hl; unfold gI; rw [List.getElem?_eq_none (by omega)]; rfl
    omega
/-- begun -/
theorem comb_begins {c : CS} {m : List Int} {i : Int} (hr : CRel c m) (h : CI c i) (q add : Int) :
    ((combBegin m q add).2 ≠ 0 ∧ (combBegin m q add).1 = m) ∨
    ∃ k : Nat, q = (k : Int) ∧ k < 4 ∧ (k : Int) < c.n ∧ c.hL k = 0 ∧ 0 ≤ add ∧ add ≤ 1000 ∧ (combBegin m q add).2 = 0 ∧ CRel { c with hL := upd1 c.hL k 1, hA := upd1 c.hA k add, hN := upd1 c.hN k (c.D c.W k + 1) } (combBegin m q add).1 ∧
      CI { c with hL := upd1 c.hL k 1, hA := upd1 c.hA k add, hN := upd1 c.hN k (c.D c.W k + 1) } (i + 1) := by
  unfold combBegin
  have hn := hr.n
  have n4 := h.n4
  by_cases h1 : ¬ (0 ≤ q ∧ q ≤ gI m 0 - 1) ∨ ¬ (0 ≤ add ∧ add ≤ 1000)
  · rw [if_pos h1]; exact .inl ⟨by simp, rfl⟩
  rw [if_neg h1]
  obtain ⟨k, rfl⟩ : ∃ k : Nat, q = (k : Int) := ⟨q.toNat, by omega⟩
  simp only [Int.toNat_natCast]
  have hk : k < 4 := by omega
  rw [hr.hL k hk]
  by_cases h2 : c.hL k ≠ 0
  · rw [if_pos h2]; exact .inl ⟨by simp, rfl⟩
  rw [if_neg h2]
  have hW : (gI m 37).toNat = c.W := by rw [hr.W]; simp
  rw [hW, hr.D c.W k h.w hk]
  exact .inr ⟨k, rfl, hk, by omega, by omega, by omega, by omega, rfl, hr.h3 k hk 1 add _, h.begin hk (by omega) (by omega) (by omega) (by omega)⟩
/-- what one line of a hand does -/
inductive CLine (c : CS) (q : Nat) : CS → Bool → Int → Prop where
  | ask : c.hL q = 1 → CLine c q { c with aA := upd1 c.aA q (c.hA q), aN := upd1 c.aN q (c.hN q), hL := upd1 c.hL q 2 } false 0
  | lock : c.hL q = 2 → c.K = 0 → CLine c q { c with K := (q : Int) + 1, hL := upd1 c.hL q 5 } false 0
  | two : c.hL q = 2 → c.K ≠ 0 → CLine c q { c with hL := upd1 c.hL q 3 } false 0
  | wait : c.hL q = 3 → c.K ≠ 0 → CLine c q { c with hL := upd1 c.hL q 3 } false 0
  | three : c.hL q = 3 → c.K = 0 → CLine c q { c with hL := upd1 c.hL q 4 } false 0
  | again : c.hL q = 4 → c.hN q ≠ c.D c.W q → CLine c q { c with hL := upd1 c.hL q 2 } false 0
  | fin : c.hL q = 4 → c.hN q = c.D c.W q → CLine c q { c with hL := upd1 c.hL q 0, hA := upd1 c.hA q 0, hN := upd1 c.hN q 0 } true (c.G c.W q)
  | add (s : List Int) : c.hL q = 5 → CLine c q { c with S := (fun w => if w = 1 - c.W then gI s 0 else c.S w), D := (fun w p => if w = 1 - c.W then gI s (1 + p) else c.D w p), G := (fun w p => if w = 1 - c.W then gI s (5 + p) else c.G w p), hL := upd1 c.hL q 6 } false 0
  | copy (s : List Int) : c.hL q = 6 → CLine c q { c with sS := (fun w => if w = 1 - c.W then gI s 0 else c.sS w), sD := (fun w p => if w = 1 - c.W then gI s (1 + p) else c.sD w p), sG := (fun w p => if w = 1 - c.W then gI s (5 + p) else c.sG w p), hL := upd1 c.hL q 7 } false 0
  | flip : c.hL q = 7 → CLine c q { c with W := 1 - c.W, hL := upd1 c.hL q 8 } false 0
  | free : c.hL q = 8 → CLine c q { c with K := 0, hL := upd1 c.hL q 4 } false 0
theorem comb_line {c : CS} {m : List Int} {i : Int} (hr : CRel c m) (h : CI c i) (q : Int) :
    (∃ e, e ≠ 0 ∧ combStep m q = (m, false, 0, e) ∧ ∀ k : Nat, q = (k : Int) → (k : Int) < c.n → c.hL k = 0) ∨
    ∃ (k : Nat) (c' : CS) (b : Bool) (g : Int), q = (k : Int) ∧ k < 4 ∧ (k : Int) < c.n ∧ c.hL k ≠ 0 ∧ (combStep m q).2 = (b, g, 0) ∧ CRel c' (combStep m q).1 ∧ CI c' (i + 1) ∧ CLine c k c' b g := by
  unfold combStep
  have hn := hr.n
  have n4 := h.n4
  by_cases h1 : ¬ (0 ≤ q ∧ q ≤ gI m 0 - 1)
  · rw [if_pos h1]; exact .inl ⟨_, by simp, rfl, fun k hk hn => by omega⟩
  rw [if_neg h1]
  obtain ⟨k, rfl⟩ : ∃ k : Nat, q = (k : Int) := ⟨q.toNat, by omega⟩
  simp only [Int.toNat_natCast]
  have hk : k < 4 := by omega
  have hkn : (k : Int) < c.n := by omega
  have hW : (gI m 37).toNat = c.W := by rw [hr.W]; simp
  have hW1 : (1 - gI m 37).toNat = 1 - c.W := by rw [hr.W]; have := h.w; omega
  have hWI : 1 - gI m 37 = ((1 - c.W : Nat) : Int) := by rw [hr.W]; have := h.w; omega
  rw [hr.hL k hk, hr.hA k hk, hr.hN k hk, hr.K, hW, hW1, hWI, hr.D c.W k h.w hk, hr.G c.W k h.w hk]
  by_cases h0 : c.hL k = 0
  · rw [if_pos h0]; exact .inl ⟨_, by simp, rfl, fun k' hk' _ => by rw [show k' = k by omega]; exact h0⟩
  rw [if_neg h0]
  refine .inr ?_
  by_cases h1 : c.hL k = 1
  · rw [if_pos h1, h1]
    exact ⟨k, _, _, _, rfl, hk, hkn, h0, rfl, (hr.ask k hk _ _).hl k hk _, h.line1 hk h1, .ask h1⟩
  rw [if_neg h1]
  by_cases h2 : c.hL k = 2
  · rw [if_pos h2, h2]
    by_cases hK : c.K = 0
    · rw [if_pos hK]
      exact ⟨k, _, _, _, rfl, hk, hkn, h0, rfl, (hr.lock _).hl k hk _, h.lock hk h2 hK, .lock h2 hK⟩
    · rw [if_neg hK]
      exact ⟨k, _, _, _, rfl, hk, hkn, h0, rfl, hr.hl k hk _, h.wait hk (by omega) (by omega), .two h2 hK⟩
  rw [if_neg h2]
  by_cases h3 : c.hL k = 3
  · rw [if_pos h3, h3]
    by_cases hK : c.K = 0
    · rw [if_neg (not_not_intro hK)]
      exact ⟨k, _, _, _, rfl, hk, hkn, h0, rfl, hr.hl k hk _, h.wait hk (by omega) (by omega), .three h3 hK⟩
    · rw [if_pos hK]
      exact ⟨k, _, _, _, rfl, hk, hkn, h0, rfl, hr.hl k hk _, h.wait hk (by omega) (by omega), .wait h3 hK⟩
  rw [if_neg h3]
  by_cases h4 : c.hL k = 4
  · rw [if_pos h4]
    by_cases hD : c.D c.W k = c.hN k
    · rw [if_pos hD]
      exact ⟨k, _, _, _, rfl, hk, hkn, h0, rfl, hr.h3 k hk _ _ _, h.done hk h4 hD.symm, .fin h4 hD.symm⟩
    · rw [if_neg hD]
      exact ⟨k, _, _, _, rfl, hk, hkn, h0, rfl, hr.hl k hk _, h.wait hk (by omega) (by omega), .again h4 (Ne.symm hD)⟩
  rw [if_neg h4]
  by_cases h5 : c.hL k = 5
  · rw [if_pos h5, h5]
    obtain ⟨s0, s1, s2⟩ := combN_spec hr h.w 4 (by omega)
    have hsl := combN_len (m := m) (cHalf_len m (gI m 37)) 4 (by omega)
    unfold combAll
    rw [hW1]
    exact ⟨k, _, _, _, rfl, hk, hkn, h0, rfl, (hr.now (1 - c.W) (by omega) _ hsl).hl k hk _, h.combine hk h5 s0 s1 s2, .add _ h5⟩
  rw [if_neg h5]
  by_cases h6 : c.hL k = 6
  · rw [if_pos h6, h6]
    have hget := fun j hj => cHalf_get m ((1 - c.W : Nat) : Int) j hj
    simp only [Int.toNat_natCast] at hget
    have hw := h.w
    refine ⟨k, _, _, _, rfl, hk, hkn, h0, rfl, (hr.sure (1 - c.W) (by omega) _ (cHalf_len m _)).hl k hk _, h.copy hk h6 ?_ (fun p hp => ?_) (fun p hp => ?_), .copy _ h6⟩
    · rw [hget 0 (by omega), Nat.add_zero]; exact hr.S _ (by omega)
    · rw [hget _ (by omega), ← hr.D _ p (by omega) hp]; congr 1; omega
    · rw [hget _ (by omega), ← hr.G _ p (by omega) hp]; congr 1; omega
  rw [if_neg h6]
  by_cases h7 : c.hL k = 7
  · rw [if_pos h7, h7]
    exact ⟨k, _, _, _, rfl, hk, hkn, h0, rfl, (hr.which _).hl k hk _, h.flip hk h7, .flip h7⟩
  rw [if_neg h7]
  have h8 : c.hL k = 8 := by have := h.ln k hk; omega
  rw [if_pos h8]
  exact ⟨k, _, _, _, rfl, hk, hkn, h0, rfl, (hr.lock _).hl k hk _, h.free hk h8, .free h8⟩
end Go.Proofs.YtockhbbpcbcenaaDoor
