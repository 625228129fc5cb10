import Derived.Test.YtiaopgnnibidlaaDn
namespace Go.Proofs.Ytiaopgnnibidlaa
open Go.Eng
set_option maxRecDepth 20000
/-! ### who hungers will eat, plain -/
def phL (t : TS) (z : Nat) : Nat := if t.w (prv t.n z) = z then 0 else if t.a (prv t.n z) = z then 3 else if t.w (prv t.n (prv t.n z)) = prv t.n z ∧ t.d (prv t.n (prv t.n z)) = true then 2 else 1
def phR (t : TS) (z : Nat) : Nat := if t.w z = z then 0 else if t.a z = z then 2 else 1
def tKey (t : TS) (z : Nat) : Nat := if phL t z = 3 ∨ phR t z = 2 then z else if phL t z ≠ 0 then prv t.n z else if phR t z ≠ 0 then nxt t.n z else z
def stR (t : TS) (z : Nat) : Prop := tPr t z ∨ t.g (nxt t.n z) = 0
def stL (t : TS) (z : Nat) : Prop := ¬ tPr t (prv t.n z) ∨ t.g (prv t.n z) = 0
structure Top (t : TS) (z : Nat) : Prop where
  lt : z < t.n
  g : t.g z ≠ 0
  r : stR t z
  l : stL t z
theorem phL_cases (t : TS) (z : Nat) : (t.w (prv t.n z) = z ∧ phL t z = 0) ∨ (t.w (prv t.n z) ≠ z ∧ t.a (prv t.n z) = z ∧ phL t z = 3) ∨ (t.w (prv t.n z) ≠ z ∧ t.a (prv t.n z) ≠ z ∧ (t.w (prv t.n (prv t.n z)) = prv t.n z ∧ t.d (prv t.n (prv t.n z)) = true) ∧ phL t z = 2) ∨ (t.w (prv t.n z) ≠ z ∧ t.a (prv t.n z) ≠ z ∧ ¬ (t.w (prv t.n (prv t.n z)) = prv t.n z ∧ t.d (prv t.n (prv t.n z)) = true) ∧ phL t z = 1) := by
  unfold phL
  by_cases h1 : t.w (prv t.n z) = z
  · rw [if_pos h1]; exact .inl ⟨h1, rfl⟩
  rw [if_neg h1]
  by_cases h2 : t.a (prv t.n z) = z
  · rw [if_pos h2]; exact .inr (.inl ⟨h1, h2, rfl⟩)
  rw [if_neg h2]
  by_cases h3 : t.w (prv t.n (prv t.n z)) = prv t.n z ∧ t.d (prv t.n (prv t.n z)) = true
  · rw [if_pos h3]; exact .inr (.inr (.inl ⟨h1, h2, h3, rfl⟩))
  · rw [if_neg h3]; exact .inr (.inr (.inr ⟨h1, h2, h3, rfl⟩))
theorem phR_cases (t : TS) (z : Nat) : (t.w z = z ∧ phR t z = 0) ∨ (t.w z ≠ z ∧ t.a z = z ∧ phR t z = 2) ∨ (t.w z ≠ z ∧ t.a z ≠ z ∧ phR t z = 1) := by
  unfold phR
  by_cases h1 : t.w z = z
  · rw [if_pos h1]; exact .inl ⟨h1, rfl⟩
  rw [if_neg h1]
  by_cases h2 : t.a z = z
  · rw [if_pos h2]; exact .inr (.inl ⟨h1, h2, rfl⟩)
  · rw [if_neg h2]; exact .inr (.inr ⟨h1, h2, rfl⟩)
theorem ph_b (t : TS) (z : Nat) : phL t z ≤ 3 ∧ phR t z ≤ 2 := by
  rcases phL_cases t z with h | h | h | h <;> rcases phR_cases t z with h' | h' | h' <;> omega
theorem Top.nogive {t : TS} {z : Nat} (hz : Top t z) (h : TI t) : ¬ tGiv t z (prv t.n z) ∧ ¬ tGiv t z z := by
  obtain ⟨r1, r2, r3, r4, r5⟩ := ring_facts h.n3 h.n6 hz.lt
  have hpl : prv t.n z < t.n := prv_lt h.n3
  refine ⟨fun ⟨a, b, c⟩ => ?_, fun ⟨a, b, c⟩ => ?_⟩
  · have hg := (h.h _ hpl (by omega)).2 (by omega)
    rcases hz.l with hl | hl
    · exact hl (.inr ⟨b, by omega⟩)
    · omega
  · have hg := (h.h _ hz.lt (by omega)).1 a
    rcases hz.r with (⟨hl, _⟩ | ⟨_, hl⟩) | hl
    · rw [b] at hl; cases hl
    · exact hl a
    · omega
theorem Top.left {t : TS} {z : Nat} (hz : Top t z) (h : TI t) (h0 : t.w (prv t.n z) ≠ z) (h1 : t.a (prv t.n z) ≠ z) : tGiv t (prv t.n z) (prv t.n z) := by
  obtain ⟨r1, r2, r3, r4, r5⟩ := ring_facts h.n3 h.n6 hz.lt
  have hpl : prv t.n z < t.n := prv_lt h.n3
  have e1 : t.w (prv t.n z) = prv t.n z := by rcases h.w _ hpl with e | e <;> omega
  refine ⟨e1, ?_, by rcases h.a _ hpl with e | e <;> omega⟩
  cases hd : t.d (prv t.n z)
  · have := h.c _ hpl hd
    rw [e1] at this
    rcases hz.l with hl | hl
    · exact absurd (.inl ⟨hd, e1⟩) hl
    · omega
  · rfl
theorem Top.right {t : TS} {z : Nat} (hz : Top t z) (h : TI t) (h0 : t.w z ≠ z) (h1 : t.a z ≠ z) : tGiv t (nxt t.n z) z := by
  obtain ⟨r1, r2, r3, r4, r5⟩ := ring_facts h.n3 h.n6 hz.lt
  have e1 : t.w z = nxt t.n z := by rcases h.w _ hz.lt with e | e <;> omega
  refine ⟨e1, ?_, by rcases h.a _ hz.lt with e | e <;> omega⟩
  cases hd : t.d z
  · have := h.c _ hz.lt hd
    rw [e1] at this
    rcases hz.r with (⟨_, hl⟩ | ⟨hl, _⟩) | hl
    · exact absurd hl h0
    · rw [hd] at hl; cases hl
    · omega
  · rfl
/-- whose turn it must be, and what that one can do -/
theorem Top.key {t : TS} {z k : Nat} (hz : Top t z) (h : TI t) (hk : k = tKey t z) : (k = z ∧ (phL t z = 3 ∨ phR t z = 2 ∨ phL t z = 0 ∧ phR t z = 0)) ∨ (k = prv t.n z ∧ tGiv t k k ∧ (phL t z = 1 ∨ phL t z = 2)) ∨ (k = nxt t.n z ∧ tGiv t k (prv t.n k) ∧ phR t z = 1) := by
  have hL := phL_cases t z
  have hR := phR_cases t z
  unfold tKey at hk
  split at hk
  · exact .inl ⟨hk, by omega⟩
  split at hk
  · refine .inr (.inl ⟨hk, ?_, by omega⟩)
    rw [hk]
    exact hz.left h (by omega) (by omega)
  split at hk
  · refine .inr (.inr ⟨hk, ?_, by omega⟩)
    rw [hk, (ring_facts h.n3 h.n6 hz.lt).2.1]
    exact hz.right h (by omega) (by omega)
  · exact .inl ⟨hk, by omega⟩
theorem phR0 {t : TS} {z : Nat} (h : t.w z = z) : phR t z = 0 := if_pos h
theorem phR2 {t : TS} {z : Nat} (h : t.w z ≠ z) (h2 : t.a z = z) : phR t z = 2 := by unfold phR; rw [if_neg h, if_pos h2]
theorem phR1 {t : TS} {z : Nat} (h : t.w z ≠ z) (h2 : t.a z ≠ z) : phR t z = 1 := by unfold phR; rw [if_neg h, if_neg h2]
theorem phR_same {t t' : TS} {z : Nat} (h : t'.w z = t.w z) (h2 : t'.a z = t.a z) : phR t' z = phR t z := by unfold phR; rw [h, h2]
theorem phL0 {t : TS} {z : Nat} (h : t.w (prv t.n z) = z) : phL t z = 0 := if_pos h
theorem phL3 {t : TS} {z : Nat} (h : t.w (prv t.n z) ≠ z) (h2 : t.a (prv t.n z) = z) : phL t z = 3 := by unfold phL; rw [if_neg h, if_pos h2]
theorem phL2 {t : TS} {z : Nat} (h : t.w (prv t.n z) ≠ z) (h2 : t.a (prv t.n z) ≠ z) (h3 : t.w (prv t.n (prv t.n z)) = prv t.n z ∧ t.d (prv t.n (prv t.n z)) = true) : phL t z = 2 := by unfold phL; rw [if_neg h, if_neg h2, if_pos h3]
theorem phL1 {t : TS} {z : Nat} (h : t.w (prv t.n z) ≠ z) (h2 : t.a (prv t.n z) ≠ z) (h3 : ¬ (t.w (prv t.n (prv t.n z)) = prv t.n z ∧ t.d (prv t.n (prv t.n z)) = true)) : phL t z = 1 := by unfold phL; rw [if_neg h, if_neg h2, if_neg h3]
theorem phL12 {t : TS} {z : Nat} (h : t.w (prv t.n z) ≠ z) (h2 : t.a (prv t.n z) ≠ z) : phL t z = 1 ∨ phL t z = 2 := by unfold phL; rw [if_neg h, if_neg h2]; split <;> simp
theorem phL_same {t t' : TS} {z : Nat} (hn : t'.n = t.n) (h : t'.w (prv t.n z) = t.w (prv t.n z)) (h2 : t'.a (prv t.n z) = t.a (prv t.n z)) (h3 : t'.w (prv t.n (prv t.n z)) = t.w (prv t.n (prv t.n z))) (h4 : t'.d (prv t.n (prv t.n z)) = t.d (prv t.n (prv t.n z))) : phL t' z = phL t z := by unfold phL; rw [hn, h, h2, h3, h4]
/-- the third fork is not the neighbour's to give: then the number is as small as can be -/
theorem phL_less {t t' : TS} {z : Nat} (hn : t'.n = t.n) (h : t'.w (prv t.n z) = t.w (prv t.n z)) (h2 : t'.a (prv t.n z) = t.a (prv t.n z)) (h3 : t'.d (prv t.n (prv t.n z)) = false) : phL t' z ≤ phL t z ∧ (phL t z = 2 → phL t' z < phL t z) := by
  by_cases c1 : t.w (prv t.n z) = z
  · rw [phL0 c1, phL0 (by rw [hn, h, c1])]; simp
  by_cases c2 : t.a (prv t.n z) = z
  · rw [phL3 c1 c2, phL3 (by rw [hn, h]; exact c1) (by rw [hn, h2]; exact c2)]; simp
  · rw [phL1 (t := t') (by rw [hn, h]; exact c1) (by rw [hn, h2]; exact c2) (by rw [hn, h3]; simp)]
    rcases phL12 c1 c2 with e | e <;> rw [e] <;> simp
theorem Top.line {t : TS} {z k : Nat} (hz : Top t z) (h : TI t) (hk : k < t.n) (h2 : t.g k ≠ 2) :
    (k = z ∧ (tLine t k (prv t.n k)).1.g z = 2) ∨ (phL (tLine t k (prv t.n k)).1 z ≤ phL t z ∧ phR (tLine t k (prv t.n k)).1 z ≤ phR t z ∧ (k = tKey t z → phL (tLine t k (prv t.n k)).1 z + phR (tLine t k (prv t.n k)).1 z < phL t z + phR t z)) := by
  obtain ⟨r1, r2, r3, r4, r5⟩ := ring_facts h.n3 h.n6 hz.lt
  obtain ⟨k1, k2, k3, k4, k5⟩ := ring_facts h.n3 h.n6 hk
  have hpl : prv t.n z < t.n := prv_lt h.n3
  obtain ⟨l1, l2, l3, l4, l5⟩ := ring_facts h.n3 h.n6 hpl
  obtain ⟨ng1, ng2⟩ := hz.nogive h
  have key := fun (e : k = tKey t z) => hz.key h e
  unfold tLine
  rw [if_neg h2]
  split
  · -- the left fork is given
    rename_i hg
    have hkz : k ≠ z := fun e => ng1 (e ▸ hg)
    obtain ⟨g1, g2, g3⟩ := hg
    generalize ht : t.setF (prv t.n k) (prv t.n k) (t.a (prv t.n k)) false = t'
    have hn : t'.n = t.n := by rw [← ht]; rfl
    have S := setF_cases t (prv t.n k) (prv t.n k) (t.a (prv t.n k)) false
    rw [ht] at S
    have a1 : prv t.n z ≠ prv t.n k := fun e => hkz (by rw [← k1, ← r1, e])
    have a3 : prv t.n (prv t.n z) = prv t.n k → k = prv t.n z := fun e => by rw [← k1, ← l1, e]
    have R' : phR t' z ≤ phR t z ∧ (k = nxt t.n z → phR t' z < phR t z) := by
      rcases S z with ⟨e, e1, e2, e3⟩ | ⟨e, e1, e2, e3⟩
      · rw [← e] at g1 g3 e1
        have p1 := phR1 (t := t) (z := z) (by rw [g1]; exact hkz) (by rw [g3]; exact hkz)
        have p0 := phR0 e1
        rw [p1, p0]; simp
      · rw [phR_same e1 e2]
        exact ⟨Nat.le_refl _, fun e' => absurd (by rw [e', r2]) e⟩
    have L' : phL t' z ≤ phL t z ∧ (k = prv t.n z → phL t z = 1 ∨ phL t z = 2 → phL t' z < phL t z) := by
      rcases S (prv t.n z) with ⟨e, _⟩ | ⟨_, e1, e2, e3⟩
      · exact absurd e a1
      rcases S (prv t.n (prv t.n z)) with ⟨e, f1, f2, f3⟩ | ⟨e, f1, f2, f3⟩
      · have hx : t.w (prv t.n (prv t.n z)) = prv t.n z ∧ t.d (prv t.n (prv t.n z)) = true := by rw [e, g1, g2]; exact ⟨a3 e, rfl⟩
        obtain ⟨q1, q2⟩ := phL_less hn e1 e2 f3
        refine ⟨q1, fun _ hc => ?_⟩
        rcases hc with hc | hc
        · by_cases c1 : t.w (prv t.n z) = z
          · rw [phL0 c1] at hc; cases hc
          by_cases c2 : t.a (prv t.n z) = z
          · rw [phL3 c1 c2] at hc; cases hc
          · rw [phL2 c1 c2 hx] at hc; cases hc
        · exact q2 hc
      · rw [phL_same hn e1 e2 f1 f3]
        exact ⟨Nat.le_refl _, fun e' => absurd (by rw [e']) e⟩
    refine .inr ⟨L'.1, R'.1, fun e => ?_⟩
    rcases key e with ⟨e1, _⟩ | ⟨e1, _, e2⟩ | ⟨e1, _, e2⟩
    · exact absurd e1 hkz
    · exact Nat.add_lt_add_of_lt_of_le (L'.2 e1 e2) R'.1
    · exact Nat.add_lt_add_of_le_of_lt L'.1 (R'.2 e1)
  rename_i hg1
  split
  · -- the right one is given
    rename_i hg
    have hkz : k ≠ z := fun e => ng2 (e ▸ hg)
    obtain ⟨g1, g2, g3⟩ := hg
    generalize ht : t.setF k (nxt t.n k) (t.a k) false = t'
    have hn : t'.n = t.n := by rw [← ht]; rfl
    have S := setF_cases t k (nxt t.n k) (t.a k) false
    rw [ht] at S
    have R' : phR t' z = phR t z := by
      rcases S z with ⟨e, e1, e2, e3⟩ | ⟨e, e1, e2, e3⟩
      · exact absurd e.symm hkz
      · exact phR_same e1 e2
    have L' : phL t' z ≤ phL t z ∧ (k = prv t.n z → phL t' z < phL t z) := by
      rcases S (prv t.n z) with ⟨e, e1, e2, e3⟩ | ⟨e, e1, e2, e3⟩
      · have p0 := phL0 (t := t') (z := z) (by rw [hn, e1, ← e, r1])
        have p1 := phL12 (t := t) (z := z) (by rw [e, g1]; exact hkz) (by rw [e, g3]; exact hkz)
        rcases p1 with p1 | p1 <;> rw [p0, p1] <;> simp
      rcases S (prv t.n (prv t.n z)) with ⟨e', f1, f2, f3⟩ | ⟨e', f1, f2, f3⟩
      · exact ⟨(phL_less hn e1 e2 f3).1, fun hc => absurd hc.symm e⟩
      · rw [phL_same hn e1 e2 f1 f3]
        exact ⟨Nat.le_refl _, fun hc => absurd hc.symm e⟩
    refine .inr ⟨L'.1, Nat.le_of_eq R', fun e => ?_⟩
    rcases key e with ⟨e1, _⟩ | ⟨e1, _, e2⟩ | ⟨e1, e2, _⟩
    · exact absurd e1 hkz
    · exact Nat.add_lt_add_of_lt_of_le (L'.2 e1) (Nat.le_of_eq R')
    · exact absurd e2 hg1
  rename_i hg2
  -- no fork is given: the key is z
  have key' : k = tKey t z → k = z ∧ (phL t z = 3 ∨ phR t z = 2 ∨ phL t z = 0 ∧ phR t z = 0) := fun e => by
    rcases key e with e1 | ⟨_, e1, _⟩ | ⟨_, e1, _⟩
    · exact e1
    · exact absurd e1 hg2
    · exact absurd e1 hg1
  split
  · rename_i h0
    refine .inr ⟨Nat.le_refl _, Nat.le_refl _, fun e => ?_⟩
    obtain ⟨e1, _⟩ := key' e
    exact absurd (e1 ▸ h0) hz.g
  split
  · -- eats
    rename_i hb
    by_cases hkz : k = z
    · subst hkz
      refine .inl ⟨rfl, ?_⟩
      show updN t.g k 2 k = 2
      exact updN_same _ _ _
    refine .inr ?_
    generalize ht : tEat t k (prv t.n k) = t'
    have hn : t'.n = t.n := by rw [← ht]; rfl
    have ew : t'.w = t.w := by rw [← ht]; simp [tEat, TS.setF, updN_self]
    have ea : t'.a = t.a := by rw [← ht]; simp [tEat, TS.setF, updN_self]
    have ed : ∀ j, j ≠ k → j ≠ prv t.n k → t'.d j = t.d j := fun j h1 h2 => by
      rw [← ht]
      simp only [tEat, TS.setF]
      rw [updN_ne h1, updN_ne h2]
    have L' : phL t' z = phL t z := by
      by_cases c1 : prv t.n (prv t.n z) = k
      · have hx : ¬ t.w (prv t.n (prv t.n z)) = prv t.n z := by rw [c1, hb.2, ← c1]; exact l4
        simp [phL, hn, ew, ea, hx]
      by_cases c2 : prv t.n (prv t.n z) = prv t.n k
      · have ek : k = prv t.n z := by rw [← k1, ← l1, c2]
        by_cases c3 : t.w (prv t.n z) = z
        · unfold phL; rw [hn, ew, ea, if_pos c3, if_pos c3]
        by_cases c4 : t.a (prv t.n z) = z
        · unfold phL; rw [hn, ew, ea, if_neg c3, if_neg c3, if_pos c4, if_pos c4]
        · exact absurd (hz.left h c3 c4) (ek ▸ hg2)
      · exact phL_same hn (by rw [ew]) (by rw [ea]) (by rw [ew]) (ed _ c1 c2)
    have R' : phR t' z = phR t z := phR_same (by rw [ew]) (by rw [ea])
    exact ⟨Nat.le_of_eq L', Nat.le_of_eq R', fun e => absurd (key' e).1 hkz⟩
  rename_i hb
  split
  · -- asks for the left one
    rename_i hg
    obtain ⟨g1, g2⟩ := hg
    generalize ht : t.setF (prv t.n k) (t.w (prv t.n k)) (prv t.n k) (t.d (prv t.n k)) = t'
    have hn : t'.n = t.n := by rw [← ht]; rfl
    have S := setF_cases t (prv t.n k) (t.w (prv t.n k)) (prv t.n k) (t.d (prv t.n k))
    rw [ht] at S
    have ww : ∀ j, t'.w j = t.w j ∧ t'.d j = t.d j := fun j => by
      rcases S j with ⟨e, e1, e2, e3⟩ | ⟨e, e1, e2, e3⟩
      · rw [e1, e3, e]; exact ⟨rfl, rfl⟩
      · exact ⟨e1, e3⟩
    have R' : phR t' z ≤ phR t z := by
      rcases S z with ⟨e, e1, e2, e3⟩ | ⟨e, e1, e2, e3⟩
      · have ek : k = nxt t.n z := by rw [e, k1]
        have hwz : t.w z = z := by
          rcases h.w _ hz.lt with x | x
          · exact x
          · exact absurd (by rw [← e, x, ← ek]) g1
        rw [phR0 hwz, phR0 (by rw [(ww z).1]; exact hwz)]
        exact Nat.le_refl _
      · exact Nat.le_of_eq (phR_same e1 e2)
    have L' : phL t' z ≤ phL t z ∧ (k = z → phL t' z < phL t z) := by
      rcases S (prv t.n z) with ⟨e, e1, e2, e3⟩ | ⟨e, e1, e2, e3⟩
      · have ek : k = z := by rw [← k1, ← r1, e]
        subst ek
        have p3 := phL3 g1 g2
        have p1 := phL12 (t := t') (z := k) (by rw [hn, (ww _).1]; exact g1) (by rw [hn, e2]; exact r4)
        rcases p1 with p1 | p1 <;> rw [p3, p1] <;> simp
      · rw [phL_same hn e1 e2 (ww _).1 (ww _).2]
        exact ⟨Nat.le_refl _, fun hc => absurd (by rw [hc]) e⟩
    exact .inr ⟨L'.1, R', fun e => Nat.add_lt_add_of_lt_of_le (L'.2 (key' e).1) R'⟩
  rename_i ha1
  split
  · -- asks for the right one
    rename_i hg
    obtain ⟨g1, g2⟩ := hg
    generalize ht : t.setF k (t.w k) (nxt t.n k) (t.d k) = t'
    have hn : t'.n = t.n := by rw [← ht]; rfl
    have S := setF_cases t k (t.w k) (nxt t.n k) (t.d k)
    rw [ht] at S
    have ww : ∀ j, t'.w j = t.w j ∧ t'.d j = t.d j := fun j => by
      rcases S j with ⟨e, e1, e2, e3⟩ | ⟨e, e1, e2, e3⟩
      · rw [e1, e3, e]; exact ⟨rfl, rfl⟩
      · exact ⟨e1, e3⟩
    have R' : phR t' z ≤ phR t z ∧ (k = z → phR t' z < phR t z) := by
      rcases S z with ⟨e, e1, e2, e3⟩ | ⟨e, e1, e2, e3⟩
      · subst e
        rw [phR2 g1 g2, phR1 (t := t') (by rw [(ww _).1]; exact g1) (by rw [e2]; exact r3)]
        simp
      · rw [phR_same e1 e2]
        exact ⟨Nat.le_refl _, fun hc => absurd hc.symm e⟩
    have L' : phL t' z ≤ phL t z := by
      rcases S (prv t.n z) with ⟨e, e1, e2, e3⟩ | ⟨e, e1, e2, e3⟩
      · have hwl : t.w (prv t.n z) = z := by
          rcases h.w _ hpl with x | x
          · exact absurd (by rw [← e]; exact x) g1
          · rw [r1] at x; exact x
        rw [phL0 hwl, phL0 (by rw [hn, (ww _).1]; exact hwl)]
        exact Nat.le_refl _
      · exact Nat.le_of_eq (phL_same hn e1 e2 (ww _).1 (ww _).2)
    exact .inr ⟨L', R'.1, fun e => Nat.add_lt_add_of_le_of_lt L' (R'.2 (key' e).1)⟩
  · rename_i ha2
    refine .inr ⟨Nat.le_refl _, Nat.le_refl _, fun e => ?_⟩
    obtain ⟨e1, e2⟩ := key' e
    subst e1
    have hL := phL_cases t k
    have hR := phR_cases t k
    rcases e2 with e2 | e2 | ⟨e2, e3⟩
    · rcases hL with ⟨_, e⟩ | ⟨a, b, _⟩ | ⟨_, _, _, e⟩ | ⟨_, _, _, e⟩
      · rw [e] at e2; cases e2
      · exact absurd ⟨a, b⟩ ha1
      · rw [e] at e2; cases e2
      · rw [e] at e2; cases e2
    · rcases hR with ⟨_, e⟩ | ⟨a, b, _⟩ | ⟨_, _, e⟩
      · rw [e] at e2; cases e2
      · exact absurd ⟨a, b⟩ ha2
      · rw [e] at e2; cases e2
    · rcases hL with ⟨x, _⟩ | ⟨a, b, e⟩ | ⟨_, _, _, e⟩ | ⟨_, _, _, e⟩
      · rcases hR with ⟨y, _⟩ | ⟨a, b, e⟩ | ⟨_, _, e⟩
        · exact absurd ⟨x, y⟩ hb
        · rw [e] at e3; cases e3
        · rw [e] at e3; cases e3
      all_goals (rw [e] at e2; cases e2)
end Go.Proofs.Ytiaopgnnibidlaa
