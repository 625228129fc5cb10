import Derived.Test.YtkokdeenniejjaaDoorRa
import Derived.Test.YtkokdeenniejjaaDoorRp
namespace Go.Proofs.YtkokdeenniejjaaDoor
open Go.Eng
set_option maxRecDepth 20000
/-! ### the lock, and the document's -/
def RwRel (d : Nat → Int) (m w : Int) : Prop := ∀ k : Nat, k < 8 → d k = (if w = (k : Int) + 1 then 2 else if rwIn m (k : Int) = true then 1 else 0)
structure RwRg (m w : Int) : Prop where
  m0 : 0 ≤ m
  m1 : m < 256
  w0 : 0 ≤ w
  w1 : w ≤ 8
theorem RwPre.rg4 {m w : Int} {q : List (Int × Bool)} {rs : List Int} (h : RwPre m w q rs) : RwRg m w := ⟨h.m0, h.m1, h.w0, h.w1⟩
theorem rp_may {d : Nat → Int} {m w x : Int} {wr : Bool} (g : RwRg m w) (r : RwRel d m w) : dMay d wr = rwFits m w (x, wr) := by
  have e : (dMay d wr = true) ↔ (rwFits m w (x, wr) = true) := by
    rw [dMay_iff]
    simp only [rwFits, Bool.and_eq_true, beq_iff_eq, Bool.or_eq_true, Bool.not_eq_true']
    have g0 := g.w0
    have g1 := g.w1
    constructor
    · intro h
      have hw : w = 0 := by
        refine Classical.byContradiction fun hw => ?_
        have := (h (w.toNat - 1) (by omega)).1
        rw [r _ (by omega), if_pos (by omega)] at this
        exact this rfl
      refine ⟨hw, ?_⟩
      cases hwr : wr with
      | false => exact .inl rfl
      | true =>
        right
        have h0 := rw_bits_zero m.toNat (by have := g.m0; have := g.m1; omega) (fun j hj => by
          rw [show ((m.toNat : Nat) : Int) = m by have := g.m0; omega]
          cases hb : rwIn m (j : Int) with
          | false => rfl
          | true =>
            have := (h j hj).2 (by rw [r j hj, if_neg (by omega), if_pos hb])
            rw [hwr] at this; cases this)
        have := g.m0; omega
    · rintro ⟨rfl, h⟩ k hk
      rw [r k hk, if_neg (by omega)]
      constructor
      · split <;> decide
      · intro h1
        rcases h with h | h
        · exact h
        · rw [h, rw_bits_none k hk] at h1; simp at h1
  cases h1 : dMay d wr <;> cases h2 : rwFits m w (x, wr) <;> simp_all
theorem rp_has {d : Nat → Int} {m w : Int} {x : Int × Bool} (g : RwRg m w) (r : RwRel d m w) (hf : rwFits m w x = true) (hx : 0 ≤ x.1 ∧ x.1 ≤ 7) :
    RwRg (rwHas m w x).1 (rwHas m w x).2 ∧ RwRel (updN d x.1.toNat (1 + bI x.2)) (rwHas m w x).1 (rwHas m w x).2 := by
  obtain ⟨i, b⟩ := x
  simp only [rwFits, Bool.and_eq_true, beq_iff_eq, Bool.or_eq_true, Bool.not_eq_true'] at hf
  obtain ⟨rfl, hf⟩ := hf
  dsimp only at hx
  have m0 := g.m0
  have m1 := g.m1
  cases b with
  | true =>
    have hm : m = 0 := by
      rcases hf with hf | hf
      · cases hf
      · exact hf
    subst hm
    refine ⟨⟨by simp [rwHas], by simp [rwHas], by simp only [rwHas, if_true]; omega, by simp only [rwHas, if_true]; omega⟩, fun k hk => ?_⟩
    simp only [rwHas, if_true]
    by_cases e : k = i.toNat
    · rw [e, updN_same, if_pos (by omega)]; rfl
    · have e0 := r k hk
      rw [if_neg (show ¬ (0 : Int) = (k : Int) + 1 by omega), rw_bits_none k hk] at e0
      rw [updN_ne e, e0, if_neg (show ¬ i + 1 = (k : Int) + 1 by omega), rw_bits_none k hk]
  | false =>
    obtain ⟨b1, b2, b3, _⟩ := rw_bits_or m.toNat (by omega) i.toNat (by omega)
    rw [show ((m.toNat : Nat) : Int) = m by omega] at b1 b2 b3
    have e1 : rwHas m 0 (i, false) = (bitsV .or m (1 * 2 ^ i.toNat), 0) := rfl
    rw [e1]
    refine ⟨⟨b1, b2, by simp, by simp⟩, fun k hk => ?_⟩
    dsimp only
    rw [b3 k hk, if_neg (by omega)]
    by_cases e : k = i.toNat
    · rw [e, updN_same]; simp [bI]
    · rw [updN_ne e, r k hk, if_neg (by omega)]
      have : (i.toNat == k) = false := beq_false_of_ne (Ne.symm e)
      rw [this, Bool.or_false]
theorem rp_serve : ∀ {q : List (Int × Bool)} {d : Nat → Int} {m w : Int}, RwRg m w → RwRel d m w → (∀ x ∈ q, 0 ≤ x.1 ∧ x.1 ≤ 7) →
    (dServe d q).2.1 = (rwServe m w q).2.2.1 ∧ (dServe d q).2.2 = (rwServe m w q).2.2.2 ∧ RwRel (dServe d q).1 (rwServe m w q).1 (rwServe m w q).2.1
  | [], _, _, _, _, r, _ => ⟨rfl, rfl, r⟩
  | x :: q, d, m, w, g, r, h => by
    have e := rp_may (x := x.1) (wr := x.2) g r
    by_cases hf : rwFits m w x = true
    · obtain ⟨g2, r2⟩ := rp_has g r hf (h x (by simp))
      obtain ⟨a1, a2, a3⟩ := rp_serve (q := q) g2 r2 (fun y hy => h y (by simp [hy]))
      have hd : dMay d x.2 = true := by rw [e]; exact hf
      simp only [dServe, rwServe, if_pos hd, if_pos hf]
      exact ⟨a1, by rw [a2], a3⟩
    · have hd : ¬ dMay d x.2 = true := by rw [e]; exact hf
      rw [show dServe d (x :: q) = (d, x :: q, []) from if_neg hd, show rwServe m w (x :: q) = (m, w, x :: q, []) from if_neg hf]
      exact ⟨rfl, rfl, r⟩
theorem rp_busy {d : Nat → Int} {m w who : Int} (r : RwRel d m w) (hx : 0 ≤ who ∧ who ≤ 7) : d who.toNat ≠ 0 ↔ (rwIn m who = true ∨ w = who + 1) := by
  rw [r who.toNat (by omega), show ((who.toNat : Nat) : Int) = who by omega]
  by_cases h1 : w = who + 1
  · rw [if_pos h1]; simp [h1]
  · rw [if_neg h1]
    by_cases h2 : rwIn m who = true
    · rw [if_pos h2]; simp [h2]
    · rw [if_neg h2]; simp [h1, h2]
theorem rp_ask {d : Nat → Int} {m w : Int} {q : List (Int × Bool)} (g : RwRg m w) (r : RwRel d m w) (who : Int) (wr : Bool) :
    (dAsk d q who wr).2.1 = (rwAsk m w q who wr).2.2.1 ∧ (dAsk d q who wr).2.2.1 = (rwAsk m w q who wr).2.2.2.1 ∧ (dAsk d q who wr).2.2.2 = (rwAsk m w q who wr).2.2.2.2 ∧ RwRel (dAsk d q who wr).1 (rwAsk m w q who wr).1 (rwAsk m w q who wr).2.1 := by
  unfold dAsk rwAsk
  by_cases hx : ¬ (0 ≤ who ∧ who ≤ 7)
  · rw [if_pos hx, if_pos hx]; exact ⟨rfl, rfl, rfl, r⟩
  have hx' := Classical.not_not.1 hx
  rw [if_neg hx, if_neg hx]
  have eb : (d who.toNat ≠ 0 ∨ who ∈ q.map (·.1)) ↔ (who ∈ q.map (·.1) ∨ rwIn m who = true ∨ w = who + 1) := by rw [rp_busy r hx']; exact Or.comm
  by_cases hb : who ∈ q.map (·.1) ∨ rwIn m who = true ∨ w = who + 1
  · rw [if_pos (eb.2 hb), if_pos hb]; exact ⟨rfl, rfl, rfl, r⟩
  rw [if_neg (fun h => hb (eb.1 h)), if_neg hb]
  have em := rp_may (x := who) (wr := wr) g r
  by_cases hf : q = [] ∧ rwFits m w (who, wr) = true
  · rw [if_pos ⟨hf.1, by rw [em]; exact hf.2⟩, if_pos hf]
    exact ⟨rfl, rfl, rfl, (rp_has (x := (who, wr)) g r hf.2 hx').2⟩
  · rw [if_neg (fun h => hf ⟨h.1, by rw [← em]; exact h.2⟩), if_neg hf]; exact ⟨rfl, rfl, rfl, r⟩
theorem rp_done {d : Nat → Int} {m w : Int} {q : List (Int × Bool)} {rs : List Int} (I : RwInv m w q rs) (r : RwRel d m w) (who : Int) :
    (dDone4 d q who).1.2.1 = (rwDone m w q who).1.2.2.1 ∧ (dDone4 d q who).1.2.2 = (rwDone m w q who).1.2.2.2 ∧ (dDone4 d q who).2 = (rwDone m w q who).2 ∧ RwRel (dDone4 d q who).1.1 (rwDone m w q who).1.1 (rwDone m w q who).1.2.1 := by
  have g := I.toRwPre.rg4
  have hq := I.toRwPre.qrg
  unfold dDone4 rwDone
  by_cases hx : ¬ (0 ≤ who ∧ who ≤ 7)
  · rw [if_pos hx, if_pos hx]; exact ⟨rfl, rfl, rfl, r⟩
  have hx' := Classical.not_not.1 hx
  rw [if_neg hx, if_neg hx]
  have eb := rp_busy r hx'
  by_cases hw : w = who + 1
  · rw [if_neg (eb.2 (.inr hw)), if_pos hw]
    have hm : m = 0 := I.toRwPre.zero.2 (I.ex (by omega))
    have r2 : RwRel (updN d who.toNat 0) m 0 := fun k hk => by
      rw [if_neg (by omega)]
      by_cases e : k = who.toNat
      · rw [e, updN_same, hm, rw_bits_none _ (by omega)]; rfl
      · rw [updN_ne e, r k hk, if_neg (by omega)]
    obtain ⟨a1, a2, a3⟩ := rp_serve ⟨g.m0, g.m1, by omega, by omega⟩ r2 hq
    exact ⟨a1, a2, rfl, a3⟩
  rw [if_neg hw]
  by_cases hb : rwIn m who = true
  · rw [if_neg (eb.2 (.inl hb)), if_pos hb]
    have m0 := g.m0
    have m1 := g.m1
    obtain ⟨b1, b2, b3⟩ := rw_bits_no m.toNat (by omega) who.toNat (by omega)
    rw [show ((m.toNat : Nat) : Int) = m by omega] at b1 b2 b3
    have r2 : RwRel (updN d who.toNat 0) (bitsV .andNot m (1 * 2 ^ who.toNat)) w := fun k hk => by
      rw [b3 k hk]
      by_cases e : k = who.toNat
      · rw [e, updN_same, if_neg (by omega)]; simp
      · rw [updN_ne e, r k hk]
        have : (who.toNat == k) = false := beq_false_of_ne (Ne.symm e)
        rw [this, Bool.not_false, Bool.and_true]
    obtain ⟨a1, a2, a3⟩ := rp_serve ⟨b1, b2, g.w0, g.w1⟩ r2 hq
    exact ⟨a1, a2, rfl, a3⟩
  · have hn : d who.toNat = 0 := Classical.byContradiction fun h => by
      rcases eb.1 h with h | h
      · exact hb h
      · exact hw h
    rw [if_pos hn, if_neg hb]; exact ⟨rfl, rfl, rfl, r⟩
/-- the sum of bits up to one -/
def sbits (m : Int) : Nat → Int
  | 0 => 0
  | k + 1 => sbits m k + (if rwIn m (k : Int) = true then 2 ^ k else 0)
theorem sbits_all : ∀ m : Nat, m < 256 → sbits (m : Int) 8 = (m : Int) := by decide +kernel
theorem sbits_rg : ∀ m : Nat, m < 256 → ∀ k : Nat, k ≤ 8 → 0 ≤ sbits (m : Int) k ∧ sbits (m : Int) k ≤ 255 := by decide +kernel
theorem pow_rg : ∀ k : Nat, k ≤ 8 → (0 : Int) ≤ 2 ^ k ∧ (2 : Int) ^ k ≤ 256 := by decide
end Go.Proofs.YtkokdeenniejjaaDoor
