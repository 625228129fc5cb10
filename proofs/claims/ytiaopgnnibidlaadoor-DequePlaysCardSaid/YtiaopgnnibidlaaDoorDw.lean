import Derived.Test.YtiaopgnnibidlaaDoorDv
namespace Go.Proofs.YtiaopgnnibidlaaDoor
open Go.Eng
set_option maxRecDepth 20000
theorem updN_cases {α : Type} {f : Nat → α} {q : Nat} {v : α} (p : Nat) : (p = q ∧ updN f q v p = v) ∨ (p ≠ q ∧ updN f q v p = f p) := by
  by_cases h : p = q
  · subst h; exact .inl ⟨rfl, updN_same _ _ _⟩
  · exact .inr ⟨h, updN_ne h⟩
def Bnd (B : Int) (f : Nat → Int) : Prop := ∀ k, -B ≤ f k ∧ f k ≤ B
theorem Bnd.mono {B C : Int} {f : Nat → Int} (h : Bnd B f) (hC : B ≤ C) : Bnd C f := fun k => by have := h k; omega
theorem Bnd.upd {B v : Int} {f : Nat → Int} (h : Bnd B f) (q : Nat) (hv : -B ≤ v ∧ v ≤ B) : Bnd B (updN f q v) := fun k => by
  rcases updN_cases (f := f) (q := q) (v := v) k with ⟨_, e⟩ | ⟨_, e⟩ <;> rw [e]
  · exact hv
  · exact h k
theorem Bnd.done {B : Int} {f : Nat → Int} (h : Bnd B f) (q : Nat) : Bnd B (dDone f q) := fun k => by
  have := h k
  unfold dDone; split <;> omega
theorem ite_two {α : Type} {c : Prop} [Decidable c] {x y r : α} (h : (if c then x else y) = r) : (c ∧ x = r) ∨ (¬ c ∧ y = r) := by
  split at h
  · exact .inl ⟨by assumption, h⟩
  · exact .inr ⟨by assumption, h⟩
/-- a line lets no number grow by more than one -/
theorem dStepE_bnd {B : Int} {f h : Nat → Int} (hf : Bnd B f) (hh : Bnd B h) (hB : 20 ≤ B) (q : Nat) : Bnd (B + 1) (dStepE f h q).1 ∧ Bnd (B + 1) (dStepE f h q).2.1 := by
  have hf' := hf.mono (C := B + 1) (by omega)
  have hh' := hh.mono (C := B + 1) (by omega)
  have a0 := hh (q * 4 + 0); have a2 := hh (q * 4 + 2)
  have b8 := hf 8; have b9 := hf 9
  have hfk := fun k => hf' k
  have hhk := fun k => hh' k
  have S : ∀ r, dStep f h q = r → Bnd (B + 1) r.1 ∧ Bnd (B + 1) r.2.1 := by
    intro r hr
    unfold dStep at hr
    dsimp only at hr
    repeat' (rcases ite_two hr with ⟨_, hr⟩ | ⟨_, hr⟩)
    all_goals
      subst hr
      refine ⟨?_, ?_⟩
      all_goals
        try dsimp only
        repeat' first
          | exact hf'
          | exact hh'
          | exact hfk _
          | exact hhk _
          | refine Bnd.done ?_ q
          | refine Bnd.upd ?_ _ ?_
          | (refine ⟨?_, ?_⟩ <;> omega)
  obtain ⟨s1, s2⟩ := S _ rfl
  unfold dStepE
  by_cases hz : h (q * 4 + 0) = 0
  · rw [if_pos hz]; exact ⟨hf', hh'⟩
  · rw [if_neg hz]; exact ⟨s1, s2⟩
end Go.Proofs.YtiaopgnnibidlaaDoor
