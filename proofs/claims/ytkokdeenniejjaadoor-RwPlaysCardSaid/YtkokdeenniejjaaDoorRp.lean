import Derived.Test.YtkokdeenniejjaaDoorRx
namespace Go.Proofs.YtkokdeenniejjaaDoor
open Go.Eng
set_option maxRecDepth 20000
/-! ### the lock, plainly -/
theorem rw_bits_or : ∀ m : Nat, m < 256 → ∀ i : Nat, i < 8 → 0 ≤ bitsV .or (m : Int) (1 * 2 ^ i) ∧ bitsV .or (m : Int) (1 * 2 ^ i) < 256 ∧ (∀ j : Nat, j < 8 → rwIn (bitsV .or (m : Int) (1 * 2 ^ i)) j = (rwIn m j || i == j)) ∧ (rwIn m i = false → bitsV .or (m : Int) (1 * 2 ^ i) = m + 2 ^ i) := by decide +kernel
theorem rw_bits_no : ∀ m : Nat, m < 256 → ∀ i : Nat, i < 8 → 0 ≤ bitsV .andNot (m : Int) (1 * 2 ^ i) ∧ bitsV .andNot (m : Int) (1 * 2 ^ i) < 256 ∧ ∀ j : Nat, j < 8 → rwIn (bitsV .andNot (m : Int) (1 * 2 ^ i)) j = (rwIn m j && !(i == j)) := by decide +kernel
theorem rw_bits_zero : ∀ m : Nat, m < 256 → (∀ j : Nat, j < 8 → rwIn m j = false) → m = 0 := by decide +kernel
theorem rw_bits_none : ∀ j : Nat, j < 8 → rwIn 0 j = false := by decide +kernel

theorem nodup_small : ∀ (n : Nat) (l : List Int), l.Nodup → (∀ x ∈ l, 0 ≤ x ∧ x < n) → l.length ≤ n
  | 0, [], _, _ => Nat.le_refl _
  | 0, x :: l, _, h => by have := h x (by simp); omega
  | n + 1, l, hd, h => by
    by_cases hm : (n : Int) ∈ l
    · have h1 := nodup_small n (l.erase n) (hd.erase _) (fun x hx => by
        have := h x (List.mem_of_mem_erase hx)
        have hne : x ≠ n := fun e => by subst e; exact (List.Nodup.not_mem_erase hd) hx
        omega)
      rw [List.length_erase_of_mem hm] at h1
      omega
    · have h1 := nodup_small n l hd (fun x hx => by
        have := h x hx
        have hne : x ≠ n := fun e => hm (e ▸ hx)
        omega)
      omega

def rwW (w : Int) : List Int := if w = 0 then [] else [w - 1]

structure RwPre (m w : Int) (q : List (Int × Bool)) (rs : List Int) : Prop where
  m0 : 0 ≤ m
  m1 : m < 256
  bits : ∀ i : Int, 0 ≤ i → i ≤ 7 → (rwIn m i = true ↔ i ∈ rs)
  w0 : 0 ≤ w
  w1 : w ≤ 8
  nd : (rs ++ (rwW w ++ q.map (·.1))).Nodup
  rg : ∀ x ∈ rs ++ (rwW w ++ q.map (·.1)), 0 ≤ x ∧ x ≤ 7
  ex : w ≠ 0 → rs = []
structure RwInv (m w : Int) (q : List (Int × Bool)) (rs : List Int) : Prop extends RwPre m w q rs where
  hd : q = [] ∨ ∃ x q', q = x :: q' ∧ rwFits m w x = false
def rwTot (w : Int) (q : List (Int × Bool)) (rs : List Int) : Nat := rs.length + ((rwW w).length + q.length)

theorem RwPre.tot {m w : Int} {q : List (Int × Bool)} {rs : List Int} (h : RwPre m w q rs) : rwTot w q rs ≤ 8 := by
  have := nodup_small 8 _ h.nd (fun x hx => by have := h.rg x hx; omega)
  simpa [rwTot] using this
theorem RwPre.qlen {m w : Int} {q : List (Int × Bool)} {rs : List Int} (h : RwPre m w q rs) : q.length ≤ 8 := by have := h.tot; unfold rwTot at this; omega
theorem RwPre.qrg {m w : Int} {q : List (Int × Bool)} {rs : List Int} (h : RwPre m w q rs) : ∀ x ∈ q, 0 ≤ x.1 ∧ x.1 ≤ 7 := fun x hx => h.rg x.1 (by simp only [List.mem_append, List.mem_map]; exact .inr (.inr ⟨x, hx, rfl⟩))
theorem RwPre.zero {m w : Int} {q : List (Int × Bool)} {rs : List Int} (h : RwPre m w q rs) : m = 0 ↔ rs = [] := by
  constructor
  · rintro rfl
    cases hr : rs with
    | nil => rfl
    | cons x l =>
      have hx := h.rg x (by simp [hr])
      have := (h.bits x hx.1 hx.2).2 (by simp [hr])
      have h2 := rw_bits_none x.toNat (by omega)
      rw [show ((x.toNat : Nat) : Int) = x by omega] at h2
      rw [h2] at this; cases this
  · rintro rfl
    have := rw_bits_zero m.toNat (by have := h.m0; have := h.m1; omega) (fun j hj => by
      have hb := h.bits j (by omega) (by omega)
      rw [show ((m.toNat : Nat) : Int) = m by have := h.m0; omega]
      cases hc : rwIn m j with
      | false => rfl
      | true => have := hb.1 hc; simp at this)
    have := h.m0
    omega

/-- one who waits has it -/
theorem RwPre.has {m w : Int} {x : Int × Bool} {q : List (Int × Bool)} {rs : List Int} (h : RwPre m w (x :: q) rs) (hf : rwFits m w x = true) :
    ∃ rs', RwPre (rwHas m w x).1 (rwHas m w x).2 q rs' ∧ rwTot (rwHas m w x).2 q rs' = rwTot w (x :: q) rs ∧ ∀ y ∈ rs ++ rwW w, y ∈ rs' ++ rwW (rwHas m w x).2 := by
  have hx := h.qrg x (by simp)
  have hm0 := h.m0
  have hm1 := h.m1
  simp only [rwFits, Bool.and_eq_true, beq_iff_eq, Bool.or_eq_true, Bool.not_eq_true'] at hf
  obtain ⟨hw, hf⟩ := hf
  subst hw
  have hnd := h.nd
  have hrg := h.rg
  simp only [rwW, if_true, List.nil_append, List.map_cons] at hnd hrg
  cases hb : x.2 with
  | true =>
    have hm : m = 0 := hf.resolve_left (by rw [hb]; simp)
    have hr := h.zero.1 hm
    subst hr
    refine ⟨[], ⟨by simp [rwHas, hb, hm], by simp [rwHas, hb, hm], ?_, by simp [rwHas, hb]; omega, by simp [rwHas, hb]; omega, ?_, ?_, fun _ => rfl⟩, ?_, by simp [rwW]⟩
    · simpa [rwHas, hb] using h.bits
    · have : rwW (rwHas m 0 x).2 = [x.1] := by unfold rwW; rw [if_neg (by simp [rwHas, hb]; omega)]; simp [rwHas, hb]
      rw [this]
      simpa using hnd
    · have : rwW (rwHas m 0 x).2 = [x.1] := by unfold rwW; rw [if_neg (by simp [rwHas, hb]; omega)]; simp [rwHas, hb]
      rw [this]
      simpa using hrg
    · have : rwW (rwHas m 0 x).2 = [x.1] := by unfold rwW; rw [if_neg (by simp [rwHas, hb]; omega)]; simp [rwHas, hb]
      unfold rwTot
      rw [this]
      simp [rwW]; omega
  | false =>
    obtain ⟨b0, b1, b2, _⟩ := rw_bits_or m.toNat (by omega) x.1.toNat (by omega)
    rw [show ((m.toNat : Nat) : Int) = m by omega] at b0 b1 b2
    have e : rwHas m 0 x = (bitsV .or m (1 * 2 ^ x.1.toNat), 0) := by simp [rwHas, hb]
    rw [e]
    refine ⟨rs ++ [x.1], ⟨b0, b1, ?_, by simp, by simp, ?_, ?_, by simp⟩, ?_, ?_⟩
    · intro i i0 i1
      have := b2 i.toNat (by omega)
      rw [show ((i.toNat : Nat) : Int) = i by omega] at this
      rw [this, Bool.or_eq_true, h.bits i i0 i1, List.mem_append, List.mem_singleton, beq_iff_eq]
      constructor
      · rintro (hc | hc)
        · exact .inl hc
        · exact .inr (by omega)
      · rintro (hc | hc)
        · exact .inl hc
        · exact .inr (by omega)
    · simpa [rwW] using hnd
    · simpa [rwW] using hrg
    · simp [rwTot, rwW]; omega
    · simp [rwW]; exact fun y hy => .inl hy

theorem RwPre.serve : ∀ {q : List (Int × Bool)} {m w : Int} {rs : List Int}, RwPre m w q rs →
    ∃ rs', RwInv (rwServe m w q).1 (rwServe m w q).2.1 (rwServe m w q).2.2.1 rs' ∧ rwTot (rwServe m w q).2.1 (rwServe m w q).2.2.1 rs' = rwTot w q rs ∧ (∀ y ∈ rs ++ rwW w, y ∈ rs' ++ rwW (rwServe m w q).2.1) ∧
      q.map (·.1) = (rwServe m w q).2.2.2 ++ (rwServe m w q).2.2.1.map (·.1)
  | [], m, w, rs, h => ⟨rs, ⟨h, .inl rfl⟩, rfl, fun _ h => h, rfl⟩
  | x :: q, m, w, rs, h => by
    by_cases hf : rwFits m w x = true
    · obtain ⟨rs1, h1, h2, h3⟩ := h.has hf
      obtain ⟨rs2, g1, g2, g3, g4⟩ := RwPre.serve h1
      simp only [rwServe, if_pos hf]
      exact ⟨rs2, g1, g2.trans h2, fun y hy => g3 y (h3 y hy), by rw [List.map_cons, g4]; rfl⟩
    · simp only [rwServe, if_neg hf]
      exact ⟨rs, ⟨h, .inr ⟨x, q, rfl, by simpa using hf⟩⟩, rfl, fun _ h => h, rfl⟩

theorem RwInv.start : RwInv 0 0 [] [] := ⟨⟨by simp, by simp, fun i h0 h1 => by
  have := rw_bits_none i.toNat (by omega)
  rw [show ((i.toNat : Nat) : Int) = i by omega] at this
  rw [this]; simp, by simp, by simp, by simp [rwW], by simp [rwW], fun _ => rfl⟩, .inl rfl⟩

/-- nobody waits while nobody does anything -/
theorem RwInv.idle {m w : Int} {q : List (Int × Bool)} {rs : List Int} (h : RwInv m w q rs) (hm : m = 0) (hw : w = 0) : q = [] := by
  rcases h.hd with h1 | ⟨x, q', _, h2⟩
  · exact h1
  · subst hm; subst hw
    simp [rwFits] at h2

theorem mem_rwW {w x : Int} (hx : 0 ≤ x) : x ∈ rwW w ↔ w = x + 1 := by
  unfold rwW
  split
  · simp; omega
  · simp; omega

theorem RwInv.ask {m w : Int} {q : List (Int × Bool)} {rs : List Int} (h : RwInv m w q rs) (who : Int) (wr : Bool) : ∃ rs', RwInv (rwAsk m w q who wr).1 (rwAsk m w q who wr).2.1 (rwAsk m w q who wr).2.2.1 rs' := by
  by_cases hx : ¬ (0 ≤ who ∧ who ≤ 7)
  · rw [rwAsk, if_pos hx]; exact ⟨rs, h⟩
  by_cases hc : who ∈ q.map (·.1) ∨ rwIn m who = true ∨ w = who + 1
  · rw [rwAsk, if_neg hx, if_pos hc]; exact ⟨rs, h⟩
  have hx : 0 ≤ who ∧ who ≤ 7 := Decidable.of_not_not hx
  have hnq : who ∉ q.map (·.1) := fun a => hc (.inl a)
  have hnr : who ∉ rs := fun a => hc (.inr (.inl ((h.bits who hx.1 hx.2).2 a)))
  have hnw : w ≠ who + 1 := fun a => hc (.inr (.inr a))
  have pre : RwPre m w (q ++ [(who, wr)]) rs := by
    refine ⟨h.m0, h.m1, h.bits, h.w0, h.w1, ?_, ?_, h.ex⟩
    · have hnd := h.nd
      have e : rs ++ (rwW w ++ (q ++ [(who, wr)]).map (·.1)) = (rs ++ (rwW w ++ q.map (·.1))) ++ [who] := by simp
      rw [e, List.nodup_append]
      refine ⟨hnd, by simp, ?_⟩
      intro a ha b hb
      simp at hb
      subst hb
      rintro rfl
      simp only [List.mem_append] at ha
      rcases ha with ha | ha | ha
      · exact hnr ha
      · exact hnw ((mem_rwW hx.1).1 ha)
      · exact hnq ha
    · intro y hy
      have e : rs ++ (rwW w ++ (q ++ [(who, wr)]).map (·.1)) = (rs ++ (rwW w ++ q.map (·.1))) ++ [who] := by simp
      rw [e, List.mem_append] at hy
      rcases hy with hy | hy
      · exact h.rg y hy
      · simp at hy; subst hy; exact hx
  rw [rwAsk, if_neg (not_not_intro hx), if_neg hc]
  by_cases hf : q = [] ∧ rwFits m w (who, wr) = true
  · rw [if_pos hf]
    obtain ⟨rfl, hf⟩ := hf
    obtain ⟨rs', h1, _, _⟩ := RwPre.has (q := []) (x := (who, wr)) pre hf
    exact ⟨rs', h1, .inl rfl⟩
  · rw [if_neg hf]
    refine ⟨rs, pre, .inr ?_⟩
    cases q with
    | nil => exact ⟨_, _, rfl, by simpa using hf⟩
    | cons x q =>
      rcases h.hd with h1 | ⟨y, q', h1, h2⟩
      · cases h1
      · cases h1
        exact ⟨x, q ++ [(who, wr)], rfl, h2⟩

theorem RwInv.done {m w : Int} {q : List (Int × Bool)} {rs : List Int} (h : RwInv m w q rs) (who : Int) :
    ∃ rs', RwInv (rwDone m w q who).1.1 (rwDone m w q who).1.2.1 (rwDone m w q who).1.2.2.1 rs' ∧
      (∀ y ∈ rs ++ rwW w, y ≠ who → y ∈ rs' ++ rwW (rwDone m w q who).1.2.1) ∧ q.map (·.1) = (rwDone m w q who).1.2.2.2 ++ (rwDone m w q who).1.2.2.1.map (·.1) ∧
      ((who ∈ rs ++ rwW w ∧ rwTot (rwDone m w q who).1.2.1 (rwDone m w q who).1.2.2.1 rs' + 1 = rwTot w q rs) ∨ (who ∉ rs ++ rwW w ∧ rwTot (rwDone m w q who).1.2.1 (rwDone m w q who).1.2.2.1 rs' = rwTot w q rs)) := by
  by_cases hx : ¬ (0 ≤ who ∧ who ≤ 7)
  · rw [rwDone, if_pos hx]
    refine ⟨rs, h, fun _ h _ => h, rfl, .inr ⟨fun hm => hx (h.rg who ?_), rfl⟩⟩
    simp only [List.mem_append] at hm ⊢
    rcases hm with hm | hm
    · exact .inl hm
    · exact .inr (.inl hm)
  have hx' : 0 ≤ who ∧ who ≤ 7 := Decidable.of_not_not hx
  by_cases hw : w = who + 1
  · rw [rwDone, if_neg hx, if_pos hw]
    have hr := h.ex (by omega)
    subst hr
    have hW : rwW w = [who] := by unfold rwW; rw [if_neg (by omega)]; simp; omega
    have hnd := h.nd
    have hrg := h.rg
    rw [hW] at hnd hrg
    simp only [List.nil_append, List.singleton_append, List.nodup_cons] at hnd
    have pre : RwPre m 0 q [] := ⟨h.m0, h.m1, h.bits, by simp, by simp, by simpa [rwW] using hnd.2, fun y hy => hrg y (by simp only [rwW, if_true, List.nil_append] at hy ⊢; exact List.mem_cons_of_mem _ hy), fun _ => rfl⟩
    obtain ⟨rs', g1, g2, g3, g4⟩ := pre.serve
    refine ⟨rs', g1, ?_, g4, .inl ⟨by simp [hW], ?_⟩⟩
    · intro y hy hne
      rw [hW] at hy
      simp at hy
      exact absurd hy hne
    · have e2 : rwTot w q [] = q.length + 1 := by unfold rwTot; rw [hW]; simp; omega
      have e3 : rwTot 0 q [] = q.length := by simp [rwTot, rwW]
      rw [e2, ← e3, ← g2]
  by_cases hb : rwIn m who = true
  · rw [rwDone, if_neg hx, if_neg hw, if_pos hb]
    have hmem := (h.bits who hx'.1 hx'.2).1 hb
    have hm0 := h.m0
    have hm1 := h.m1
    obtain ⟨b0, b1, b2⟩ := rw_bits_no m.toNat (by omega) who.toNat (by omega)
    rw [show ((m.toNat : Nat) : Int) = m by omega] at b0 b1 b2
    have hnd := h.nd
    rw [List.nodup_append] at hnd
    have hw0 : w = 0 := by
      by_cases h0 : w = 0
      · exact h0
      · have := h.ex h0; rw [this] at hmem; simp at hmem
    have pre : RwPre (bitsV .andNot m (1 * 2 ^ who.toNat)) w q (rs.erase who) := by
      refine ⟨b0, b1, ?_, h.w0, h.w1, ?_, ?_, fun h0 => absurd hw0 h0⟩
      · intro i i0 i1
        have := b2 i.toNat (by omega)
        rw [show ((i.toNat : Nat) : Int) = i by omega] at this
        rw [this, Bool.and_eq_true, h.bits i i0 i1, hnd.1.mem_erase_iff, Bool.not_eq_true', beq_eq_false_iff_ne]
        constructor
        · rintro ⟨h1, h2⟩; exact ⟨fun e => h2 (by rw [e]), h1⟩
        · rintro ⟨h1, h2⟩; exact ⟨h2, fun e => h1 (by omega)⟩
      · rw [List.nodup_append]
        exact ⟨hnd.1.erase _, hnd.2.1, fun a ha b hb => hnd.2.2 a (List.mem_of_mem_erase ha) b hb⟩
      · intro y hy
        refine h.rg y ?_
        rw [List.mem_append] at hy ⊢
        exact hy.imp List.mem_of_mem_erase id
    obtain ⟨rs', g1, g2, g3, g4⟩ := pre.serve
    refine ⟨rs', g1, ?_, g4, .inl ⟨by simp [hmem], ?_⟩⟩
    · intro y hy hne
      refine g3 y ?_
      rw [List.mem_append] at hy ⊢
      exact hy.imp (fun a => (hnd.1.mem_erase_iff).2 ⟨hne, a⟩) id
    · rw [g2]
      unfold rwTot
      rw [List.length_erase_of_mem hmem]
      have := List.length_pos_of_mem hmem
      omega
  · rw [rwDone, if_neg hx, if_neg hw, if_neg hb]
    refine ⟨rs, h, fun _ h _ => h, rfl, .inr ⟨?_, rfl⟩⟩
    rw [List.mem_append]
    rintro (hm | hm)
    · exact hb ((h.bits who hx'.1 hx'.2).2 hm)
    · exact hw ((mem_rwW hx'.1).1 hm)

theorem RwInv.holder {m w : Int} {q : List (Int × Bool)} {rs : List Int} (h : RwInv m w q rs) (ht : 0 < rwTot w q rs) : ∃ x, x ∈ rs ++ rwW w := by
  cases hr : rs ++ rwW w with
  | cons x l => exact ⟨x, by simp⟩
  | nil =>
    rw [List.append_eq_nil_iff] at hr
    have hm := h.zero.2 hr.1
    have hw : w = 0 := by
      by_cases h0 : w = 0
      · exact h0
      · have := hr.2; unfold rwW at this; rw [if_neg h0] at this; cases this
    have := h.idle hm hw
    subst this
    rw [hr.1, hw] at ht
    simp [rwTot, rwW] at ht
end Go.Proofs.YtkokdeenniejjaaDoor
