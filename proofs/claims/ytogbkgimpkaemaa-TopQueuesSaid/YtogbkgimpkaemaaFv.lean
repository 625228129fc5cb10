import Derived.Test.YtogbkgimpkaemaaFa
namespace Go.Proofs.Ytogbkgimpkaemaa
open Go.Eng
set_option maxRecDepth 20000
/-! ### how long a hand may take yet -/
open Classical in
noncomputable def cnt : Nat → (Nat → Prop) → Nat
  | 0, _ => 0
  | n + 1, P => cnt n P + (if P n then 1 else 0)
theorem cnt_le : ∀ {n : Nat} {P Q : Nat → Prop}, (∀ x, x < n → P x → Q x) → cnt n P ≤ cnt n Q
  | 0, _, _, _ => Nat.le_refl _
  | n + 1, P, Q, h => by
    have := cnt_le (n := n) (P := P) (Q := Q) (fun x hx => h x (by omega))
    have hn := h n (by omega)
    unfold cnt
    by_cases h1 : P n
    · rw [if_pos h1, if_pos (hn h1)]; omega
    · rw [if_neg h1]; split <;> omega
theorem cnt_lt : ∀ {n : Nat} {P Q : Nat → Prop} {x : Nat}, (∀ x, x < n → P x → Q x) → x < n → Q x → ¬ P x → cnt n P + 1 ≤ cnt n Q
  | 0, _, _, _, _, h, _, _ => by omega
  | n + 1, P, Q, x, h, hx, hq, hp => by
    unfold cnt
    by_cases hxn : x = n
    · subst hxn
      have := cnt_le (n := x) (P := P) (Q := Q) (fun y hy => h y (by omega))
      rw [if_neg hp, if_pos hq]; omega
    · have := cnt_lt (n := n) (P := P) (Q := Q) (x := x) (fun y hy => h y (by omega)) (by omega) hq hp
      have hn := h n (by omega)
      by_cases h1 : P n
      · rw [if_pos h1, if_pos (hn h1)]; omega
      · rw [if_neg h1]; split <;> omega
theorem cnt_top : ∀ {n : Nat} {P : Nat → Prop}, cnt n P ≤ n
  | 0, _ => Nat.le_refl _
  | n + 1, P => by
    have := cnt_top (n := n) (P := P)
    unfold cnt
    split <;> omega
def isP (h : Nat → Int) (q : Nat) : Prop := 1 ≤ h (q * 5 + 0) ∧ h (q * 5 + 0) ≤ 4
def isG (h : Nat → Int) (q : Nat) : Prop := isP h q ∨ 6 ≤ h (q * 5 + 0)
noncomputable def cP (n : Nat) (h : Nat → Int) (q : Nat) : Nat := cnt n fun p => p ≠ q ∧ isP h p
noncomputable def cG (n : Nat) (h : Nat → Int) (q : Nat) : Nat := cnt n fun p => p ≠ q ∧ isG h p
def dP (f : Nat → Int) (a tl : Int) : Nat := if ((a = 2 ∨ a = 4) ∧ tl ≠ f 1) ∨ (a = 3 ∧ f (2 + tl.toNat) ≠ -1) then 1 else 0
def dG (f : Nat → Int) (a hd tl : Int) : Nat := if ((a = 7 ∨ a = 8 ∨ a = 10) ∧ hd ≠ f 0) ∨ (a = 8 ∧ hd = tl ∧ f (2 + hd.toNat) ≠ -1 ∧ f 1 ≠ hd) ∨ (a = 9 ∧ tl ≠ f 1) then 1 else 0
def flag (f : Nat → Int) : Nat := if f (2 + (f 1).toNat) = -1 then 0 else 1
def bP (a : Int) : Nat := if a = 1 then 4 else if a = 2 then 3 else 2
def bG (a : Int) : Nat := if a = 6 then 4 else if a = 7 then 3 else if a = 8 then 2 else 1
noncomputable def fV (n : Nat) (f h : Nat → Int) (q : Nat) : Nat :=
  if h (q * 5 + 0) = 0 then 0 else if h (q * 5 + 0) = 5 then 1
  else if h (q * 5 + 0) ≤ 4 then bP (h (q * 5 + 0)) + 3 * dP f (h (q * 5 + 0)) (h (q * 5 + 3)) + 6 * cP n h q + 3 * flag f
  else bG (h (q * 5 + 0)) + 4 * dG f (h (q * 5 + 0)) (h (q * 5 + 2)) (h (q * 5 + 3)) + 4 * cG n h q + 4 * flag f
def FLag (f : Nat → Int) : Prop := f (2 + (f 1).toNat) = -1 ∨ f (2 + (f (2 + (f 1).toNat)).toNat) = -1
theorem dP_le {f : Nat → Int} {a tl : Int} : dP f a tl ≤ 1 := by unfold dP; split <;> omega
theorem dG_le {f : Nat → Int} {a hd tl : Int} : dG f a hd tl ≤ 1 := by unfold dG; split <;> omega
theorem flag_le {f : Nat → Int} : flag f ≤ 1 := by unfold flag; split <;> omega
theorem bP_le {a : Int} : bP a ≤ 4 := by unfold bP; split <;> (try split) <;> omega
theorem bG_le {a : Int} : bG a ≤ 4 := by unfold bG; split <;> (try split) <;> (try split) <;> omega
theorem fV_P {n : Nat} {f h : Nat → Int} {q : Nat} {a : Int} (ha : h (q * 5 + 0) = a) (h1 : 1 ≤ a) (h4 : a ≤ 4) : fV n f h q = bP a + 3 * dP f a (h (q * 5 + 3)) + 6 * cP n h q + 3 * flag f := by
  unfold fV
  rw [ha, if_neg (by omega), if_neg (by omega), if_pos h4]
theorem fV_G {n : Nat} {f h : Nat → Int} {q : Nat} {a : Int} (ha : h (q * 5 + 0) = a) (h6 : 6 ≤ a) : fV n f h q = bG a + 4 * dG f a (h (q * 5 + 2)) (h (q * 5 + 3)) + 4 * cG n h q + 4 * flag f := by
  unfold fV
  rw [ha, if_neg (by omega), if_neg (by omega), if_neg (by omega)]
theorem fV_5 {n : Nat} {f h : Nat → Int} {q : Nat} (ha : h (q * 5 + 0) = 5) : fV n f h q = 1 := by
  unfold fV
  rw [ha, if_neg (by omega), if_pos rfl]
theorem fV_0 {n : Nat} {f h : Nat → Int} {q : Nat} (ha : h (q * 5 + 0) = 0) : fV n f h q = 0 := by
  unfold fV
  rw [if_pos ha]
theorem cnt3 {n q : Nat} {P : Nat → Prop} (hn : n ≤ 4) (hq : q < n) : cnt n (fun p => p ≠ q ∧ P p) ≤ 3 := by
  have := cnt_lt (n := n) (P := fun p => p ≠ q ∧ P p) (Q := fun _ => True) (x := q) (fun _ _ _ => trivial) hq trivial (fun h => h.1 rfl)
  have := cnt_top (n := n) (P := fun _ => True)
  omega
theorem fV_le {n : Nat} {f h : Nat → Int} {q : Nat} (hn : n ≤ 4) (hq : q < n) : fV n f h q ≤ 28 := by
  have h1 := cnt3 (P := isP h) hn hq
  have h2 := cnt3 (P := isG h) hn hq
  have h3 := flag_le (f := f)
  unfold fV
  split
  · omega
  split
  · omega
  split
  · have := bP_le (a := h (q * 5 + 0))
    have := dP_le (f := f) (a := h (q * 5 + 0)) (tl := h (q * 5 + 3))
    unfold cP; omega
  · have := bG_le (a := h (q * 5 + 0))
    have := dG_le (f := f) (a := h (q * 5 + 0)) (hd := h (q * 5 + 2)) (tl := h (q * 5 + 3))
    unfold cG; omega
theorem bP_pos {a : Int} : 1 ≤ bP a := by unfold bP; split <;> (try split) <;> omega
theorem bG_pos {a : Int} : 1 ≤ bG a := by unfold bG; split <;> (try split) <;> (try split) <;> omega
theorem fV_pos {n : Nat} {f h : Nat → Int} {q : Nat} (h0 : fV n f h q = 0) : h (q * 5 + 0) = 0 := by
  unfold fV at h0
  split at h0
  · assumption
  split at h0
  · omega
  split at h0
  · have := bP_pos (a := h (q * 5 + 0)); omega
  · have := bG_pos (a := h (q * 5 + 0)); omega
/-- what a line of one hand means to the others -/
inductive FEv (n : Nat) (f h h' : Nat → Int) (q : Nat) : (Nat → Int) → Prop
  | non : (isP h' q → isP h q) → (isG h' q → isG h q) → FEv n f h h' q f
  | tail (y : Int) : (isP h' q → isP h q) → (isG h' q → isG h q) → flag f = 1 → flag (updN f 1 y) = 0 → FEv n f h h' q (updN f 1 y)
  | head (y : Int) : ¬ isP h' q → isG h q → ¬ isG h' q → FEv n f h h' q (updN f 0 y)
  | link (x : Nat) (y : Int) : isP h q → ¬ isP h' q → ¬ isG h' q → (∀ p, p < n → p ≠ q → dG (updN f (2 + x) y) (h (p * 5 + 0)) (h (p * 5 + 2)) (h (p * 5 + 3)) ≤ dG f (h (p * 5 + 0)) (h (p * 5 + 2)) (h (p * 5 + 3))) → FEv n f h h' q (updN f (2 + x) y)
theorem FEv.oth {n : Nat} {f h f' h' : Nat → Int} {q : Nat} (E : FEv n f h h' q f') (hq : q < n) (same : ∀ p j, p ≠ q → j < 5 → h' (p * 5 + j) = h (p * 5 + j)) {p : Nat} (hp : p < n) (hpq : p ≠ q) : fV n f' h' p ≤ fV n f h p := by
  have sP : ∀ x, x ≠ q → (isP h' x ↔ isP h x) := fun x hx => by unfold isP; rw [same x 0 hx (by omega)]
  have sG : ∀ x, x ≠ q → (isG h' x ↔ isG h x) := fun x hx => by unfold isG isP; rw [same x 0 hx (by omega)]
  have leP : (isP h' q → isP h q) → cP n h' p ≤ cP n h p := fun hi => cnt_le fun x _ ⟨a, b⟩ => ⟨a, by
    by_cases hx : x = q
    · subst hx; exact hi b
    · exact (sP x hx).1 b⟩
  have leG : (isG h' q → isG h q) → cG n h' p ≤ cG n h p := fun hi => cnt_le fun x _ ⟨a, b⟩ => ⟨a, by
    by_cases hx : x = q
    · subst hx; exact hi b
    · exact (sG x hx).1 b⟩
  have ltP : isP h q → ¬ isP h' q → cP n h' p + 1 ≤ cP n h p := fun a b => cnt_lt (fun x _ ⟨c, d⟩ => ⟨c, by
    by_cases hx : x = q
    · subst hx; exact a
    · exact (sP x hx).1 d⟩) hq ⟨Ne.symm hpq, a⟩ (fun hh => b hh.2)
  have ltG : isG h q → ¬ isG h' q → cG n h' p + 1 ≤ cG n h p := fun a b => cnt_lt (fun x _ ⟨c, d⟩ => ⟨c, by
    by_cases hx : x = q
    · subst hx; exact a
    · exact (sG x hx).1 d⟩) hq ⟨Ne.symm hpq, a⟩ (fun hh => b hh.2)
  have key : (3 * dP f' (h (p * 5 + 0)) (h (p * 5 + 3)) + 6 * cP n h' p + 3 * flag f' ≤ 3 * dP f (h (p * 5 + 0)) (h (p * 5 + 3)) + 6 * cP n h p + 3 * flag f) ∧
      (4 * dG f' (h (p * 5 + 0)) (h (p * 5 + 2)) (h (p * 5 + 3)) + 4 * cG n h' p + 4 * flag f' ≤ 4 * dG f (h (p * 5 + 0)) (h (p * 5 + 2)) (h (p * 5 + 3)) + 4 * cG n h p + 4 * flag f) := by
    have b1 := dP_le (f := f') (a := h (p * 5 + 0)) (tl := h (p * 5 + 3))
    have b2 := dG_le (f := f') (a := h (p * 5 + 0)) (hd := h (p * 5 + 2)) (tl := h (p * 5 + 3))
    have b3 := flag_le (f := f')
    cases E with
    | non e1 e2 => have := leP e1; have := leG e2; omega
    | tail y e1 e2 e3 e4 => have := leP e1; have := leG e2; omega
    | head y e1 e2 e3 =>
      have := leP (fun hh => absurd hh e1)
      have := ltG e2 e3
      have d1 : dP (updN f 0 y) (h (p * 5 + 0)) (h (p * 5 + 3)) = dP f (h (p * 5 + 0)) (h (p * 5 + 3)) := by
        unfold dP; rw [updN_ne (by omega), updN_ne (by omega)]
      have d2 : flag (updN f 0 y) = flag f := by
        unfold flag; rw [updN_ne (show 1 ≠ 0 by omega), updN_ne (by omega)]
      omega
    | link x y e1 e2 e3 e4 =>
      have := ltP e1 e2
      have := ltG (.inl e1) e3
      have := e4 p hp hpq
      omega
  unfold fV
  rw [same p 0 hpq (by omega), same p 2 hpq (by omega), same p 3 hpq (by omega)]
  split
  · exact Nat.le_refl _
  split
  · exact Nat.le_refl _
  split <;> omega
set_option maxHeartbeats 1600000 in
theorem FInv.vstep {n : Nat} {f h : Nat → Int} {ch : List Nat} {hi ti : Nat} (I : FInv n f h ch hi ti) (lg : FLag f) {q : Nat} (hq : q < n) (ha : h (q * 5 + 0) ≠ 0) :
    FLag (fStep f h q).1 ∧ fV n (fStep f h q).1 (fStep f h q).2.1 q + 1 ≤ fV n f h q ∧ ∀ p, p < n → p ≠ q → fV n (fStep f h q).1 (fStep f h q).2.1 p ≤ fV n f h p := by
  have H := I.q q hq
  unfold fHd at H
  have r := H.r
  have B := I.b
  have e1 : ∀ {i : Nat} {v w : Int}, i < 5 → i ≠ 0 → updN (updN h (q * 5 + i) v) (q * 5 + 0) w (q * 5 + i) = v := fun {i v w} _ hi => by rw [updH_ne2 hi, updN_same]
  have e2 : ∀ {i j : Nat} {v w : Int}, j ≠ 0 → j ≠ i → updN (updN h (q * 5 + i) v) (q * 5 + 0) w (q * 5 + j) = h (q * 5 + j) := fun {i j v w} h1 h2 => by rw [updH_ne2 h1, updH_ne2 h2]
  have s1 : ∀ {i : Nat} {v w : Int}, i < 5 → ∀ p j, p ≠ q → j < 5 → updN (updN h (q * 5 + i) v) (q * 5 + 0) w (p * 5 + j) = h (p * 5 + j) := fun {i v w} hi p j hp hj => by rw [updH_ne hp (by omega) hj, updH_ne hp hi hj]
  have s0 : ∀ {w : Int}, ∀ p j, p ≠ q → j < 5 → updN h (q * 5 + 0) w (p * 5 + j) = h (p * 5 + j) := fun {w} p j hp hj => updH_ne hp (by omega) hj
  have sd : ∀ {h2 : Nat → Int}, (∀ p j, p ≠ q → j < 5 → h2 (p * 5 + j) = h (p * 5 + j)) → ∀ p j, p ≠ q → j < 5 → fDone h2 q (p * 5 + j) = h (p * 5 + j) := fun {h2} hs p j hp hj => by rw [fDone, fHand_ne hp hj]; exact hs p j hp hj
  have d0 : ∀ {h2 : Nat → Int}, fDone h2 q (q * 5 + 0) = 0 := fun {h2} => by rw [fDone, fHand_same (by omega)]; rfl
  have cPs : ∀ {h' : Nat → Int}, (∀ p j, p ≠ q → j < 5 → h' (p * 5 + j) = h (p * 5 + j)) → cP n h' q = cP n h q := fun {h'} same => Nat.le_antisymm (cnt_le fun x _ ⟨a, b⟩ => ⟨a, by unfold isP at *; rw [← same x 0 a (by omega)]; exact b⟩) (cnt_le fun x _ ⟨a, b⟩ => ⟨a, by unfold isP at *; rw [same x 0 a (by omega)]; exact b⟩)
  have cGs : ∀ {h' : Nat → Int}, (∀ p j, p ≠ q → j < 5 → h' (p * 5 + j) = h (p * 5 + j)) → cG n h' q = cG n h q := fun {h'} same => Nat.le_antisymm (cnt_le fun x _ ⟨a, b⟩ => ⟨a, by unfold isG isP at *; rw [← same x 0 a (by omega)]; exact b⟩) (cnt_le fun x _ ⟨a, b⟩ => ⟨a, by unfold isG isP at *; rw [same x 0 a (by omega)]; exact b⟩)
  have done : ∀ {f' h2 : Nat → Int}, fV n f' (fDone h2 q) q = 0 := fun {f' h2} => fV_0 d0
  have nP0 : ∀ {h2 : Nat → Int}, ¬ isP (fDone h2 q) q := fun {h2} h1 => by unfold isP at h1; rw [d0] at h1; omega
  have nG0 : ∀ {h2 : Nat → Int}, ¬ isG (fDone h2 q) q := fun {h2} h1 => by unfold isG at h1; rw [d0] at h1; exact h1.elim nP0 (by omega)
  obtain ⟨th, th1, th2⟩ := B.hd
  obtain ⟨tt, tt1, tt2⟩ := B.tl
  have ett : (f 1).toNat = tt := by omega
  have tail : ∀ {y : Nat}, f (2 + tt) = y → flag f = 1 ∧ flag (updN f 1 y) = 0 ∧ FLag (updN f 1 y) := fun {y} hy => by
    have hx : f (2 + y) = -1 := by
      rcases lg with hl | hl
      · rw [ett, hy] at hl; omega
      · rw [ett, hy, Int.toNat_natCast] at hl; exact hl
    have hx2 : updN f 1 (y : Int) (2 + (updN f 1 (y : Int) 1).toNat) = -1 := by rw [updN_same, Int.toNat_natCast, updN_ne (by omega)]; exact hx
    exact ⟨by unfold flag; rw [ett, hy, if_neg (by omega)], by unfold flag; rw [if_pos hx2], .inl hx2⟩
  have isP_of : ∀ {h' : Nat → Int} {v : Int}, h' (q * 5 + 0) = v → 1 ≤ v → v ≤ 4 → isP h' q := fun {h' v} h1 h2 h3 => ⟨by omega, by omega⟩
  have isG_of : ∀ {h' : Nat → Int} {v : Int}, h' (q * 5 + 0) = v → 1 ≤ v → v ≠ 5 → isG h' q := fun {h' v} h1 h2 h3 => by
    unfold isG isP; omega
  have nisP : ∀ {h' : Nat → Int} {v : Int}, h' (q * 5 + 0) = v → 5 ≤ v → ¬ isP h' q := fun {h' v} h1 h2 h3 => by unfold isP at h3; omega
  have cases : h (q * 5 + 0) = 1 ∨ h (q * 5 + 0) = 2 ∨ h (q * 5 + 0) = 3 ∨ h (q * 5 + 0) = 4 ∨ h (q * 5 + 0) = 5 ∨ h (q * 5 + 0) = 6 ∨ h (q * 5 + 0) = 7 ∨ h (q * 5 + 0) = 8 ∨ h (q * 5 + 0) = 9 ∨ h (q * 5 + 0) = 10 := by omega
  rcases cases with a | a | a | a | a | a | a | a | a | a
  · have S : fStep f h q = (f, updN (updN h (q * 5 + 3) (f 1)) (q * 5 + 0) 2, false, 0) := by simp only [Nat.add_zero] at a ⊢; simp [fStep, a]
    rw [S]
    dsimp only
    refine ⟨lg, ?_, fun p hp hne => (FEv.non (fun _ => isP_of a (by omega) (by omega)) (fun _ => isG_of a (by omega) (by omega))).oth hq (s1 (by omega)) hp hne⟩
    rw [fV_P a (by omega) (by omega), fV_P (updN_same _ _ _) (by omega) (by omega), cPs (s1 (by omega)), e1 (by omega) (by omega)]
    have z : dP f 2 (f 1) = 0 := by simp [dP]
    rw [z]; show 3 + _ + _ + _ + 1 ≤ 4 + _ + _ + _; omega
  · obtain ⟨i, x, g1, g2, g3⟩ := H.t (.inl a)
    have ex : (h (q * 5 + 3)).toNat = x := by omega
    rcases B.next g1 with ⟨hl, hn⟩ | ⟨y, hy, hn⟩
    · have S : fStep f h q = (f, updN (updN h (q * 5 + 4) (-1)) (q * 5 + 0) 3, false, 0) := by simp only [Nat.add_zero] at a ⊢; simp [fStep, a, ex, hn]
      rw [S]
      dsimp only
      refine ⟨lg, ?_, fun p hp hne => (FEv.non (fun _ => isP_of a (by omega) (by omega)) (fun _ => isG_of a (by omega) (by omega))).oth hq (s1 (by omega)) hp hne⟩
      rw [fV_P a (by omega) (by omega), fV_P (updN_same _ _ _) (by omega) (by omega), cPs (s1 (by omega)), e2 (by omega) (by omega)]
      have z : dP f 3 (h (q * 5 + 3)) = 0 := by simp [dP, ex, hn]
      rw [z]; show 2 + _ + _ + _ + 1 ≤ 3 + _ + _ + _; omega
    · have hy0 : (y : Int) ≥ 0 := by omega
      have S : fStep f h q = (f, updN (updN h (q * 5 + 4) y) (q * 5 + 0) 4, false, 0) := by simp only [Nat.add_zero] at a ⊢; simp [fStep, a, ex, hn]
      rw [S]
      dsimp only
      refine ⟨lg, ?_, fun p hp hne => (FEv.non (fun _ => isP_of a (by omega) (by omega)) (fun _ => isG_of a (by omega) (by omega))).oth hq (s1 (by omega)) hp hne⟩
      rw [fV_P a (by omega) (by omega), fV_P (updN_same _ _ _) (by omega) (by omega), cPs (s1 (by omega)), e2 (by omega) (by omega)]
      have z : dP f 4 (h (q * 5 + 3)) = dP f 2 (h (q * 5 + 3)) := by simp [dP]
      rw [z]; show 2 + _ + _ + _ + 1 ≤ 3 + _ + _ + _; omega
  · obtain ⟨i, x, g1, g2, g3⟩ := H.t (.inr a)
    obtain ⟨k, k1, k2, k3, k4⟩ := H.fn (by omega) (by omega)
    have ex : (h (q * 5 + 3)).toNat = x := by omega
    rcases B.next g1 with ⟨hl, hn⟩ | ⟨y, hy, hn⟩
    · have S : fStep f h q = (updN f (2 + x) k, updN h (q * 5 + 0) 5, false, 0) := by simp only [Nat.add_zero] at a ⊢; simp [fStep, a, ex, hn, k1]
      rw [S]
      dsimp only
      have htl := (List.getElem?_eq_some_iff.1 tt1).1
      have hti : ti = i := by omega
      have hxt : x = tt := by rw [hti, g1] at tt1; exact Option.some.inj tt1
      have hkx : k ≠ x := fun he => k4 (he ▸ List.mem_of_getElem? g1)
      have hk40 : k < 40 := by have := B.m1; omega
      refine ⟨.inr ?_, ?_, fun p hp hne => (FEv.link x k (isP_of a (by omega) (by omega)) (nisP (updN_same _ _ _) (by omega)) (fun hh => hh.elim (nisP (updN_same _ _ _) (by omega)) (fun hh => by rw [updN_same] at hh; omega)) (fun p hp hne => ?_)).oth hq s0 hp hne⟩
      · rw [updN_ne (show 1 ≠ 2 + x by omega), ett, ← hxt, updN_same, Int.toNat_natCast, updN_ne (by omega)]
        exact B.no k hk40 k4
      · rw [fV_P a (by omega) (by omega), fV_5 (updN_same _ _ _)]
        show 1 + 1 ≤ 2 + _ + _ + _; omega
      · unfold dG
        rw [updN_ne (show 0 ≠ 2 + x by omega), updN_ne (show 1 ≠ 2 + x by omega)]
        by_cases hc : h (p * 5 + 0) = 8 ∧ h (p * 5 + 2) = h (p * 5 + 3) ∧ f 1 ≠ h (p * 5 + 2)
        · obtain ⟨i', j', x', y', f1, f2, f3, f4, f5, f6, f7⟩ := (I.q p hp).d8 hc.1
          have hx' : (h (p * 5 + 2)).toNat = x' := by omega
          have : x' ≠ x := fun he => by
            have := hc.2.2
            omega
          rw [hx', updN_ne (by omega)]
          exact Nat.le_refl _
        · split
          · rename_i h1
            rw [if_pos]
            · exact Nat.le_refl _
            · rcases h1 with h1 | h1 | h1
              · exact .inl h1
              · exact absurd ⟨h1.1, h1.2.1, h1.2.2.2⟩ hc
              · exact .inr (.inr h1)
          · omega
    · have hne : ¬ (y : Int) = -1 := by omega
      have S : fStep f h q = (f, updN h (q * 5 + 0) 1, false, 0) := by simp only [Nat.add_zero] at a ⊢; simp [fStep, a, ex, hn, hne]
      rw [S]
      dsimp only
      refine ⟨lg, ?_, fun p hp hne => (FEv.non (fun _ => isP_of a (by omega) (by omega)) (fun _ => isG_of a (by omega) (by omega))).oth hq s0 hp hne⟩
      rw [fV_P a (by omega) (by omega), fV_P (updN_same _ _ _) (by omega) (by omega), cPs s0, updH_ne2 (by omega)]
      have z : dP f 1 (h (q * 5 + 3)) = 0 := by simp [dP]
      have z2 : dP f 3 (h (q * 5 + 3)) = 1 := by simp [dP, ex, hn, hne]
      rw [z, z2]; show 4 + _ + _ + _ + 1 ≤ 2 + _ + _ + _; omega
  · obtain ⟨i, x, y, g1, g2, g3, g4, g5⟩ := H.t4 (.inl a)
    by_cases hc : f 1 = h (q * 5 + 3)
    · have S : fStep f h q = (updN f 1 y, updN h (q * 5 + 0) 1, false, 0) := by simp only [Nat.add_zero] at a ⊢; simp [fStep, a, hc, g4]
      rw [S]
      dsimp only
      obtain ⟨t1, t2, t3⟩ := tail (y := y) (by rw [show tt = x by omega]; exact B.lk i x y g1 g2)
      refine ⟨t3, ?_, fun p hp hne => (FEv.tail _ (fun _ => isP_of a (by omega) (by omega)) (fun _ => isG_of a (by omega) (by omega)) t1 t2).oth hq s0 hp hne⟩
      rw [fV_P a (by omega) (by omega), fV_P (updN_same _ _ _) (by omega) (by omega), cPs s0, updH_ne2 (by omega), t1, t2]
      have z : dP (updN f 1 y) 1 (h (q * 5 + 3)) = 0 := by simp [dP]
      rw [z]; show 4 + _ + _ + _ + 1 ≤ 2 + _ + _ + _; omega
    · have S : fStep f h q = (f, updN h (q * 5 + 0) 1, false, 0) := by simp only [Nat.add_zero] at a ⊢; simp [fStep, a, hc]
      rw [S]
      dsimp only
      refine ⟨lg, ?_, fun p hp hne => (FEv.non (fun _ => isP_of a (by omega) (by omega)) (fun _ => isG_of a (by omega) (by omega))).oth hq s0 hp hne⟩
      rw [fV_P a (by omega) (by omega), fV_P (updN_same _ _ _) (by omega) (by omega), cPs s0, updH_ne2 (by omega)]
      have z : dP f 1 (h (q * 5 + 3)) = 0 := by simp [dP]
      have z2 : dP f 4 (h (q * 5 + 3)) = 1 := by unfold dP; rw [if_pos (.inl ⟨.inr rfl, fun hh => hc hh.symm⟩)]
      rw [z, z2]; show 4 + _ + _ + _ + 1 ≤ 2 + _ + _ + _; omega
  · obtain ⟨i, x, y, g1, g2, g3, g4, g5⟩ := H.t5 a
    have nq : ∀ {h2 : Nat → Int}, (isP (fDone h2 q) q → isP h q) ∧ (isG (fDone h2 q) q → isG h q) := fun {h2} => ⟨fun hh => absurd hh nP0, fun hh => absurd hh nG0⟩
    by_cases hc : f 1 = h (q * 5 + 3)
    · have S : fStep f h q = (updN f 1 y, fDone h q, true, -1) := by simp only [Nat.add_zero] at a ⊢; simp [fStep, a, hc, g4]
      rw [S]
      dsimp only
      obtain ⟨t1, t2, t3⟩ := tail (y := y) (by rw [show tt = x by omega]; exact B.lk i x y g1 g2)
      refine ⟨t3, by rw [done, fV_5 a]; exact Nat.le_refl _, fun p hp hne => (FEv.tail _ nq.1 nq.2 t1 t2).oth hq (sd fun _ _ _ _ => rfl) hp hne⟩
    · have S : fStep f h q = (f, fDone h q, true, -1) := by simp only [Nat.add_zero] at a ⊢; simp [fStep, a, hc]
      rw [S]
      dsimp only
      exact ⟨lg, by rw [done, fV_5 a]; exact Nat.le_refl _, fun p hp hne => (FEv.non nq.1 nq.2).oth hq (sd fun _ _ _ _ => rfl) hp hne⟩
  · have S : fStep f h q = (f, updN (updN h (q * 5 + 2) (f 0)) (q * 5 + 0) 7, false, 0) := by simp only [Nat.add_zero] at a ⊢; simp [fStep, a]
    rw [S]
    dsimp only
    refine ⟨lg, ?_, fun p hp hne => (FEv.non (fun hh => absurd hh (nisP (updN_same _ _ _) (by omega))) (fun _ => isG_of a (by omega) (by omega))).oth hq (s1 (by omega)) hp hne⟩
    rw [fV_G a (by omega), fV_G (updN_same _ _ _) (by omega), cGs (s1 (by omega)), e1 (i := 2) (by omega) (by omega)]
    have z : ∀ t, dG f 7 (f 0) t = 0 := fun t => by simp [dG]
    rw [z]; show 3 + _ + _ + _ + 1 ≤ 4 + _ + _ + _; omega
  · have S : fStep f h q = (f, updN (updN h (q * 5 + 3) (f 1)) (q * 5 + 0) 8, false, 0) := by simp only [Nat.add_zero] at a ⊢; simp [fStep, a]
    rw [S]
    dsimp only
    refine ⟨lg, ?_, fun p hp hne => (FEv.non (fun hh => absurd hh (nisP (updN_same _ _ _) (by omega))) (fun _ => isG_of a (by omega) (by omega))).oth hq (s1 (by omega)) hp hne⟩
    rw [fV_G a (by omega), fV_G (updN_same _ _ _) (by omega), cGs (s1 (by omega)), e1 (i := 3) (by omega) (by omega), e2 (j := 2) (by omega) (by omega)]
    have z : dG f 8 (h (q * 5 + 2)) (f 1) ≤ dG f 7 (h (q * 5 + 2)) (h (q * 5 + 3)) := by
      unfold dG
      split
      · rename_i hh
        rw [if_pos]
        · exact Nat.le_refl _
        · rcases hh with hh | hh | hh
          · exact .inl ⟨.inl rfl, hh.2⟩
          · exact absurd hh.2.1.symm hh.2.2.2
          · exact absurd hh.1 (by omega)
      · omega
    show 2 + _ + _ + _ + 1 ≤ 3 + _ + _ + _; omega
  · obtain ⟨i, j, x, y, g1, g2, g3, g4, g5, g6, g7⟩ := H.d8 a
    have ex : (h (q * 5 + 2)).toNat = x := by omega
    rcases B.next g1 with ⟨hl, hn⟩ | ⟨z, hzz, hn⟩
    · have hj := (List.getElem?_eq_some_iff.1 g2).1
      have hij : j = i := by omega
      subst hij
      have hxy : x = y := by rw [g1] at g2; exact Option.some.inj g2
      have hd : h (q * 5 + 2) = h (q * 5 + 3) := by omega
      have ey : (h (q * 5 + 3)).toNat = x := by omega
      have S : fStep f h q = (f, fDone (updN h (q * 5 + 4) (-1)) q, true, -1) := by simp only [Nat.add_zero] at a ⊢; simp [fStep, a, ey, hn, hd]
      rw [S]
      dsimp only
      have same : ∀ p j, p ≠ q → j < 5 → updN h (q * 5 + 4) (-1) (p * 5 + j) = h (p * 5 + j) := fun p j hp hj => updH_ne hp (by omega) hj
      refine ⟨lg, ?_, fun p hp hne => (FEv.non (fun hh => absurd hh nP0) (fun hh => absurd hh nG0)).oth hq (sd same) hp hne⟩
      rw [done, fV_G a (by omega)]
      show 0 + 1 ≤ 2 + _ + _ + _; omega
    · by_cases hd : h (q * 5 + 2) = h (q * 5 + 3)
      · have ey : (h (q * 5 + 3)).toNat = x := by omega
        have hz0 : ¬ (z : Int) < 0 := by omega
        have S : fStep f h q = (f, updN (updN h (q * 5 + 4) z) (q * 5 + 0) 9, false, 0) := by simp only [Nat.add_zero] at a ⊢; simp [fStep, a, ey, hn, hd, hz0]
        rw [S]
        dsimp only
        refine ⟨lg, ?_, fun p hp hne => (FEv.non (fun hh => absurd hh (nisP (updN_same _ _ _) (by omega))) (fun _ => isG_of a (by omega) (by omega))).oth hq (s1 (by omega)) hp hne⟩
        rw [fV_G a (by omega), fV_G (updN_same _ _ _) (by omega), cGs (s1 (by omega)), e2 (j := 3) (by omega) (by omega), e2 (j := 2) (by omega) (by omega)]
        have z : dG f 9 (h (q * 5 + 2)) (h (q * 5 + 3)) ≤ dG f 8 (h (q * 5 + 2)) (h (q * 5 + 3)) := by
          unfold dG
          split
          · rename_i hh
            rw [if_pos]
            · exact Nat.le_refl _
            · rcases hh with hh | hh | hh
              · exact absurd hh.1 (by omega)
              · exact absurd hh.1 (by omega)
              · exact .inr (.inl ⟨rfl, hd, by rw [ex, hn]; omega, fun he => hh.2 (by rw [he, hd])⟩)
          · omega
        show 1 + _ + _ + _ + 1 ≤ 2 + _ + _ + _; omega
      · have hz0 : ¬ (z : Int) < 0 := by omega
        have S : fStep f h q = (f, updN (updN h (q * 5 + 4) z) (q * 5 + 0) 10, false, 0) := by simp only [Nat.add_zero] at a ⊢; simp [fStep, a, ex, hn, hd]
        rw [S]
        dsimp only
        refine ⟨lg, ?_, fun p hp hne => (FEv.non (fun hh => absurd hh (nisP (updN_same _ _ _) (by omega))) (fun _ => isG_of a (by omega) (by omega))).oth hq (s1 (by omega)) hp hne⟩
        rw [fV_G a (by omega), fV_G (updN_same _ _ _) (by omega), cGs (s1 (by omega)), e2 (j := 3) (by omega) (by omega), e2 (j := 2) (by omega) (by omega)]
        have z : dG f 10 (h (q * 5 + 2)) (h (q * 5 + 3)) ≤ dG f 8 (h (q * 5 + 2)) (h (q * 5 + 3)) := by
          unfold dG
          split
          · rename_i hh
            rw [if_pos]
            · exact Nat.le_refl _
            · rcases hh with hh | hh | hh
              · exact .inl ⟨.inr (.inl rfl), hh.2⟩
              · exact absurd hh.1 (by omega)
              · exact absurd hh.1 (by omega)
          · omega
        show 1 + _ + _ + _ + 1 ≤ 2 + _ + _ + _; omega
  · obtain ⟨i, x, y, g1, g2, g3, g4, g5⟩ := H.t4 (.inr a)
    by_cases hc : f 1 = h (q * 5 + 3)
    · have S : fStep f h q = (updN f 1 y, updN h (q * 5 + 0) 6, false, 0) := by simp only [Nat.add_zero] at a ⊢; simp [fStep, a, hc, g4]
      rw [S]
      dsimp only
      obtain ⟨t1, t2, t3⟩ := tail (y := y) (by rw [show tt = x by omega]; exact B.lk i x y g1 g2)
      refine ⟨t3, ?_, fun p hp hne => (FEv.tail _ (fun hh => absurd hh (nisP (updN_same _ _ _) (by omega))) (fun _ => isG_of a (by omega) (by omega)) t1 t2).oth hq s0 hp hne⟩
      rw [fV_G a (by omega), fV_G (updN_same _ _ _) (by omega), cGs s0, t1, t2]
      have z : ∀ s t, dG (updN f 1 y) 6 s t = 0 := fun s t => by simp [dG]
      rw [z]; show 4 + _ + _ + _ + 1 ≤ 1 + _ + _ + _; omega
    · have S : fStep f h q = (f, updN h (q * 5 + 0) 6, false, 0) := by simp only [Nat.add_zero] at a ⊢; simp [fStep, a, hc]
      rw [S]
      dsimp only
      refine ⟨lg, ?_, fun p hp hne => (FEv.non (fun hh => absurd hh (nisP (updN_same _ _ _) (by omega))) (fun _ => isG_of a (by omega) (by omega))).oth hq s0 hp hne⟩
      rw [fV_G a (by omega), fV_G (updN_same _ _ _) (by omega), cGs s0]
      have z : ∀ s t, dG f 6 s t = 0 := fun s t => by simp [dG]
      have z2 : dG f 9 (h (q * 5 + 2)) (h (q * 5 + 3)) = 1 := by unfold dG; rw [if_pos (.inr (.inr ⟨rfl, fun hh => hc hh.symm⟩))]
      rw [z, z2]; show 4 + _ + _ + _ + 1 ≤ 1 + _ + _ + _; omega
  · obtain ⟨i, x, y, g1, g2, g3, g4, g5⟩ := H.d10 a
    by_cases hc : f 0 = h (q * 5 + 2)
    · have ey : (h (q * 5 + 4)).toNat = y := by omega
      have S : fStep f h q = (updN f 0 y, fDone h q, true, f (42 + y)) := by
        have : updN f 0 (y : Int) (42 + y) = f (42 + y) := updN_ne (by omega)
        simp only [Nat.add_zero] at a ⊢; simp [fStep, a, hc, g4, this]
      rw [S]
      dsimp only
      refine ⟨?_, ?_, fun p hp hne => (FEv.head _ nP0 (isG_of a (by omega) (by omega)) nG0).oth hq (sd fun _ _ _ _ => rfl) hp hne⟩
      · unfold FLag
        rw [updN_ne (show 1 ≠ 0 by omega), updN_ne (show 2 + (f 1).toNat ≠ 0 by omega), updN_ne (by omega)]
        exact lg
      · rw [done, fV_G a (by omega)]
        show 0 + 1 ≤ 1 + _ + _ + _; omega
    · have S : fStep f h q = (f, updN h (q * 5 + 0) 6, false, 0) := by simp only [Nat.add_zero] at a ⊢; simp [fStep, a, hc]
      rw [S]
      dsimp only
      refine ⟨lg, ?_, fun p hp hne => (FEv.non (fun hh => absurd hh (nisP (updN_same _ _ _) (by omega))) (fun _ => isG_of a (by omega) (by omega))).oth hq s0 hp hne⟩
      rw [fV_G a (by omega), fV_G (updN_same _ _ _) (by omega), cGs s0]
      have z : ∀ s t, dG f 6 s t = 0 := fun s t => by simp [dG]
      have z2 : dG f 10 (h (q * 5 + 2)) (h (q * 5 + 3)) = 1 := by unfold dG; rw [if_pos (.inl ⟨.inr (.inr rfl), fun hh => hc hh.symm⟩)]
      rw [z, z2]; show 4 + _ + _ + _ + 1 ≤ 1 + _ + _ + _; omega
end Go.Proofs.Ytogbkgimpkaemaa
