import Derived.Test.YtogbkgimpkaemaaDoorFt
namespace Go.Proofs.YtogbkgimpkaemaaDoor
open Go.Eng
set_option maxRecDepth 20000
/-! ### the document's hand, and this one's -/
def RelF (hh a mi t h x : Nat → Int) (p : Nat) : Prop := a p = hh (p * 5 + 0) ∧ (1 ≤ a p → a p ≤ 5 → mi p = hh (p * 5 + 1)) ∧ ((a p = 2 ∨ a p = 3 ∨ a p = 4 ∨ a p = 5 ∨ a p = 8 ∨ a p = 9) → t p = hh (p * 5 + 3)) ∧ ((a p = 7 ∨ a p = 8 ∨ a p = 9 ∨ a p = 10) → h p = hh (p * 5 + 2)) ∧ ((a p = 4 ∨ a p = 9 ∨ a p = 10) → x p = hh (p * 5 + 4))
structure FPI (n M : Nat) (f hh v w a mi t h x : Nat → Int) (hd tl : Int) : Prop where
  e : (M : Int) = f 82
  e0 : hd = f 0
  e1 : tl = f 1
  ov : ∀ k, k < M → v k = f (42 + k)
  ow : ∀ k, k < M → w k = f (2 + k)
  r : ∀ p, p < n → RelF hh a mi t h x p
theorem rel_f {hh a mi t h x : Nat → Int} {q : Nat} (y : Int) (ha : a q = y) (h0 : hh (q * 5 + 0) = y) (c1 : 1 ≤ y → y ≤ 5 → mi q = hh (q * 5 + 1)) (c2 : (y = 2 ∨ y = 3 ∨ y = 4 ∨ y = 5 ∨ y = 8 ∨ y = 9) → t q = hh (q * 5 + 3)) (c3 : (y = 7 ∨ y = 8 ∨ y = 9 ∨ y = 10) → h q = hh (q * 5 + 2)) (c4 : (y = 4 ∨ y = 9 ∨ y = 10) → x q = hh (q * 5 + 4)) : RelF hh a mi t h x q := by
  subst ha
  exact ⟨h0.symm, c1, c2, c3, c4⟩
set_option maxHeartbeats 2000000 in
theorem fp_sim {n M : Nat} {f hh v w a mi t h x : Nat → Int} {hd tl : Int} {ch : List Nat} {hi ti : Nat} (I : FInv n f hh ch hi ti) (R : FPI n M f hh v w a mi t h x hd tl) {q : Nat} (hq : q < n) (ha : hh (q * 5 + 0) ≠ 0) :
    RfOk M hd a t h x q ∧ (rfStep hd tl v w a mi t h x q).d = (fStep f hh q).2.2.1 ∧ (rfStep hd tl v w a mi t h x q).g = (fStep f hh q).2.2.2 ∧
    FPI n M (fStep f hh q).1 (fStep f hh q).2.1 v (rfStep hd tl v w a mi t h x q).w (rfStep hd tl v w a mi t h x q).a mi (rfStep hd tl v w a mi t h x q).t (rfStep hd tl v w a mi t h x q).h (rfStep hd tl v w a mi t h x q).x (rfStep hd tl v w a mi t h x q).hd (rfStep hd tl v w a mi t h x q).tl := by
  have Hq := I.q q hq
  unfold fHd at Hq
  have r := Hq.r
  have B := I.b
  have m0 := B.m0
  have m40 := B.m1
  obtain ⟨oe, oe0, oe1, ov, ow, oR⟩ := R
  obtain ⟨q0, qm, qt, qh, qx⟩ := oR q hq
  have chM : ∀ {i y : Nat}, ch[i]? = some y → y < M := fun {i y} hy => by have := B.lt y (List.mem_of_getElem? hy); omega
  -- the others
  have oth : ∀ {h2 a2 t2 hx2 x2 : Nat → Int}, (∀ p j, p ≠ q → j < 5 → h2 (p * 5 + j) = hh (p * 5 + j)) → (∀ p, p ≠ q → a2 p = a p) → (∀ p, p ≠ q → t2 p = t p) → (∀ p, p ≠ q → hx2 p = h p) → (∀ p, p ≠ q → x2 p = x p) → RelF h2 a2 mi t2 hx2 x2 q → ∀ p, p < n → RelF h2 a2 mi t2 hx2 x2 p := by
    intro h2 a2 t2 hx2 x2 c1 c2 c3 c4 c5 c6 p hp
    by_cases hpq : p = q
    · subst hpq; exact c6
    · have := oR p hp
      unfold RelF at this ⊢
      rw [c1 p 0 hpq (by omega), c1 p 1 hpq (by omega), c1 p 2 hpq (by omega), c1 p 3 hpq (by omega), c1 p 4 hpq (by omega), c2 p hpq, c3 p hpq, c4 p hpq, c5 p hpq]
      exact this
  have u : ∀ {g : Nat → Int} {y : Int}, ∀ p, p ≠ q → updN g q y p = g p := fun {g y} p hp => updN_ne hp
  have id0 : ∀ {g : Nat → Int}, ∀ p, p ≠ q → g p = g p := fun {g} p _ => rfl
  have e1 : ∀ {i : Nat} {v w : Int}, i < 5 → i ≠ 0 → updN (updN hh (q * 5 + i) v) (q * 5 + 0) w (q * 5 + i) = v := fun {i v w} _ hi => by rw [updH_ne2 hi, updN_same]
  have e2 : ∀ {i j : Nat} {v w : Int}, j ≠ 0 → j ≠ i → updN (updN hh (q * 5 + i) v) (q * 5 + 0) w (q * 5 + j) = hh (q * 5 + j) := fun {i j v w} h1 h2 => by rw [updH_ne2 h1, updH_ne2 h2]
  have s1 : ∀ {i : Nat} {v w : Int}, i < 5 → ∀ p j, p ≠ q → j < 5 → updN (updN hh (q * 5 + i) v) (q * 5 + 0) w (p * 5 + j) = hh (p * 5 + j) := fun {i v w} hi p j hp hj => by rw [updH_ne hp (by omega) hj, updH_ne hp hi hj]
  have s0 : ∀ {w : Int}, ∀ p j, p ≠ q → j < 5 → updN hh (q * 5 + 0) w (p * 5 + j) = hh (p * 5 + j) := fun {w} p j hp hj => updH_ne hp (by omega) hj
  have sd : ∀ {h2 : Nat → Int}, (∀ p j, p ≠ q → j < 5 → h2 (p * 5 + j) = hh (p * 5 + j)) → ∀ p j, p ≠ q → j < 5 → fDone h2 q (p * 5 + j) = hh (p * 5 + j) := fun {h2} hs p j hp hj => by rw [fDone, fHand_ne hp hj]; exact hs p j hp hj
  have d0 : ∀ {h2 : Nat → Int}, fDone h2 q (q * 5 + 0) = 0 := fun {h2} => by rw [fDone, fHand_same (by omega)]; rfl
  have zr : ∀ {h2 a2 t2 hx2 x2 : Nat → Int}, RelF (fDone h2 q) (updN a2 q 0) mi t2 hx2 x2 q := fun {h2 a2 t2 hx2 x2} => rel_f 0 (updN_same _ _ _) d0 (fun h => by omega) (fun h => by omega) (fun h => by omega) (fun h => by omega)
  have ft : ∀ y : Int, (M : Int) = updN f 1 y 82 ∧ hd = updN f 1 y 0 ∧ (∀ k, k < M → v k = updN f 1 y (42 + k)) ∧ (∀ k, k < M → w k = updN f 1 y (2 + k)) := fun y => ⟨by rw [updN_ne (by omega)]; exact oe, by rw [updN_ne (by omega)]; exact oe0, fun k hk => by rw [updN_ne (by omega)]; exact ov k hk, fun k hk => by rw [updN_ne (by omega)]; exact ow k hk⟩
  have cases : hh (q * 5 + 0) = 1 ∨ hh (q * 5 + 0) = 2 ∨ hh (q * 5 + 0) = 3 ∨ hh (q * 5 + 0) = 4 ∨ hh (q * 5 + 0) = 5 ∨ hh (q * 5 + 0) = 6 ∨ hh (q * 5 + 0) = 7 ∨ hh (q * 5 + 0) = 8 ∨ hh (q * 5 + 0) = 9 ∨ hh (q * 5 + 0) = 10 := by omega
  have rok : RfOk M hd a t h x q := by
    refine ⟨by omega, fun hc => ?_, fun hc => ?_, fun hc _ => ?_⟩
    · obtain ⟨i, y, g1, g2, _⟩ := Hq.t (by omega)
      have := chM g1
      rw [qt (by omega)]; omega
    · obtain ⟨i, j, y, z, g1, _, g3, _⟩ := Hq.d8 (by omega)
      have := chM g1
      rw [qh (by omega)]; omega
    · obtain ⟨i, y, z, _, g2, _, g4, _⟩ := Hq.d10 (by omega)
      have := chM g2
      rw [qx (by omega)]; omega
  refine ⟨rok, ?_⟩
  rcases cases with b | b | b | b | b | b | b | b | b | b
  · have aq : a q = 1 := by omega
    have S : fStep f hh q = (f, updN (updN hh (q * 5 + 3) (f 1)) (q * 5 + 0) 2, false, 0) := by simp only [Nat.add_zero] at b ⊢; simp [fStep, b]
    have er : rfStep hd tl v w a mi t h x q = ⟨hd, tl, w, updN a q 2, updN t q tl, h, x, false, 0⟩ := by simp [rfStep, aq]
    rw [S, er]
    exact ⟨rfl, rfl, oe, oe0, oe1, ov, ow, oth (s1 (by omega)) u u id0 id0 (rel_f 2 (updN_same _ _ _) (updN_same _ _ _) (fun _ _ => by dsimp only; rw [e2 (by omega) (by omega)]; exact qm (by omega) (by omega)) (fun _ => by dsimp only; rw [e1 (by omega) (by omega), updN_same, oe1]) (fun h => by omega) (fun h => by omega))⟩
  · have aq : a q = 2 := by omega
    obtain ⟨i, y, g1, g2, g3⟩ := Hq.t (.inl b)
    have hy := chM g1
    have tq := qt (by omega)
    have et : (t q).toNat = y := by omega
    have et2 : (hh (q * 5 + 3)).toNat = y := by omega
    have wy := ow y hy
    by_cases hc : f (2 + y) ≥ 0
    · have S : fStep f hh q = (f, updN (updN hh (q * 5 + 4) (f (2 + y))) (q * 5 + 0) 4, false, 0) := by simp only [Nat.add_zero] at b ⊢; simp [fStep, b, et2, hc]
      have er : rfStep hd tl v w a mi t h x q = ⟨hd, tl, w, updN a q 4, t, h, updN x q (w y), false, 0⟩ := by
        have : w y ≥ 0 := by omega
        simp [rfStep, aq, et, this]
      rw [S, er]
      exact ⟨rfl, rfl, oe, oe0, oe1, ov, ow, oth (s1 (by omega)) u id0 id0 u (rel_f 4 (updN_same _ _ _) (updN_same _ _ _) (fun _ _ => by dsimp only; rw [e2 (by omega) (by omega)]; exact qm (by omega) (by omega)) (fun _ => by dsimp only; rw [e2 (by omega) (by omega)]; exact tq) (fun h => by omega) (fun _ => by dsimp only; rw [e1 (by omega) (by omega), updN_same, wy]))⟩
    · have S : fStep f hh q = (f, updN (updN hh (q * 5 + 4) (f (2 + y))) (q * 5 + 0) 3, false, 0) := by simp only [Nat.add_zero] at b ⊢; simp [fStep, b, et2, hc]
      have er : rfStep hd tl v w a mi t h x q = ⟨hd, tl, w, updN a q 3, t, h, updN x q (w y), false, 0⟩ := by
        have : ¬ w y ≥ 0 := by omega
        simp [rfStep, aq, et, this]
      rw [S, er]
      exact ⟨rfl, rfl, oe, oe0, oe1, ov, ow, oth (s1 (by omega)) u id0 id0 u (rel_f 3 (updN_same _ _ _) (updN_same _ _ _) (fun _ _ => by dsimp only; rw [e2 (by omega) (by omega)]; exact qm (by omega) (by omega)) (fun _ => by dsimp only; rw [e2 (by omega) (by omega)]; exact tq) (fun h => by omega) (fun h => by omega))⟩
  · have aq : a q = 3 := by omega
    obtain ⟨i, y, g1, g2, g3⟩ := Hq.t (.inr b)
    have hy := chM g1
    have tq := qt (by omega)
    have et : (t q).toNat = y := by omega
    have et2 : (hh (q * 5 + 3)).toNat = y := by omega
    have wy := ow y hy
    have y40 := B.x40 g1
    rcases B.next g1 with ⟨hl, hn⟩ | ⟨z, hz, hn⟩
    · have S : fStep f hh q = (updN f (2 + y) (hh (q * 5 + 1)), updN hh (q * 5 + 0) 5, false, 0) := by simp only [Nat.add_zero] at b ⊢; simp [fStep, b, et2, hn]
      have er : rfStep hd tl v w a mi t h x q = ⟨hd, tl, updN w y (mi q), updN a q 5, t, h, x, false, 0⟩ := by
        have : ¬ w y ≥ 0 := by omega
        simp [rfStep, aq, et, this]
      rw [S, er]
      refine ⟨rfl, rfl, by dsimp only; rw [updN_ne (by omega)]; exact oe, by dsimp only; rw [updN_ne (by omega)]; exact oe0, by dsimp only; rw [updN_ne (by omega)]; exact oe1, fun k hk => by dsimp only; rw [updN_ne (by omega)]; exact ov k hk, fun k hk => ?_, oth s0 u id0 id0 id0 (rel_f 5 (updN_same _ _ _) (updN_same _ _ _) (fun _ _ => by dsimp only; rw [updH_ne2 (by omega)]; exact qm (by omega) (by omega)) (fun _ => by dsimp only; rw [updH_ne2 (by omega)]; exact tq) (fun h => by omega) (fun h => by omega))⟩
      dsimp only
      by_cases hky : k = y
      · subst hky; rw [updN_same, updN_same]; exact qm (by omega) (by omega)
      · rw [updN_ne hky, updN_ne (by omega)]; exact ow k hk
    · have hne : ¬ (z : Int) = -1 := by omega
      have S : fStep f hh q = (f, updN hh (q * 5 + 0) 1, false, 0) := by simp only [Nat.add_zero] at b ⊢; simp [fStep, b, et2, hn, hne]
      have er : rfStep hd tl v w a mi t h x q = ⟨hd, tl, w, updN a q 1, t, h, x, false, 0⟩ := by
        have : w y ≥ 0 := by omega
        simp [rfStep, aq, et, this]
      rw [S, er]
      exact ⟨rfl, rfl, oe, oe0, oe1, ov, ow, oth s0 u id0 id0 id0 (rel_f 1 (updN_same _ _ _) (updN_same _ _ _) (fun _ _ => by dsimp only; rw [updH_ne2 (by omega)]; exact qm (by omega) (by omega)) (fun h => by omega) (fun h => by omega) (fun h => by omega))⟩
  · have aq : a q = 4 := by omega
    have tq := qt (by omega)
    have xq := qx (by omega)
    by_cases hc : f 1 = hh (q * 5 + 3)
    · have S : fStep f hh q = (updN f 1 (hh (q * 5 + 4)), updN hh (q * 5 + 0) 1, false, 0) := by simp only [Nat.add_zero] at b ⊢; simp [fStep, b, hc]
      have er : rfStep hd tl v w a mi t h x q = ⟨hd, x q, w, updN a q 1, t, h, x, false, 0⟩ := by
        have : tl = t q := by omega
        simp [rfStep, aq, this]
      rw [S, er]
      exact ⟨rfl, rfl, (ft (hh (q * 5 + 4))).1, (ft (hh (q * 5 + 4))).2.1, by dsimp only; rw [updN_same, xq], (ft (hh (q * 5 + 4))).2.2.1, (ft (hh (q * 5 + 4))).2.2.2, oth s0 u id0 id0 id0 (rel_f 1 (updN_same _ _ _) (updN_same _ _ _) (fun _ _ => by dsimp only; rw [updH_ne2 (by omega)]; exact qm (by omega) (by omega)) (fun h => by omega) (fun h => by omega) (fun h => by omega))⟩
    · have S : fStep f hh q = (f, updN hh (q * 5 + 0) 1, false, 0) := by simp only [Nat.add_zero] at b ⊢; simp [fStep, b, hc]
      have er : rfStep hd tl v w a mi t h x q = ⟨hd, tl, w, updN a q 1, t, h, x, false, 0⟩ := by
        have : ¬ tl = t q := by omega
        simp [rfStep, aq, this]
      rw [S, er]
      exact ⟨rfl, rfl, oe, oe0, oe1, ov, ow, oth s0 u id0 id0 id0 (rel_f 1 (updN_same _ _ _) (updN_same _ _ _) (fun _ _ => by dsimp only; rw [updH_ne2 (by omega)]; exact qm (by omega) (by omega)) (fun h => by omega) (fun h => by omega) (fun h => by omega))⟩
  · have aq : a q = 5 := by omega
    have tq := qt (by omega)
    have mq := qm (by omega) (by omega)
    by_cases hc : f 1 = hh (q * 5 + 3)
    · have S : fStep f hh q = (updN f 1 (hh (q * 5 + 1)), fDone hh q, true, -1) := by simp only [Nat.add_zero] at b ⊢; simp [fStep, b, hc]
      have er : rfStep hd tl v w a mi t h x q = ⟨hd, mi q, w, updN a q 0, t, h, x, true, -1⟩ := by
        have : tl = t q := by omega
        simp [rfStep, aq, this]
      rw [S, er]
      exact ⟨rfl, rfl, (ft (hh (q * 5 + 1))).1, (ft (hh (q * 5 + 1))).2.1, by dsimp only; rw [updN_same, mq], (ft (hh (q * 5 + 1))).2.2.1, (ft (hh (q * 5 + 1))).2.2.2, oth (sd fun _ _ _ _ => rfl) u id0 id0 id0 zr⟩
    · have S : fStep f hh q = (f, fDone hh q, true, -1) := by simp only [Nat.add_zero] at b ⊢; simp [fStep, b, hc]
      have er : rfStep hd tl v w a mi t h x q = ⟨hd, tl, w, updN a q 0, t, h, x, true, -1⟩ := by
        have : ¬ tl = t q := by omega
        simp [rfStep, aq, this]
      rw [S, er]
      exact ⟨rfl, rfl, oe, oe0, oe1, ov, ow, oth (sd fun _ _ _ _ => rfl) u id0 id0 id0 zr⟩
  · have aq : a q = 6 := by omega
    have S : fStep f hh q = (f, updN (updN hh (q * 5 + 2) (f 0)) (q * 5 + 0) 7, false, 0) := by simp only [Nat.add_zero] at b ⊢; simp [fStep, b]
    have er : rfStep hd tl v w a mi t h x q = ⟨hd, tl, w, updN a q 7, t, updN h q hd, x, false, 0⟩ := by simp [rfStep, aq]
    rw [S, er]
    exact ⟨rfl, rfl, oe, oe0, oe1, ov, ow, oth (s1 (by omega)) u id0 u id0 (rel_f 7 (updN_same _ _ _) (updN_same _ _ _) (fun _ h => by omega) (fun h => by omega) (fun _ => by dsimp only; rw [e1 (by omega) (by omega), updN_same, oe0]) (fun h => by omega))⟩
  · have aq : a q = 7 := by omega
    have hq' := qh (by omega)
    have S : fStep f hh q = (f, updN (updN hh (q * 5 + 3) (f 1)) (q * 5 + 0) 8, false, 0) := by simp only [Nat.add_zero] at b ⊢; simp [fStep, b]
    have er : rfStep hd tl v w a mi t h x q = ⟨hd, tl, w, updN a q 8, updN t q tl, h, x, false, 0⟩ := by simp [rfStep, aq]
    rw [S, er]
    exact ⟨rfl, rfl, oe, oe0, oe1, ov, ow, oth (s1 (by omega)) u u id0 id0 (rel_f 8 (updN_same _ _ _) (updN_same _ _ _) (fun _ h => by omega) (fun _ => by dsimp only; rw [e1 (by omega) (by omega), updN_same, oe1]) (fun _ => by dsimp only; rw [e2 (by omega) (by omega)]; exact hq') (fun h => by omega))⟩
  · have aq : a q = 8 := by omega
    obtain ⟨i, j, y, z, g1, g2, g3, g4, g5, g6, g7⟩ := Hq.d8 b
    have hy := chM g1
    have hq' := qh (by omega)
    have tq := qt (by omega)
    have eh : (h q).toNat = y := by omega
    have eh2 : (hh (q * 5 + 2)).toNat = y := by omega
    have wy := ow y hy
    by_cases hd' : hh (q * 5 + 2) = hh (q * 5 + 3)
    · have hd2 : h q = t q := by omega
      by_cases hc : f (2 + y) < 0
      · have ey : (hh (q * 5 + 3)).toNat = y := by omega
        have S : fStep f hh q = (f, fDone (updN hh (q * 5 + 4) (f (2 + y))) q, true, -1) := by simp only [Nat.add_zero] at b ⊢; simp [fStep, b, ey, hd', hc]
        have er : rfStep hd tl v w a mi t h x q = ⟨hd, tl, w, updN a q 0, t, h, updN x q (w y), true, -1⟩ := by
          have h1 : w y < 0 := by omega
          have h2 : (t q).toNat = y := by omega
          simp [rfStep, aq, hd2, h2, h1]
        rw [S, er]
        exact ⟨rfl, rfl, oe, oe0, oe1, ov, ow, oth (sd fun p j hp hj => updH_ne hp (by omega) hj) u id0 id0 u zr⟩
      · have ey : (hh (q * 5 + 3)).toNat = y := by omega
        have S : fStep f hh q = (f, updN (updN hh (q * 5 + 4) (f (2 + y))) (q * 5 + 0) 9, false, 0) := by simp only [Nat.add_zero] at b ⊢; simp [fStep, b, ey, hd', hc]
        have er : rfStep hd tl v w a mi t h x q = ⟨hd, tl, w, updN a q 9, t, h, updN x q (w y), false, 0⟩ := by
          have h1 : ¬ w y < 0 := by omega
          have h2 : (t q).toNat = y := by omega
          simp [rfStep, aq, hd2, h2, h1]
        rw [S, er]
        exact ⟨rfl, rfl, oe, oe0, oe1, ov, ow, oth (s1 (by omega)) u id0 id0 u (rel_f 9 (updN_same _ _ _) (updN_same _ _ _) (fun _ h => by omega) (fun _ => by dsimp only; rw [e2 (by omega) (by omega)]; exact tq) (fun _ => by dsimp only; rw [e2 (by omega) (by omega)]; exact hq') (fun _ => by dsimp only; rw [e1 (by omega) (by omega), updN_same, wy]))⟩
    · have hd2 : ¬ h q = t q := by omega
      have S : fStep f hh q = (f, updN (updN hh (q * 5 + 4) (f (2 + y))) (q * 5 + 0) 10, false, 0) := by simp only [Nat.add_zero] at b ⊢; simp [fStep, b, eh2, hd']
      have er : rfStep hd tl v w a mi t h x q = ⟨hd, tl, w, updN a q 10, t, h, updN x q (w y), false, 0⟩ := by simp [rfStep, aq, hd2, eh]
      rw [S, er]
      exact ⟨rfl, rfl, oe, oe0, oe1, ov, ow, oth (s1 (by omega)) u id0 id0 u (rel_f 10 (updN_same _ _ _) (updN_same _ _ _) (fun _ h => by omega) (fun h => by omega) (fun _ => by dsimp only; rw [e2 (by omega) (by omega)]; exact hq') (fun _ => by dsimp only; rw [e1 (by omega) (by omega), updN_same, wy]))⟩
  · have aq : a q = 9 := by omega
    have tq := qt (by omega)
    have xq := qx (by omega)
    by_cases hc : f 1 = hh (q * 5 + 3)
    · have S : fStep f hh q = (updN f 1 (hh (q * 5 + 4)), updN hh (q * 5 + 0) 6, false, 0) := by simp only [Nat.add_zero] at b ⊢; simp [fStep, b, hc]
      have er : rfStep hd tl v w a mi t h x q = ⟨hd, x q, w, updN a q 6, t, h, x, false, 0⟩ := by
        have : tl = t q := by omega
        simp [rfStep, aq, this]
      rw [S, er]
      exact ⟨rfl, rfl, (ft (hh (q * 5 + 4))).1, (ft (hh (q * 5 + 4))).2.1, by dsimp only; rw [updN_same, xq], (ft (hh (q * 5 + 4))).2.2.1, (ft (hh (q * 5 + 4))).2.2.2, oth s0 u id0 id0 id0 (rel_f 6 (updN_same _ _ _) (updN_same _ _ _) (fun _ h => by omega) (fun h => by omega) (fun h => by omega) (fun h => by omega))⟩
    · have S : fStep f hh q = (f, updN hh (q * 5 + 0) 6, false, 0) := by simp only [Nat.add_zero] at b ⊢; simp [fStep, b, hc]
      have er : rfStep hd tl v w a mi t h x q = ⟨hd, tl, w, updN a q 6, t, h, x, false, 0⟩ := by
        have : ¬ tl = t q := by omega
        simp [rfStep, aq, this]
      rw [S, er]
      exact ⟨rfl, rfl, oe, oe0, oe1, ov, ow, oth s0 u id0 id0 id0 (rel_f 6 (updN_same _ _ _) (updN_same _ _ _) (fun _ h => by omega) (fun h => by omega) (fun h => by omega) (fun h => by omega))⟩
  · have aq : a q = 10 := by omega
    obtain ⟨i, y, z, g1, g2, g3, g4, g5⟩ := Hq.d10 b
    have hz := chM g2
    have hq' := qh (by omega)
    have xq := qx (by omega)
    by_cases hc : f 0 = hh (q * 5 + 2)
    · have ez : (hh (q * 5 + 4)).toNat = z := by omega
      have ez2 : (x q).toNat = z := by omega
      have S : fStep f hh q = (updN f 0 z, fDone hh q, true, f (42 + z)) := by
        have : updN f 0 (z : Int) (42 + z) = f (42 + z) := updN_ne (by omega)
        simp only [Nat.add_zero] at b ⊢; simp [fStep, b, hc, g4, this]
      have er : rfStep hd tl v w a mi t h x q = ⟨x q, tl, w, updN a q 0, t, h, x, true, v z⟩ := by
        have : hd = h q := by omega
        simp [rfStep, aq, this, ez2]
      rw [S, er]
      exact ⟨rfl, ov z hz, by dsimp only; rw [updN_ne (by omega)]; exact oe, by dsimp only; rw [updN_same]; omega, by dsimp only; rw [updN_ne (by omega)]; exact oe1, fun k hk => by dsimp only; rw [updN_ne (by omega)]; exact ov k hk, fun k hk => by dsimp only; rw [updN_ne (by omega)]; exact ow k hk, oth (sd fun _ _ _ _ => rfl) u id0 id0 id0 zr⟩
    · have S : fStep f hh q = (f, updN hh (q * 5 + 0) 6, false, 0) := by simp only [Nat.add_zero] at b ⊢; simp [fStep, b, hc]
      have er : rfStep hd tl v w a mi t h x q = ⟨hd, tl, w, updN a q 6, t, h, x, false, 0⟩ := by
        have : ¬ hd = h q := by omega
        simp [rfStep, aq, this]
      rw [S, er]
      exact ⟨rfl, rfl, oe, oe0, oe1, ov, ow, oth s0 u id0 id0 id0 (rel_f 6 (updN_same _ _ _) (updN_same _ _ _) (fun _ h => by omega) (fun h => by omega) (fun h => by omega) (fun h => by omega))⟩
end Go.Proofs.YtogbkgimpkaemaaDoor
