import Derived.Test.YtiaopgnnibidlaaDoorDw
namespace Go.Proofs.YtiaopgnnibidlaaDoor
open Go.Eng
set_option maxRecDepth 20000
/-! ### the lines one by one -/
theorem dE0 {f h : Nat → Int} {q : Nat} (a : h (q * 4) = 0) : dStepE f h q = (f, h, false, 0, 7) := by simp [dStepE, a]
theorem dE1f {f h : Nat → Int} {q : Nat} (a : h (q * 4) = 1) (c : f 9 - f 8 ≥ 8) : dStepE f h q = (f, dDone h q, true, -2, 0) := by simp [dStepE, dStep, a, c]
theorem dE1 {f h : Nat → Int} {q : Nat} (a : h (q * 4) = 1) (c : ¬ f 9 - f 8 ≥ 8) : dStepE f h q = (f, updN h (q * 4) 2, false, 0, 0) := by simp [dStepE, dStep, a, c]
theorem dE2 {f h : Nat → Int} {q : Nat} (a : h (q * 4) = 2) : dStepE f h q = (updN f ((f 9).toNat % 8) (h (q * 4 + 1)), updN h (q * 4) 3, false, 0, 0) := by simp [dStepE, dStep, a]
theorem dE3 {f h : Nat → Int} {q : Nat} (a : h (q * 4) = 3) : dStepE f h q = (updN f 9 (f 9 + 1), dDone h q, true, -1, 0) := by simp [dStepE, dStep, a]
theorem dE4 {f h : Nat → Int} {q : Nat} (a : h (q * 4) = 4) : dStepE f h q = (updN f 9 (f 9 - 1), updN (updN h (q * 4 + 3) (f 9 - 1)) (q * 4) 5, false, 0, 0) := by simp [dStepE, dStep, a]
theorem dDone_upd {h : Nat → Int} {q j : Nat} {v : Int} (hj : j < 4) : dDone (updN h (q * 4 + j) v) q = dDone h q := by
  funext k
  unfold dDone
  split
  · rfl
  · exact updN_ne (by omega)
theorem dE5a {f h : Nat → Int} {q : Nat} (a : h (q * 4) = 5) (c : h (q * 4 + 3) > f 8) : dStepE f h q = (f, dDone h q, true, f ((h (q * 4 + 3)).toNat % 8), 0) := by
  simp [dStepE, dStep, a, c, dDone_upd]
theorem dE5b {f h : Nat → Int} {q : Nat} (a : h (q * 4) = 5) (c : h (q * 4 + 3) = f 8) : dStepE f h q = (f, updN (updN h (q * 4 + 2) (f 8)) (q * 4) 7, false, 0, 0) := by simp [dStepE, dStep, a, c]
theorem dE5c {f h : Nat → Int} {q : Nat} (a : h (q * 4) = 5) (c : h (q * 4 + 3) < f 8) : dStepE f h q = (f, updN (updN h (q * 4 + 2) (f 8)) (q * 4) 6, false, 0, 0) := by
  simp [dStepE, dStep, a, show ¬ h (q * 4 + 3) > f 8 by omega, show ¬ h (q * 4 + 3) = f 8 by omega]
theorem dE6 {f h : Nat → Int} {q : Nat} (a : h (q * 4) = 6) : dStepE f h q = (updN f 9 (h (q * 4 + 2)), dDone h q, true, -1, 0) := by simp [dStepE, dStep, a]
theorem updN_upd {h : Nat → Int} {k : Nat} {u v : Int} : updN (updN h k u) k v = updN h k v := by
  funext j
  by_cases hj : j = k
  · subst hj; rw [updN_same, updN_same]
  · rw [updN_ne hj, updN_ne hj, updN_ne hj]
theorem dE7a {f h : Nat → Int} {q : Nat} (a : h (q * 4) = 7) (c : f 8 = h (q * 4 + 2)) : dStepE f h q = (updN f 8 (h (q * 4 + 2) + 1), updN (updN h (q * 4 + 1) (f ((h (q * 4 + 3)).toNat % 8))) (q * 4) 8, false, 0, 0) := by
  simp [dStepE, dStep, a, c, updN_upd]
theorem dE7b {f h : Nat → Int} {q : Nat} (a : h (q * 4) = 7) (c : ¬ f 8 = h (q * 4 + 2)) : dStepE f h q = (f, updN (updN h (q * 4 + 1) (-1)) (q * 4) 8, false, 0, 0) := by simp [dStepE, dStep, a, c]
theorem dE8 {f h : Nat → Int} {q : Nat} (a : h (q * 4) = 8) : dStepE f h q = (updN f 9 (h (q * 4 + 2) + 1), dDone h q, true, h (q * 4 + 1), 0) := by simp [dStepE, dStep, a]
theorem dE9 {f h : Nat → Int} {q : Nat} (a : h (q * 4) = 9) : dStepE f h q = (f, updN (updN h (q * 4 + 2) (f 8)) (q * 4) 10, false, 0, 0) := by simp [dStepE, dStep, a]
theorem dE10a {f h : Nat → Int} {q : Nat} (a : h (q * 4) = 10) (c : f 9 ≤ h (q * 4 + 2)) : dStepE f h q = (f, dDone h q, true, -1, 0) := by simp [dStepE, dStep, a, c]
theorem dE10b {f h : Nat → Int} {q : Nat} (a : h (q * 4) = 10) (c : ¬ f 9 ≤ h (q * 4 + 2)) : dStepE f h q = (f, updN h (q * 4) 11, false, 0, 0) := by simp [dStepE, dStep, a, c]
theorem dE11 {f h : Nat → Int} {q : Nat} (a : h (q * 4) = 11) : dStepE f h q = (f, updN (updN h (q * 4 + 1) (f ((h (q * 4 + 2)).toNat % 8))) (q * 4) 12, false, 0, 0) := by simp [dStepE, dStep, a]
theorem dE12a {f h : Nat → Int} {q : Nat} (a : h (q * 4) = 12) (c : f 8 = h (q * 4 + 2)) : dStepE f h q = (updN f 8 (h (q * 4 + 2) + 1), dDone h q, true, h (q * 4 + 1), 0) := by simp [dStepE, dStep, a, c]
theorem dE12b {f h : Nat → Int} {q : Nat} (a : h (q * 4) = 12) (c : ¬ f 8 = h (q * 4 + 2)) : dStepE f h q = (f, dDone h q, true, -2, 0) := by simp [dStepE, dStep, a, c]
theorem dDone_in {h : Nat → Int} {q j : Nat} (hj : j < 4) : dDone h q (q * 4 + j) = 0 := if_pos ⟨by omega, by omega⟩
theorem dDone_at {h : Nat → Int} {q : Nat} : dDone h q (q * 4) = 0 := if_pos ⟨by omega, by omega⟩
theorem dDone_out {h : Nat → Int} {q k j : Nat} (hk : k ≠ q) (hj : j < 4) : dDone h q (k * 4 + j) = h (k * 4 + j) := if_neg (by omega)
theorem updN_out {h : Nat → Int} {q k i j : Nat} {v : Int} (hk : k ≠ q) (hj : j < 4) (hi : i < 4) : updN h (q * 4 + i) v (k * 4 + j) = h (k * 4 + j) := updN_ne (by omega)

/-! ### alone -/
structure Al (B : Int) (f h : Nat → Int) (has : List Int) : Prop where
  b1 : Bnd B f
  b2 : Bnd B h
  h0 : h 0 = 0
  t : 0 ≤ f 8
  b : f 9 = f 8 + has.length
  l : has.length ≤ 8
  v : ∀ j, j < has.length → f ((f 8 + j).toNat % 8) = gI has j
def DRun : Nat → (Nat → Int) → (Nat → Int) → (Nat → Int) → (Nat → Int) → Int → Prop
  | 0, _, _, _, _, _ => False
  | d + 1, f, h, f', h', g => DOk f h 0 ∧ (dStepE f h 0 = (f', h', true, g, 0) ∨ ∃ f1 h1, dStepE f h 0 = (f1, h1, false, 0, 0) ∧ DRun d f1 h1 f' h' g)
theorem Bnd.begin {B : Int} {h : Nat → Int} {q : Nat} {a v : Int} (hb : Bnd B h) (hB : 20 ≤ B) (ha : 0 ≤ a ∧ a ≤ 20) (hv : -B ≤ v ∧ v ≤ B) : Bnd B (dBegin h q a v) := fun k => by
  unfold dBegin
  split
  · rename_i hk
    obtain ⟨d, rfl⟩ : ∃ d, k = q * 4 + d := ⟨k - q * 4, by omega⟩
    rw [show q * 4 + d - q * 4 = d by omega]
    obtain rfl | rfl | rfl | rfl : d = 0 ∨ d = 1 ∨ d = 2 ∨ d = 3 := by omega
    · exact ⟨by show -B ≤ a; omega, by show a ≤ B; omega⟩
    · exact hv
    · exact ⟨by show -B ≤ (0 : Int); omega, by show (0 : Int) ≤ B; omega⟩
    · exact ⟨by show -B ≤ (0 : Int); omega, by show (0 : Int) ≤ B; omega⟩
  · exact hb k
theorem Bnd.step {B : Int} {f h f' h' : Nat → Int} {q : Nat} {b : Bool} {g e : Int} (hf : Bnd B f) (hh : Bnd B h) (hB : 20 ≤ B) (he : dStepE f h q = (f', h', b, g, e)) : Bnd (B + 1) f' ∧ Bnd (B + 1) h' := by
  have := dStepE_bnd hf hh hB q
  rw [he] at this
  exact this
theorem Bnd.ok {B : Int} {f h : Nat → Int} {q : Nat} (hf : Bnd B f) (hh : Bnd B h) (hB : B ≤ 1000000) (t : 0 ≤ f 8) (l2 : h (q * 4) = 2 → 0 ≤ f 9) (l7 : h (q * 4) = 7 → 0 ≤ h (q * 4 + 3)) (l11 : h (q * 4) = 11 → 0 ≤ h (q * 4 + 2)) : DOk f h q :=
  ⟨fun k => by have := hf k; omega, fun k => by have := hh k; omega, t, l2, l7, l11⟩
theorem gI_app_l {a b : List Int} {j : Nat} (h : j < a.length) : gI (a ++ b) j = gI a j := by unfold gI; rw [List.getElem?_append_left h]
theorem gI_app_one {a : List Int} {v : Int} : gI (a ++ [v]) a.length = v := by unfold gI; simp
theorem al_push {B : Int} {f h : Nat → Int} {has : List Int} {v : Int} (hs : Al B f h has) (h1 : 200 ≤ B) (h2 : B ≤ 100000) (hv : 0 ≤ v ∧ v ≤ 100) :
    ∃ f' h', DRun 3 f (dBegin h 0 1 v) f' h' (if has.length = 8 then -2 else -1) ∧ Al (B + 4) f' h' (if has.length = 8 then has else has ++ [v]) := by
  obtain ⟨b1, b2, h0, t, b, l, vv⟩ := hs
  have c2 : Bnd B (dBegin h 0 1 v) := b2.begin (by omega) (by omega) (by omega)
  have a1 : dBegin h 0 1 v (0 * 4) = 1 := rfl
  have a2 : dBegin h 0 1 v (0 * 4 + 1) = v := rfl
  generalize dBegin h 0 1 v = g at c2 a1 a2
  have o1 : DOk f g 0 := b1.ok c2 (by omega) t (fun h => by rw [a1] at h; omega) (fun h => by rw [a1] at h; omega) (fun h => by rw [a1] at h; omega)
  by_cases h8 : has.length = 8
  · rw [if_pos h8, if_pos h8]
    have e := dE1f (f := f) a1 (by omega)
    obtain ⟨d1, d2⟩ := b1.step c2 (by omega) e
    exact ⟨_, _, ⟨o1, .inl e⟩, d1.mono (by omega), d2.mono (by omega), dDone_at (q := 0), t, b, l, vv⟩
  · rw [if_neg h8, if_neg h8]
    have e := dE1 (f := f) a1 (by omega)
    obtain ⟨d1, d2⟩ := b1.step c2 (by omega) e
    have x1 : updN g (0 * 4) 2 (0 * 4) = 2 := updN_same _ _ _
    have x2 : updN g (0 * 4) 2 (0 * 4 + 1) = v := by rw [updN_ne (by omega)]; exact a2
    generalize updN g (0 * 4) 2 = g1 at e d2 x1 x2
    have o2 : DOk f g1 0 := d1.ok d2 (by omega) t (fun _ => by omega) (fun h => by rw [x1] at h; omega) (fun h => by rw [x1] at h; omega)
    have e' := dE2 (f := f) x1
    rw [x2] at e'
    obtain ⟨f1, f2⟩ := d1.step d2 (by omega) e'
    have y1 : updN g1 (0 * 4) 3 (0 * 4) = 3 := updN_same _ _ _
    generalize updN g1 (0 * 4) 3 = g2 at e' f2 y1
    have z8 : updN f ((f 9).toNat % 8) v 8 = f 8 := updN_ne (by omega)
    have z9 : updN f ((f 9).toNat % 8) v 9 = f 9 := updN_ne (by omega)
    have zk : ∀ j, j < 8 → updN f ((f 9).toNat % 8) v j = if j = (f 9).toNat % 8 then v else f j := fun j _ => by
      by_cases hj : j = (f 9).toNat % 8
      · rw [if_pos hj, hj, updN_same]
      · rw [if_neg hj, updN_ne hj]
    generalize updN f ((f 9).toNat % 8) v = u at e' f1 z8 z9 zk
    have o3 : DOk u g2 0 := f1.ok f2 (by omega) (by omega) (fun h => by rw [y1] at h; omega) (fun h => by rw [y1] at h; omega) (fun h => by rw [y1] at h; omega)
    have e'' := dE3 (f := u) y1
    obtain ⟨k1, k2⟩ := f1.step f2 (by omega) e''
    have w8 : updN u 9 (u 9 + 1) 8 = u 8 := updN_ne (by omega)
    have w9 : updN u 9 (u 9 + 1) 9 = u 9 + 1 := updN_same _ _ _
    refine ⟨_, _, ⟨o1, .inr ⟨_, _, e, o2, .inr ⟨_, _, e', o3, .inl e''⟩⟩⟩, k1.mono (by omega), k2.mono (by omega), dDone_at (q := 0), by rw [w8]; omega, by rw [w8, w9]; simp; omega, by simp; omega, fun j hj => ?_⟩
    rw [w8, z8, updN_ne (by omega), zk _ (by omega)]
    rw [List.length_append, List.length_singleton] at hj
    by_cases hl : j = has.length
    · rw [if_pos (by rw [b, hl]), hl, gI_app_one]
    · rw [if_neg (by omega), gI_app_l (by omega), vv j (by omega)]
theorem al_pop {B : Int} {f h : Nat → Int} {has : List Int} (hs : Al B f h has) (h1 : 200 ≤ B) (h2 : B ≤ 100000) :
    ∃ f' h', DRun 4 f (dBegin h 0 4 0) f' h' (if has.length = 0 then -1 else gI has (has.length - 1)) ∧ Al (B + 4) f' h' (has.take (has.length - 1)) := by
  obtain ⟨b1, b2, h0, t, b, l, vv⟩ := hs
  have c2 : Bnd B (dBegin h 0 4 0) := b2.begin (by omega) (by omega) (by omega)
  have a1 : dBegin h 0 4 0 (0 * 4) = 4 := rfl
  generalize dBegin h 0 4 0 = g at c2 a1
  have o1 : DOk f g 0 := b1.ok c2 (by omega) t (fun h => by rw [a1] at h; omega) (fun h => by rw [a1] at h; omega) (fun h => by rw [a1] at h; omega)
  have e := dE4 (f := f) a1
  obtain ⟨d1, d2⟩ := b1.step c2 (by omega) e
  have x1 : updN (updN g (0 * 4 + 3) (f 9 - 1)) (0 * 4) 5 (0 * 4) = 5 := updN_same _ _ _
  have x2 : updN (updN g (0 * 4 + 3) (f 9 - 1)) (0 * 4) 5 (0 * 4 + 3) = f 9 - 1 := by rw [updN_ne (by omega), updN_same]
  generalize updN (updN g (0 * 4 + 3) (f 9 - 1)) (0 * 4) 5 = g1 at e d2 x1 x2
  have z8 : updN f 9 (f 9 - 1) 8 = f 8 := updN_ne (by omega)
  have z9 : updN f 9 (f 9 - 1) 9 = f 9 - 1 := updN_same _ _ _
  have zk : ∀ j, j < 8 → updN f 9 (f 9 - 1) j = f j := fun j _ => updN_ne (by omega)
  generalize updN f 9 (f 9 - 1) = u at e d1 z8 z9 zk
  have o2 : DOk u g1 0 := d1.ok d2 (by omega) (by omega) (fun h => by rw [x1] at h; omega) (fun h => by rw [x1] at h; omega) (fun h => by rw [x1] at h; omega)
  have tk : (has.take (has.length - 1)).length = has.length - 1 := by rw [List.length_take]; omega
  by_cases l2 : 2 ≤ has.length
  · rw [if_neg (by omega)]
    have e' := dE5a (f := u) x1 (by rw [x2]; omega)
    obtain ⟨f1, f2⟩ := d1.step d2 (by omega) e'
    have ev : u ((g1 (0 * 4 + 3)).toNat % 8) = gI has (has.length - 1) := by
      rw [x2, zk _ (by omega), ← vv _ (by omega)]
      congr 3; omega
    rw [ev] at e'
    refine ⟨_, _, ⟨o1, .inr ⟨_, _, e, o2, .inl e'⟩⟩, f1.mono (by omega), f2.mono (by omega), dDone_at (q := 0), by omega, by rw [tk]; omega, by omega, fun j hj => ?_⟩
    rw [tk] at hj
    rw [z8, zk _ (by omega), vv j (by omega)]
    unfold gI; rw [List.getElem?_take, if_pos (by omega)]
  by_cases l1 : has.length = 1
  · rw [if_neg (by omega)]
    have e' := dE5b (f := u) x1 (by rw [x2]; omega)
    obtain ⟨f1, f2⟩ := d1.step d2 (by omega) e'
    have y1 : updN (updN g1 (0 * 4 + 2) (u 8)) (0 * 4) 7 (0 * 4) = 7 := updN_same _ _ _
    have y2 : updN (updN g1 (0 * 4 + 2) (u 8)) (0 * 4) 7 (0 * 4 + 2) = u 8 := by rw [updN_ne (by omega), updN_same]
    have y3 : updN (updN g1 (0 * 4 + 2) (u 8)) (0 * 4) 7 (0 * 4 + 3) = f 9 - 1 := by rw [updN_ne (by omega), updN_ne (by omega)]; exact x2
    generalize updN (updN g1 (0 * 4 + 2) (u 8)) (0 * 4) 7 = g2 at e' f2 y1 y2 y3
    have o3 : DOk u g2 0 := f1.ok f2 (by omega) (by omega) (fun h => by rw [y1] at h; omega) (fun _ => by rw [y3]; omega) (fun h => by rw [y1] at h; omega)
    have e7 := dE7a (f := u) y1 (by rw [y2])
    obtain ⟨k1, k2⟩ := f1.step f2 (by omega) e7
    have ev : u ((g2 (0 * 4 + 3)).toNat % 8) = gI has (has.length - 1) := by
      rw [y3, zk _ (by omega), ← vv _ (by omega)]
      congr 3; omega
    rw [ev, y2] at e7
    rw [y2] at k1
    rw [ev] at k2
    have w8 : updN u 8 (u 8 + 1) 8 = u 8 + 1 := updN_same _ _ _
    have w9 : updN u 8 (u 8 + 1) 9 = u 9 := updN_ne (by omega)
    generalize updN u 8 (u 8 + 1) = u2 at e7 k1 w8 w9
    have v1 : updN (updN g2 (0 * 4 + 1) (gI has (has.length - 1))) (0 * 4) 8 (0 * 4) = 8 := updN_same _ _ _
    have v2 : updN (updN g2 (0 * 4 + 1) (gI has (has.length - 1))) (0 * 4) 8 (0 * 4 + 1) = gI has (has.length - 1) := by rw [updN_ne (by omega), updN_same]
    have v3 : updN (updN g2 (0 * 4 + 1) (gI has (has.length - 1))) (0 * 4) 8 (0 * 4 + 2) = u 8 := by rw [updN_ne (by omega), updN_ne (by omega)]; exact y2
    generalize updN (updN g2 (0 * 4 + 1) (gI has (has.length - 1))) (0 * 4) 8 = g3 at e7 k2 v1 v2 v3
    have o4 : DOk u2 g3 0 := k1.ok k2 (by omega) (by omega) (fun h => by rw [v1] at h; omega) (fun h => by rw [v1] at h; omega) (fun h => by rw [v1] at h; omega)
    have e8 := dE8 (f := u2) v1
    obtain ⟨m1, m2⟩ := k1.step k2 (by omega) e8
    rw [v2, v3] at e8
    rw [v3] at m1
    have q8 : updN u2 9 (u 8 + 1) 8 = u2 8 := updN_ne (by omega)
    have q9 : updN u2 9 (u 8 + 1) 9 = u 8 + 1 := updN_same _ _ _
    refine ⟨_, _, ⟨o1, .inr ⟨_, _, e, o2, .inr ⟨_, _, e', o3, .inr ⟨_, _, e7, o4, .inl e8⟩⟩⟩⟩, m1.mono (by omega), m2.mono (by omega), dDone_at (q := 0), by rw [q8]; omega, by rw [q8, q9, tk]; omega, by omega, fun j hj => ?_⟩
    rw [tk] at hj; omega
  · have l0 : has.length = 0 := by omega
    rw [if_pos l0]
    have e' := dE5c (f := u) x1 (by rw [x2]; omega)
    obtain ⟨f1, f2⟩ := d1.step d2 (by omega) e'
    have y1 : updN (updN g1 (0 * 4 + 2) (u 8)) (0 * 4) 6 (0 * 4) = 6 := updN_same _ _ _
    have y2 : updN (updN g1 (0 * 4 + 2) (u 8)) (0 * 4) 6 (0 * 4 + 2) = u 8 := by rw [updN_ne (by omega), updN_same]
    generalize updN (updN g1 (0 * 4 + 2) (u 8)) (0 * 4) 6 = g2 at e' f2 y1 y2
    have o3 : DOk u g2 0 := f1.ok f2 (by omega) (by omega) (fun h => by rw [y1] at h; omega) (fun h => by rw [y1] at h; omega) (fun h => by rw [y1] at h; omega)
    have e6 := dE6 (f := u) y1
    obtain ⟨k1, k2⟩ := f1.step f2 (by omega) e6
    rw [y2] at e6 k1
    have q8 : updN u 9 (u 8) 8 = u 8 := updN_ne (by omega)
    have q9 : updN u 9 (u 8) 9 = u 8 := updN_same _ _ _
    refine ⟨_, _, ⟨o1, .inr ⟨_, _, e, o2, .inr ⟨_, _, e', o3, .inl e6⟩⟩⟩, k1.mono (by omega), k2.mono (by omega), dDone_at (q := 0), by rw [q8]; omega, by rw [q8, q9, tk]; omega, by omega, fun j hj => ?_⟩
    rw [tk] at hj; omega
end Go.Proofs.YtiaopgnnibidlaaDoor
