import Derived.Test.YtogbkgimpkaemaaFa
namespace Go.Proofs.Ytogbkgimpkaemaa
open Go.Eng
set_option maxRecDepth 20000
/-! ### what one put in first comes out first -/
structure FOr (n : Nat) (f h : Nat → Int) (ch : List Nat) (hi : Nat) (by_ got : List Int) : Prop where
  bl : (by_.length : Int) + 1 = f 82
  bn : ∀ (j : Nat) b, by_[j]? = some b → 0 ≤ b ∧ b < n
  v : ∀ k : Nat, 1 ≤ k → (k : Int) < f 82 → f (42 + k) = (k : Int) - 1
  i : ∀ k : Nat, 1 ≤ k → (k : Int) < f 82 → k ∉ ch → ∀ b : Nat, by_[k - 1]? = some (b : Int) → 1 ≤ h (b * 5 + 0) ∧ h (b * 5 + 0) ≤ 4 ∧ h (b * 5 + 1) = k
  mx : ∀ p, p < n → 1 ≤ h (p * 5 + 0) → h (p * 5 + 0) ≤ 4 → ∃ k : Nat, h (p * 5 + 1) = k ∧ 1 ≤ k ∧ by_[k - 1]? = some (p : Int) ∧ ∀ j : Nat, by_[j]? = some (p : Int) → j + 1 ≤ k
  o : ∀ i j x y : Nat, 1 ≤ i → i < j → ch[i]? = some x → ch[j]? = some y → by_[x - 1]? = by_[y - 1]? → x < y
  gl : got.length = hi
  g : ∀ (x : Nat) z, got[x]? = some z → ∃ y : Nat, ch[x + 1]? = some y ∧ z = (y : Int) - 1
theorem FOr.start (n : Nat) : FOr n fF0 (fun _ => 0) [0] 0 [] [] :=
  ⟨by decide, by simp, fun k h1 h2 => by have : fF0 82 = 1 := rfl; omega, fun k h1 h2 => by have : fF0 82 = 1 := rfl; omega, fun p _ h => by omega, fun i j x y h1 h2 h3 => (by rw [List.getElem?_eq_none (by simp; omega)] at h3; cases h3), rfl, by simp⟩
theorem FBase.pos {f : Nat → Int} {ch : List Nat} {hi ti : Nat} (h : FBase f ch hi ti) {i x : Nat} (hi1 : 1 ≤ i) (hx : ch[i]? = some x) : 1 ≤ x := by
  apply Classical.byContradiction
  intro hc
  obtain rfl : x = 0 := by omega
  have := nd_idx h.nd hx h.c0
  omega
theorem FOr.step {n : Nat} {f h f' h' : Nat → Int} {ch ch' : List Nat} {hi ti hi' q : Nat} {by_ got : List Int} {d : Bool} {v : Int} (O : FOr n f h ch hi by_ got) (I : FInv n f h ch hi ti) (hq : q < n) (T : FTr f h q ch hi h' ch' hi' d v) (hf : ∀ k, 42 ≤ k → f' k = f k) (same : ∀ p j, p ≠ q → j < 5 → h' (p * 5 + j) = h (p * 5 + j)) :
    (d = true ∧ v ≥ 0 ∧ FOr n f' h' ch' hi' by_ (got ++ [v])) ∨ (¬ (d = true ∧ v ≥ 0) ∧ FOr n f' h' ch' hi' by_ got) := by
  have f82 := hf 82 (by omega)
  have hv' : ∀ k : Nat, 1 ≤ k → (k : Int) < f' 82 → f' (42 + k) = (k : Int) - 1 := fun k h1 h2 => by rw [hf _ (by omega)]; rw [f82] at h2; exact O.v k h1 h2
  have bl' : (by_.length : Int) + 1 = f' 82 := by rw [f82]; exact O.bl
  -- where the hand is no putter, and was none
  have away : ∀ {hi2 : Nat} {got2 : List Int}, ¬ (1 ≤ h (q * 5 + 0) ∧ h (q * 5 + 0) ≤ 4) → h' (q * 5 + 0) = 0 → got2.length = hi2 → (∀ (x : Nat) z, got2[x]? = some z → ∃ y : Nat, ch[x + 1]? = some y ∧ z = (y : Int) - 1) → FOr n f' h' ch hi2 by_ got2 := by
    intro hi2 got2 h1 h2 h3 h4
    refine ⟨bl', O.bn, hv', fun k k1 k2 k3 b hb => ?_, fun p hp a1 a2 => ?_, O.o, h3, h4⟩
    · obtain ⟨g1, g2, g3⟩ := O.i k k1 (by rw [← f82]; exact k2) k3 b hb
      have hbq : b ≠ q := fun he => h1 (he ▸ ⟨g1, g2⟩)
      rw [same b 0 hbq (by omega), same b 1 hbq (by omega)]
      exact ⟨g1, g2, g3⟩
    · have hpq : p ≠ q := fun he => by subst he; omega
      rw [same p 0 hpq (by omega)] at a1 a2
      rw [same p 1 hpq (by omega)]
      exact O.mx p hp a1 a2
  cases T with
  | sil a1 a2 a3 a4 a5 =>
    refine .inr ⟨by simp, bl', O.bn, hv', fun k k1 k2 k3 b hb => ?_, fun p hp b1 b2 => ?_, O.o, O.gl, O.g⟩
    · obtain ⟨g1, g2, g3⟩ := O.i k k1 (by rw [← f82]; exact k2) k3 b hb
      by_cases hbq : b = q
      · subst hbq
        rw [a5]
        exact ⟨(a4.1 ⟨g1, g2⟩).1, (a4.1 ⟨g1, g2⟩).2, g3⟩
      · rw [same b 0 hbq (by omega), same b 1 hbq (by omega)]
        exact ⟨g1, g2, g3⟩
    · by_cases hpq : p = q
      · subst hpq
        rw [a5]
        obtain ⟨c1, c2⟩ := a4.2 ⟨b1, b2⟩
        exact O.mx p hp c1 c2
      · rw [same p 0 hpq (by omega)] at b1 b2
        rw [same p 1 hpq (by omega)]
        exact O.mx p hp b1 b2
  | link k a1 a2 a3 a4 a5 =>
    obtain ⟨k', e1, e2, e3, e4⟩ := O.mx q hq (by omega) (by omega)
    obtain rfl : k' = k := by omega
    refine .inr ⟨by simp, bl', O.bn, hv', fun m k1 k2 k3 b hb => ?_, fun p hp b1 b2 => ?_, fun i j x y i1 ij hx hy hxy => ?_, O.gl, fun x z hz => ?_⟩
    · obtain ⟨g1, g2, g3⟩ := O.i m k1 (by rw [← f82]; exact k2) (fun hm => k3 (by simp [hm])) b hb
      have hbq : b ≠ q := fun he => by
        subst he
        have : m = k' := by omega
        exact k3 (by simp [this])
      rw [same b 0 hbq (by omega), same b 1 hbq (by omega)]
      exact ⟨g1, g2, g3⟩
    · have hpq : p ≠ q := fun he => by subst he; omega
      rw [same p 0 hpq (by omega)] at b1 b2
      rw [same p 1 hpq (by omega)]
      exact O.mx p hp b1 b2
    · rcases app_cases hy with ⟨g1, g2⟩ | ⟨g1, rfl⟩
      · rcases app_cases hx with ⟨g3, g4⟩ | ⟨g3, _⟩
        · exact O.o i j x y i1 ij g4 g2 hxy
        · omega
      · rcases app_cases hx with ⟨g3, g4⟩ | ⟨g3, _⟩
        · rw [e3] at hxy
          have := e4 (x - 1) hxy
          have hx1 := I.b.pos i1 g4
          have hne : x ≠ y := fun he => a3 (he ▸ List.mem_of_getElem? g4)
          omega
        · omega
    · obtain ⟨y, g1, g2⟩ := O.g x z hz
      exact ⟨y, app_get g1, g2⟩
  | over a1 a2 => exact .inr ⟨by simp, away (by omega) a2 O.gl O.g⟩
  | none a1 a2 a3 => exact .inr ⟨by simp, away (by omega) a3 O.gl O.g⟩
  | got y a1 a2 a3 =>
    have hy1 := I.b.pos (by omega) a2
    have hyv := O.v y hy1 (I.b.lt y (List.mem_of_getElem? a2))
    refine .inl ⟨rfl, by omega, away (by omega) a3 (by simp [O.gl]) (fun x z hz => ?_)⟩
    rcases app_cases hz with ⟨g1, g2⟩ | ⟨g1, rfl⟩
    · exact O.g x z g2
    · rw [O.gl] at g1
      exact ⟨y, by rw [g1]; exact a2, hyv⟩
theorem FOr.get {n : Nat} {f h : Nat → Int} {ch : List Nat} {hi q : Nat} {by_ got : List Int} (O : FOr n f h ch hi by_ got) (ha : h (q * 5) = 0) : FOr n f (fHand h q [6, 0, 0, 0, 0]) ch hi by_ got := by
  have ha : h (q * 5 + 0) = 0 := ha
  refine ⟨O.bl, O.bn, O.v, fun k k1 k2 k3 b hb => ?_, fun p hp b1 b2 => ?_, O.o, O.gl, O.g⟩
  · obtain ⟨g1, g2, g3⟩ := O.i k k1 k2 k3 b hb
    have hbq : b ≠ q := fun he => by subst he; omega
    rw [fHand_ne hbq (by omega), fHand_ne hbq (by omega)]
    exact ⟨g1, g2, g3⟩
  · have hpq : p ≠ q := fun he => by subst he; rw [fHand_same (by omega)] at b2; exact absurd b2 (by decide)
    rw [fHand_ne hpq (by omega)] at b1 b2
    rw [fHand_ne hpq (by omega)]
    exact O.mx p hp b1 b2
theorem FOr.put {n : Nat} {f h : Nat → Int} {ch : List Nat} {hi ti q : Nat} {by_ got : List Int} (O : FOr n f h ch hi by_ got) (I : FInv n f h ch hi ti) (hq : q < n) (ha : h (q * 5) = 0) (v : Int) (hv : v = f 82 - 1) (hm : f 82 ≠ 40) :
    FOr n (updN (updN f (42 + (f 82).toNat) v) 82 (f 82 + 1)) (fHand h q [1, f 82, 0, 0, 0]) ch hi (by_ ++ [(q : Int)]) got := by
  have ha : h (q * 5 + 0) = 0 := ha
  have m0 := I.b.m0
  have m1 := I.b.m1
  have bl := O.bl
  obtain ⟨M, hM⟩ : ∃ M : Nat, f 82 = (M : Int) := ⟨(f 82).toNat, by omega⟩
  have e82 : updN (updN f (42 + (f 82).toNat) v) 82 (f 82 + 1) 82 = f 82 + 1 := updN_same _ _ _
  have low : ∀ {k : Nat}, (k : Int) < f 82 → 1 ≤ k → (by_ ++ [(q : Int)])[k - 1]? = by_[k - 1]? := fun {k} hk h1 => List.getElem?_append_left (by omega)
  refine ⟨by rw [e82]; simp; omega, fun j b hb => ?_, fun k k1 k2 => ?_, fun k k1 k2 k3 b hb => ?_, fun p hp b1 b2 => ?_, fun i j x y i1 ij hx hy hxy => ?_, O.gl, O.g⟩
  · rcases app_cases hb with ⟨_, g⟩ | ⟨_, rfl⟩
    · exact O.bn j b g
    · omega
  · rw [e82] at k2
    by_cases hk : (k : Int) = f 82
    · rw [updN_ne (by omega), show 42 + k = 42 + (f 82).toNat by omega, updN_same]; omega
    · rw [updN_ne (by omega), updN_ne (by omega)]
      exact O.v k k1 (by omega)
  · rw [e82] at k2
    by_cases hk : (k : Int) = f 82
    · have : (by_ ++ [(q : Int)])[k - 1]? = some (q : Int) := by
        rw [show k - 1 = by_.length by omega]; simp
      rw [this] at hb
      obtain rfl : q = b := by have := Option.some.inj hb; omega
      rw [fHand_same (by omega), fHand_same (by omega)]
      refine ⟨show (1 : Int) ≤ 1 by decide, show (1 : Int) ≤ 4 by decide, ?_⟩
      show f 82 = k
      omega
    · rw [low (by omega) k1] at hb
      obtain ⟨g1, g2, g3⟩ := O.i k k1 (by omega) k3 b hb
      have hbq : b ≠ q := fun he => by subst he; omega
      rw [fHand_ne hbq (by omega), fHand_ne hbq (by omega)]
      exact ⟨g1, g2, g3⟩
  · by_cases hpq : p = q
    · subst hpq
      refine ⟨M, by rw [fHand_same (by omega)]; exact hM, by omega, by rw [show M - 1 = by_.length by omega]; simp, fun j hj => ?_⟩
      have := (List.getElem?_eq_some_iff.1 hj).1
      simp at this
      omega
    · rw [fHand_ne hpq (by omega)] at b1 b2
      rw [fHand_ne hpq (by omega)]
      obtain ⟨k, c1, c2, c3, c4⟩ := O.mx p hp b1 b2
      have hkl := (List.getElem?_eq_some_iff.1 c3).1
      refine ⟨k, c1, c2, by rw [List.getElem?_append_left hkl]; exact c3, fun j hj => ?_⟩
      rcases app_cases hj with ⟨_, g⟩ | ⟨_, g⟩
      · exact c4 j g
      · exact absurd (Int.ofNat.inj g) hpq
  · have hx1 := I.b.pos i1 hx
    have hy1 := I.b.pos (by omega) hy
    rw [low (I.b.lt x (List.mem_of_getElem? hx)) hx1, low (I.b.lt y (List.mem_of_getElem? hy)) hy1] at hxy
    exact O.o i j x y i1 ij hx hy hxy
/-- what is got, at the end -/
theorem FOr.fine {n : Nat} {f h : Nat → Int} {ch : List Nat} {hi ti : Nat} {by_ got : List Int} (O : FOr n f h ch hi by_ got) (I : FInv n f h ch hi ti) {x : Nat} {z : Int} (hx : got[x]? = some z) : 0 ≤ z ∧ z < by_.length ∧ ∀ (y : Nat) w, y < x → got[y]? = some w → z ≠ w ∧ (by_[z.toNat]? = by_[w.toNat]? → ¬ z < w) := by
  obtain ⟨a, a1, a2⟩ := O.g x z hx
  have ha := I.b.pos (by omega) a1
  have hal := I.b.lt a (List.mem_of_getElem? a1)
  have bl := O.bl
  refine ⟨by omega, by omega, fun y w hyx hy => ?_⟩
  obtain ⟨b, b1, b2⟩ := O.g y w hy
  have hb := I.b.pos (by omega) b1
  have hne : a ≠ b := fun he => by
    have := nd_idx I.b.nd a1 (he ▸ b1)
    omega
  refine ⟨by omega, fun hbb hlt => ?_⟩
  have := O.o (y + 1) (x + 1) b a (by omega) (by omega) b1 a1 (by rw [show b - 1 = w.toNat by omega, show a - 1 = z.toNat by omega]; exact hbb.symm)
  omega
end Go.Proofs.Ytogbkgimpkaemaa
