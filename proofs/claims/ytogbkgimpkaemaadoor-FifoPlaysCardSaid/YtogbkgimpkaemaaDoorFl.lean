import Derived.Test.YtogbkgimpkaemaaDoorFf
namespace Go.Proofs.YtogbkgimpkaemaaDoor
open Go.Eng
set_option maxRecDepth 20000
/-! ### a queue with two ends, plainly -/
structure FBase (f : Nat → Int) (ch : List Nat) (hi ti : Nat) : Prop where
  m0 : 1 ≤ f 82
  m1 : f 82 ≤ 40
  nd : ch.Nodup
  c0 : ch[0]? = some 0
  lt : ∀ k ∈ ch, (k : Int) < f 82
  lk : ∀ i a b : Nat, ch[i]? = some a → ch[i + 1]? = some b → f (2 + a) = b
  la : ∀ a : Nat, ch[ch.length - 1]? = some a → f (2 + a) = -1
  no : ∀ k, k < 40 → k ∉ ch → f (2 + k) = -1
  hd : ∃ a : Nat, ch[hi]? = some a ∧ f 0 = a
  tl : ∃ a : Nat, ch[ti]? = some a ∧ f 1 = a
  ht : hi ≤ ti
structure FHd (M : Int) (ch : List Nat) (hi ti : Nat) (a nd hd tl nt : Int) : Prop where
  r : 0 ≤ a ∧ a ≤ 10
  fn : 1 ≤ a → a ≤ 4 → ∃ k : Nat, nd = k ∧ 1 ≤ k ∧ (k : Int) < M ∧ k ∉ ch
  t : a = 2 ∨ a = 3 → ∃ i x : Nat, ch[i]? = some x ∧ tl = x ∧ i ≤ ti
  t4 : a = 4 ∨ a = 9 → ∃ i x y : Nat, ch[i]? = some x ∧ ch[i + 1]? = some y ∧ tl = x ∧ nt = y ∧ i ≤ ti
  t5 : a = 5 → ∃ i x y : Nat, ch[i]? = some x ∧ ch[i + 1]? = some y ∧ tl = x ∧ nd = y ∧ i ≤ ti
  d7 : a = 7 → ∃ i x : Nat, ch[i]? = some x ∧ hd = x ∧ i ≤ hi
  d8 : a = 8 → ∃ i j x y : Nat, ch[i]? = some x ∧ ch[j]? = some y ∧ hd = x ∧ tl = y ∧ i ≤ j ∧ i ≤ hi ∧ j ≤ ti
  d10 : a = 10 → ∃ i x y : Nat, ch[i]? = some x ∧ ch[i + 1]? = some y ∧ hd = x ∧ nt = y ∧ i + 1 ≤ ti
def fHd (f h : Nat → Int) (ch : List Nat) (hi ti p : Nat) : Prop := FHd (f 82) ch hi ti (h (p * 5 + 0)) (h (p * 5 + 1)) (h (p * 5 + 2)) (h (p * 5 + 3)) (h (p * 5 + 4))
structure FInv (n : Nat) (f h : Nat → Int) (ch : List Nat) (hi ti : Nat) : Prop where
  b : FBase f ch hi ti
  q : ∀ p, p < n → fHd f h ch hi ti p
  ap : ∀ p q, p < n → q < n → p ≠ q → 1 ≤ h (p * 5 + 0) → h (p * 5 + 0) ≤ 4 → 1 ≤ h (q * 5 + 0) → h (q * 5 + 0) ≤ 4 → h (p * 5 + 1) ≠ h (q * 5 + 1)
theorem app_get {ch l : List Nat} {i x : Nat} (h : ch[i]? = some x) : (ch ++ l)[i]? = some x := by
  rw [List.getElem?_append_left (List.getElem?_eq_some_iff.1 h).1]; exact h
theorem FHd.mono {M M' : Int} {ch l : List Nat} {hi ti hi' ti' : Nat} {a nd hd tl nt : Int} (h : FHd M ch hi ti a nd hd tl nt) (hM : M ≤ M') (hh : hi ≤ hi') (ht : ti ≤ ti') (hn : 1 ≤ a → a ≤ 4 → ∀ k : Nat, nd = k → k ∉ l) : FHd M' (ch ++ l) hi' ti' a nd hd tl nt := by
  refine ⟨h.r, fun h1 h2 => ?_, fun h1 => ?_, fun h1 => ?_, fun h1 => ?_, fun h1 => ?_, fun h1 => ?_, fun h1 => ?_⟩
  · obtain ⟨k, k1, k2, k3, k4⟩ := h.fn h1 h2
    exact ⟨k, k1, k2, by omega, fun hm => (List.mem_append.1 hm).elim k4 (hn h1 h2 k k1)⟩
  · obtain ⟨i, x, g1, g2, g3⟩ := h.t h1
    exact ⟨i, x, app_get g1, g2, by omega⟩
  · obtain ⟨i, x, y, g1, g2, g3, g4, g5⟩ := h.t4 h1
    exact ⟨i, x, y, app_get g1, app_get g2, g3, g4, by omega⟩
  · obtain ⟨i, x, y, g1, g2, g3, g4, g5⟩ := h.t5 h1
    exact ⟨i, x, y, app_get g1, app_get g2, g3, g4, by omega⟩
  · obtain ⟨i, x, g1, g2, g3⟩ := h.d7 h1
    exact ⟨i, x, app_get g1, g2, by omega⟩
  · obtain ⟨i, j, x, y, g1, g2, g3, g4, g5, g6, g7⟩ := h.d8 h1
    exact ⟨i, j, x, y, app_get g1, app_get g2, g3, g4, g5, by omega, by omega⟩
  · obtain ⟨i, x, y, g1, g2, g3, g4, g5⟩ := h.d10 h1
    exact ⟨i, x, y, app_get g1, app_get g2, g3, g4, by omega⟩
theorem nd_idx {ch : List Nat} (hn : ch.Nodup) {i j x : Nat} (h1 : ch[i]? = some x) (h2 : ch[j]? = some x) : i = j := by
  obtain ⟨i1, i2⟩ := List.getElem?_eq_some_iff.1 h1
  obtain ⟨j1, j2⟩ := List.getElem?_eq_some_iff.1 h2
  have hp := List.nodup_iff_pairwise_ne.1 hn
  rw [List.pairwise_iff_getElem] at hp
  rcases Nat.lt_trichotomy i j with h | h | h
  · exact absurd (i2.trans j2.symm) (hp i j i1 j1 h)
  · exact h
  · exact absurd (j2.trans i2.symm) (hp j i j1 i1 h)
theorem FBase.x40 {f : Nat → Int} {ch : List Nat} {hi ti : Nat} (h : FBase f ch hi ti) {i x : Nat} (hx : ch[i]? = some x) : x < 40 := by
  have := h.lt x (List.mem_of_getElem? hx)
  have := h.m1
  omega
/-- what is behind a node that is in -/
theorem FBase.next {f : Nat → Int} {ch : List Nat} {hi ti : Nat} (h : FBase f ch hi ti) {i x : Nat} (hx : ch[i]? = some x) : (i + 1 = ch.length ∧ f (2 + x) = -1) ∨ (∃ y : Nat, ch[i + 1]? = some y ∧ f (2 + x) = y) := by
  have hl := (List.getElem?_eq_some_iff.1 hx).1
  by_cases he : i + 1 = ch.length
  · exact .inl ⟨he, h.la x (by rw [← hx]; congr 1; omega)⟩
  · have hl2 : i + 1 < ch.length := by omega
    exact .inr ⟨ch[i + 1], List.getElem?_eq_getElem hl2, h.lk i x _ hx (List.getElem?_eq_getElem hl2)⟩
theorem FBase.tailup {f : Nat → Int} {ch : List Nat} {hi ti : Nat} (h : FBase f ch hi ti) {y : Nat} (hy : ch[ti + 1]? = some y) : FBase (updN f 1 y) ch hi (ti + 1) := by
  have e : ∀ {k}, k ≠ 1 → updN f 1 (y : Int) k = f k := fun {k} hk => updN_ne hk
  obtain ⟨a, ha, ha2⟩ := h.hd
  refine ⟨by rw [e (by omega)]; exact h.m0, by rw [e (by omega)]; exact h.m1, h.nd, h.c0, by rw [e (by omega)]; exact h.lt, fun i a b h1 h2 => by rw [e (by omega)]; exact h.lk i a b h1 h2, fun a h1 => by rw [e (by omega)]; exact h.la a h1, fun k h1 h2 => by rw [e (by omega)]; exact h.no k h1 h2,
    ⟨a, ha, by rw [e (by omega)]; exact ha2⟩, ⟨y, hy, updN_same _ _ _⟩, by have := h.ht; omega⟩
theorem FBase.headup {f : Nat → Int} {ch : List Nat} {hi ti : Nat} (h : FBase f ch hi ti) {y : Nat} (hy : ch[hi + 1]? = some y) (hl : hi + 1 ≤ ti) : FBase (updN f 0 y) ch (hi + 1) ti := by
  have e : ∀ {k}, k ≠ 0 → updN f 0 (y : Int) k = f k := fun {k} hk => updN_ne hk
  obtain ⟨a, ha, ha2⟩ := h.tl
  refine ⟨by rw [e (by omega)]; exact h.m0, by rw [e (by omega)]; exact h.m1, h.nd, h.c0, by rw [e (by omega)]; exact h.lt, fun i a b h1 h2 => by rw [e (by omega)]; exact h.lk i a b h1 h2, fun a h1 => by rw [e (by omega)]; exact h.la a h1, fun k h1 h2 => by rw [e (by omega)]; exact h.no k h1 h2,
    ⟨y, hy, updN_same _ _ _⟩, ⟨a, ha, by rw [e (by omega)]; exact ha2⟩, hl⟩
theorem FBase.link {f : Nat → Int} {ch : List Nat} {hi ti : Nat} (h : FBase f ch hi ti) {i x k : Nat} (hx : ch[i]? = some x) (hl : i + 1 = ch.length) (hk : (k : Int) < f 82) (hn : k ∉ ch) : FBase (updN f (2 + x) k) (ch ++ [k]) hi ti := by
  have hx40 := h.x40 hx
  have hm1 := h.m1
  have e : ∀ {j}, j ≠ 2 + x → updN f (2 + x) (k : Int) j = f j := fun {j} hj => updN_ne hj
  obtain ⟨a, ha, ha2⟩ := h.hd
  obtain ⟨b, hb, hb2⟩ := h.tl
  have hxm := List.mem_of_getElem? hx
  have hkx : k ≠ x := fun he => hn (he ▸ hxm)
  refine ⟨by rw [e (by omega)]; exact h.m0, by rw [e (by omega)]; exact h.m1, List.nodup_append.2 ⟨h.nd, by simp, by simp; exact fun a ha e => hn (e ▸ ha)⟩, app_get h.c0, fun y hy => ?_, fun j y z h1 h2 => ?_, fun y h1 => ?_, fun y h1 h2 => ?_, ⟨a, app_get ha, by rw [e (by omega)]; exact ha2⟩, ⟨b, app_get hb, by rw [e (by omega)]; exact hb2⟩, h.ht⟩
  · rw [e (by omega)]
    rcases List.mem_append.1 hy with hy | hy
    · exact h.lt y hy
    · simp only [List.mem_singleton] at hy; subst hy; exact hk
  · rcases app_cases h2 with ⟨g1, g2⟩ | ⟨g1, rfl⟩
    · rcases app_cases h1 with ⟨g3, g4⟩ | ⟨g3, rfl⟩
      · have hyx : y ≠ x := fun he => by
          have := nd_idx h.nd (he ▸ g4) hx
          omega
        rw [e (by omega)]; exact h.lk j y z g4 g2
      · omega
    · rcases app_cases h1 with ⟨g3, g4⟩ | ⟨g3, rfl⟩
      · have hji : j = i := by omega
        subst hji
        have : y = x := by rw [g4] at hx; exact Option.some.inj hx
        subst this
        exact updN_same _ _ _
      · omega
  · have : y = k := by
      rw [List.length_append, List.length_singleton, Nat.add_sub_cancel] at h1
      rcases app_cases h1 with ⟨g1, _⟩ | ⟨_, rfl⟩
      · omega
      · rfl
    subst this
    rw [e (by omega)]
    exact h.no y (by omega) hn
  · have h3 : y ∉ ch := fun hm => h2 (by simp [hm])
    have hyx : y ≠ x := fun he => h3 (he ▸ hxm)
    rw [e (by omega)]; exact h.no y h1 h3
theorem FBase.put {f : Nat → Int} {ch : List Nat} {hi ti : Nat} (h : FBase f ch hi ti) (v : Int) (hm : f 82 ≠ 40) : FBase (updN (updN f (42 + (f 82).toNat) v) 82 (f 82 + 1)) ch hi ti := by
  have := h.m0
  have hm1 := h.m1
  have e : ∀ {k}, k < 42 → updN (updN f (42 + (f 82).toNat) v) 82 (f 82 + 1) k = f k := fun {k} hk => by rw [updN_ne (by omega), updN_ne (by omega)]
  have e82 : updN (updN f (42 + (f 82).toNat) v) 82 (f 82 + 1) 82 = f 82 + 1 := updN_same _ _ _
  obtain ⟨a, ha, ha2⟩ := h.hd
  obtain ⟨b, hb, hb2⟩ := h.tl
  refine ⟨by rw [e82]; omega, by rw [e82]; omega, h.nd, h.c0, fun k hk => by rw [e82]; have := h.lt k hk; omega, fun i a b h1 h2 => ?_, fun a h1 => ?_, fun k h1 h2 => by rw [e (by omega)]; exact h.no k h1 h2, ⟨a, ha, by rw [e (by omega)]; exact ha2⟩, ⟨b, hb, by rw [e (by omega)]; exact hb2⟩, h.ht⟩
  · have := h.x40 h1
    rw [e (by omega)]; exact h.lk i a b h1 h2
  · have := h.x40 h1
    rw [e (by omega)]; exact h.la a h1
/-- one hand turned, the others as they were -/
theorem FInv.upd {n : Nat} {f h f' h' : Nat → Int} {ch l : List Nat} {hi ti hi' ti' : Nat} (I : FInv n f h ch hi ti) {q : Nat} (hM : f 82 ≤ f' 82) (hh : hi ≤ hi') (ht : ti ≤ ti') (B : FBase f' (ch ++ l) hi' ti') (same : ∀ p j, p ≠ q → j < 5 → h' (p * 5 + j) = h (p * 5 + j))
    (hl : ∀ p, p < n → p ≠ q → 1 ≤ h (p * 5 + 0) → h (p * 5 + 0) ≤ 4 → ∀ k : Nat, h (p * 5 + 1) = k → k ∉ l) (hq : fHd f' h' (ch ++ l) hi' ti' q)
    (ap : 1 ≤ h' (q * 5 + 0) → h' (q * 5 + 0) ≤ 4 → ∀ p, p < n → p ≠ q → 1 ≤ h (p * 5 + 0) → h (p * 5 + 0) ≤ 4 → h (p * 5 + 1) ≠ h' (q * 5 + 1)) : FInv n f' h' (ch ++ l) hi' ti' := by
  refine ⟨B, fun p hp => ?_, fun p r hp hr hne a1 a2 b1 b2 => ?_⟩
  · by_cases he : p = q
    · subst he; exact hq
    · have := (I.q p hp).mono (l := l) hM hh ht (hl p hp he)
      unfold fHd
      rw [same p 0 he (by omega), same p 1 he (by omega), same p 2 he (by omega), same p 3 he (by omega), same p 4 he (by omega)]
      exact this
  · by_cases hpq : p = q
    · subst hpq
      rw [same r 0 (Ne.symm hne) (by omega)] at b1 b2
      rw [same r 1 (Ne.symm hne) (by omega)]
      exact fun e => ap a1 a2 r hr (Ne.symm hne) b1 b2 e.symm
    · rw [same p 0 hpq (by omega)] at a1 a2
      rw [same p 1 hpq (by omega)]
      by_cases hrq : r = q
      · subst hrq; exact ap b1 b2 p hp hpq a1 a2
      · rw [same r 0 hrq (by omega)] at b1 b2
        rw [same r 1 hrq (by omega)]
        exact I.ap p r hp hr hne a1 a2 b1 b2
theorem FInv.upd0 {n : Nat} {f h f' h' : Nat → Int} {ch : List Nat} {hi ti hi' ti' : Nat} (I : FInv n f h ch hi ti) {q : Nat} (hM : f 82 ≤ f' 82) (hh : hi ≤ hi') (ht : ti ≤ ti') (B : FBase f' ch hi' ti') (same : ∀ p j, p ≠ q → j < 5 → h' (p * 5 + j) = h (p * 5 + j))
    (hq : fHd f' h' ch hi' ti' q) (ap : 1 ≤ h' (q * 5 + 0) → h' (q * 5 + 0) ≤ 4 → ∀ p, p < n → p ≠ q → 1 ≤ h (p * 5 + 0) → h (p * 5 + 0) ≤ 4 → h (p * 5 + 1) ≠ h' (q * 5 + 1)) : FInv n f' h' ch hi' ti' := by
  have := FInv.upd (l := []) I hM hh ht (by rwa [List.append_nil]) same (by simp) (by rwa [List.append_nil]) ap
  rwa [List.append_nil] at this
theorem fHand_same {h : Nat → Int} {q : Nat} {vs : List Int} {j : Nat} (hj : j < 5) : fHand h q vs (q * 5 + j) = gI vs j := by
  unfold fHand; rw [if_pos (by omega), show q * 5 + j - q * 5 = j by omega]
theorem fHand_ne {h : Nat → Int} {q p : Nat} {vs : List Int} {j : Nat} (hp : p ≠ q) (hj : j < 5) : fHand h q vs (p * 5 + j) = h (p * 5 + j) := by
  unfold fHand; rw [if_neg]; omega
theorem updH_ne {h : Nat → Int} {q p : Nat} {v : Int} {i j : Nat} (hp : p ≠ q) (hi : i < 5) (hj : j < 5) : updN h (q * 5 + i) v (p * 5 + j) = h (p * 5 + j) := updN_ne (by omega)
theorem updH_ne2 {h : Nat → Int} {q : Nat} {v : Int} {i j : Nat} (hij : j ≠ i) : updN h (q * 5 + i) v (q * 5 + j) = h (q * 5 + j) := updN_ne (by omega)
theorem FHd.zero {M : Int} {ch : List Nat} {hi ti : Nat} {a b c d : Int} : FHd M ch hi ti 0 a b c d :=
  ⟨by omega, fun h => by omega, fun h => by omega, fun h => by omega, fun h => by omega, fun h => by omega, fun h => by omega, fun h => by omega⟩
theorem FHd.one {M : Int} {ch : List Nat} {hi ti : Nat} {a b c d : Int} (h : ∃ k : Nat, a = k ∧ 1 ≤ k ∧ (k : Int) < M ∧ k ∉ ch) : FHd M ch hi ti 1 a b c d :=
  ⟨by omega, fun _ _ => h, fun h => by omega, fun h => by omega, fun h => by omega, fun h => by omega, fun h => by omega, fun h => by omega⟩
theorem FHd.six {M : Int} {ch : List Nat} {hi ti : Nat} {a b c d : Int} : FHd M ch hi ti 6 a b c d :=
  ⟨by omega, fun _ h => by omega, fun h => by omega, fun h => by omega, fun h => by omega, fun h => by omega, fun h => by omega, fun h => by omega⟩
theorem FInv.start (n : Nat) : FInv n fF0 (fun _ => 0) [0] 0 0 := by
  refine ⟨⟨by decide, by decide, by simp, rfl, by intro k hk; simp at hk; subst hk; decide, fun i a b _ h2 => by simp at h2, fun a h1 => ?_, fun k h1 h2 => ?_, ⟨0, rfl, rfl⟩, ⟨0, rfl, rfl⟩, Nat.le_refl _⟩, fun p _ => FHd.zero, fun p q _ _ _ h => by omega⟩
  · simp at h1; subst h1; rfl
  · simp only [fF0]; rw [if_neg (by omega), if_pos (by omega)]
theorem FInv.ok {n : Nat} {f h : Nat → Int} {ch : List Nat} {hi ti : Nat} (I : FInv n f h ch hi ti) {q : Nat} (hq : q < n) : FOk f h q := by
  have H := I.q q hq
  have r := H.r
  refine ⟨⟨by omega, by omega⟩, fun ha => ?_, fun ha => ?_, fun ha _ => ?_⟩
  · obtain ⟨i, x, g1, g2, _⟩ := H.t ha
    have := I.b.x40 g1
    omega
  · obtain ⟨i, j, x, y, g1, _, g3, _⟩ := H.d8 ha
    have := I.b.x40 g1
    omega
  · obtain ⟨i, x, y, _, g2, _, g4, _⟩ := H.d10 ha
    have := I.b.x40 g2
    omega
/-- what a line brings about -/
inductive FTr (f h : Nat → Int) (q : Nat) (ch : List Nat) (hi : Nat) : (Nat → Int) → List Nat → Nat → Bool → Int → Prop
  | sil (h' : Nat → Int) : h (q * 5 + 0) ≠ 5 → h' (q * 5 + 0) ≠ 0 → h' (q * 5 + 0) ≠ 5 → (1 ≤ h (q * 5 + 0) ∧ h (q * 5 + 0) ≤ 4 ↔ 1 ≤ h' (q * 5 + 0) ∧ h' (q * 5 + 0) ≤ 4) → h' (q * 5 + 1) = h (q * 5 + 1) → FTr f h q ch hi h' ch hi false 0
  | link (h' : Nat → Int) (k : Nat) : h (q * 5 + 0) = 3 → h (q * 5 + 1) = k → k ∉ ch → h' (q * 5 + 0) = 5 → h' (q * 5 + 1) = k → FTr f h q ch hi h' (ch ++ [k]) hi false 0
  | over (h' : Nat → Int) : h (q * 5 + 0) = 5 → h' (q * 5 + 0) = 0 → FTr f h q ch hi h' ch hi true (-1)
  | none (h' : Nat → Int) : h (q * 5 + 0) = 8 → hi + 1 = ch.length → h' (q * 5 + 0) = 0 → FTr f h q ch hi h' ch hi true (-1)
  | got (h' : Nat → Int) (y : Nat) : h (q * 5 + 0) = 10 → ch[hi + 1]? = some y → h' (q * 5 + 0) = 0 → FTr f h q ch hi h' ch (hi + 1) true (f (42 + y))
set_option maxHeartbeats 1600000 in
theorem FInv.step {n : Nat} {f h : Nat → Int} {ch : List Nat} {hi ti : Nat} (I : FInv n f h ch hi ti) {q : Nat} (hq : q < n) (ha : h (q * 5 + 0) ≠ 0) :
    ∃ ch' hi' ti', FInv n (fStep f h q).1 (fStep f h q).2.1 ch' hi' ti' ∧ FTr f h q ch hi (fStep f h q).2.1 ch' hi' (fStep f h q).2.2.1 (fStep f h q).2.2.2 ∧ (∀ k, 42 ≤ k → (fStep f h q).1 k = f k) ∧ (∀ p j, p ≠ q → j < 5 → (fStep f h q).2.1 (p * 5 + j) = h (p * 5 + j)) := by
  have H := I.q q hq
  unfold fHd at H
  have r := H.r
  have B := I.b
  have apq : ∀ {v : Int}, v = h (q * 5 + 1) → 1 ≤ h (q * 5 + 0) → h (q * 5 + 0) ≤ 4 → ∀ p, p < n → p ≠ q → 1 ≤ h (p * 5 + 0) → h (p * 5 + 0) ≤ 4 → h (p * 5 + 1) ≠ v := fun {v} hv a1 a2 p hp hne b1 b2 => by rw [hv]; exact I.ap p q hp hq hne b1 b2 a1 a2
  -- one cell and the line set
  have e1 : ∀ {i : Nat} {v w : Int}, i < 5 → i ≠ 0 → updN (updN h (q * 5 + i) v) (q * 5 + 0) w (q * 5 + i) = v := fun {i v w} _ hi => by rw [updH_ne2 hi, updN_same]
  have e2 : ∀ {i j : Nat} {v w : Int}, j ≠ 0 → j ≠ i → updN (updN h (q * 5 + i) v) (q * 5 + 0) w (q * 5 + j) = h (q * 5 + j) := fun {i j v w} h1 h2 => by rw [updH_ne2 h1, updH_ne2 h2]
  have s1 : ∀ {i : Nat} {v w : Int}, i < 5 → ∀ p j, p ≠ q → j < 5 → updN (updN h (q * 5 + i) v) (q * 5 + 0) w (p * 5 + j) = h (p * 5 + j) := fun {i v w} hi p j hp hj => by rw [updH_ne hp (by omega) hj, updH_ne hp hi hj]
  have s0 : ∀ {w : Int}, ∀ p j, p ≠ q → j < 5 → updN h (q * 5 + 0) w (p * 5 + j) = h (p * 5 + j) := fun {w} p j hp hj => updH_ne hp (by omega) hj
  have sd : ∀ {h2 : Nat → Int}, (∀ p j, p ≠ q → j < 5 → h2 (p * 5 + j) = h (p * 5 + j)) → ∀ p j, p ≠ q → j < 5 → fDone h2 q (p * 5 + j) = h (p * 5 + j) := fun {h2} hs p j hp hj => by rw [fDone, fHand_ne hp hj]; exact hs p j hp hj
  have d0 : ∀ {h2 : Nat → Int}, fDone h2 q (q * 5 + 0) = 0 := fun {h2} => by rw [fDone, fHand_same (by omega)]; rfl
  have hz : ∀ {h2 : Nat → Int} {f2 : Nat → Int} {ch2 : List Nat} {hi2 ti2 : Nat}, fHd f2 (fDone h2 q) ch2 hi2 ti2 q := fun {h2 f2 ch2 hi2 ti2} => by unfold fHd; rw [d0]; exact FHd.zero
  have apz : ∀ {h2 : Nat → Int}, 1 ≤ fDone h2 q (q * 5 + 0) → fDone h2 q (q * 5 + 0) ≤ 4 → ∀ p, p < n → p ≠ q → 1 ≤ h (p * 5 + 0) → h (p * 5 + 0) ≤ 4 → h (p * 5 + 1) ≠ fDone h2 q (q * 5 + 1) := fun {h2} h1 => by rw [d0] at h1; omega
  obtain ⟨th, th1, th2⟩ := B.hd
  obtain ⟨tt, tt1, tt2⟩ := B.tl
  have cases : h (q * 5 + 0) = 1 ∨ h (q * 5 + 0) = 2 ∨ h (q * 5 + 0) = 3 ∨ h (q * 5 + 0) = 4 ∨ h (q * 5 + 0) = 5 ∨ h (q * 5 + 0) = 6 ∨ h (q * 5 + 0) = 7 ∨ h (q * 5 + 0) = 8 ∨ h (q * 5 + 0) = 9 ∨ h (q * 5 + 0) = 10 := by omega
  rcases cases with a | a | a | a | a | a | a | a | a | a
  · have S : fStep f h q = (f, updN (updN h (q * 5 + 3) (f 1)) (q * 5 + 0) 2, false, 0) := by simp only [Nat.add_zero] at a ⊢; simp [fStep, a]
    rw [S]
    dsimp only
    refine ⟨ch, hi, ti, I.upd0 (q := q) (Int.le_refl _) (Nat.le_refl _) (Nat.le_refl _) B (s1 (by omega)) ?_ (fun _ _ => apq (e2 (by omega) (by omega)) (by omega) (by omega)), .sil _ (by omega) (by rw [updN_same]; omega) (by rw [updN_same]; omega) (by rw [updN_same]; omega) (e2 (by omega) (by omega)), fun _ _ => rfl, s1 (by omega)⟩
    unfold fHd
    rw [updN_same, e2 (by omega) (by omega), e1 (by omega) (by omega)]
    exact ⟨by omega, fun _ _ => H.fn (by omega) (by omega), fun _ => ⟨ti, tt, tt1, tt2, Nat.le_refl _⟩, fun h => by omega, fun h => by omega, fun h => by omega, fun h => by omega, fun h => by omega⟩
  · obtain ⟨i, x, g1, g2, g3⟩ := H.t (.inl a)
    have ex : (h (q * 5 + 3)).toNat = x := by omega
    rcases B.next g1 with ⟨hl, hn⟩ | ⟨y, hy, hn⟩
    · have S : fStep f h q = (f, updN (updN h (q * 5 + 4) (-1)) (q * 5 + 0) 3, false, 0) := by simp only [Nat.add_zero] at a ⊢; simp [fStep, a, ex, hn]
      rw [S]
      dsimp only
      refine ⟨ch, hi, ti, I.upd0 (q := q) (Int.le_refl _) (Nat.le_refl _) (Nat.le_refl _) B (s1 (by omega)) ?_ (fun _ _ => apq (e2 (by omega) (by omega)) (by omega) (by omega)), .sil _ (by omega) (by rw [updN_same]; omega) (by rw [updN_same]; omega) (by rw [updN_same]; omega) (e2 (by omega) (by omega)), fun _ _ => rfl, s1 (by omega)⟩
      unfold fHd
      rw [updN_same, e2 (by omega) (by omega), e2 (j := 3) (by omega) (by omega)]
      exact ⟨by omega, fun _ _ => H.fn (by omega) (by omega), fun _ => ⟨i, x, g1, g2, g3⟩, fun h => by omega, fun h => by omega, fun h => by omega, fun h => by omega, fun h => by omega⟩
    · have hy0 : (y : Int) ≥ 0 := by omega
      have S : fStep f h q = (f, updN (updN h (q * 5 + 4) y) (q * 5 + 0) 4, false, 0) := by simp only [Nat.add_zero] at a ⊢; simp [fStep, a, ex, hn]
      rw [S]
      dsimp only
      refine ⟨ch, hi, ti, I.upd0 (q := q) (Int.le_refl _) (Nat.le_refl _) (Nat.le_refl _) B (s1 (by omega)) ?_ (fun _ _ => apq (e2 (by omega) (by omega)) (by omega) (by omega)), .sil _ (by omega) (by rw [updN_same]; omega) (by rw [updN_same]; omega) (by rw [updN_same]; omega) (e2 (by omega) (by omega)), fun _ _ => rfl, s1 (by omega)⟩
      unfold fHd
      rw [updN_same, e2 (by omega) (by omega), e2 (j := 3) (by omega) (by omega), e1 (by omega) (by omega)]
      exact ⟨by omega, fun _ _ => H.fn (by omega) (by omega), fun h => by omega, fun _ => ⟨i, x, y, g1, hy, g2, rfl, g3⟩, fun h => by omega, fun h => by omega, fun h => by omega, fun h => by omega⟩
  · obtain ⟨i, x, g1, g2, g3⟩ := H.t (.inr a)
    obtain ⟨k, k1, k2, k3, k4⟩ := H.fn (by omega) (by omega)
    have ex : (h (q * 5 + 3)).toNat = x := by omega
    rcases B.next g1 with ⟨hl, hn⟩ | ⟨y, hy, hn⟩
    · have S : fStep f h q = (updN f (2 + x) k, updN h (q * 5 + 0) 5, false, 0) := by simp only [Nat.add_zero] at a ⊢; simp [fStep, a, ex, hn, k1]
      rw [S]
      dsimp only
      have hx40 := B.x40 g1
      refine ⟨ch ++ [k], hi, ti, I.upd (q := q) (l := [k]) (by rw [updN_ne (by omega)]; exact Int.le_refl _) (Nat.le_refl _) (Nat.le_refl _) (B.link g1 hl k3 k4) s0 (fun p hp hne b1 b2 m hm => ?_) ?_ (fun h1 h2 => by rw [updN_same] at h2; omega), .link _ k a k1 k4 (updN_same _ _ _) (by rw [updH_ne2 (by omega)]; exact k1), fun j hj => updN_ne (by omega), s0⟩
      · simp only [List.mem_singleton]
        intro hmk
        have := I.ap p q hp hq hne b1 b2 (by omega) (by omega)
        omega
      · unfold fHd
        rw [updN_same, updH_ne2 (by omega), updH_ne2 (by omega), updH_ne2 (by omega), updH_ne2 (by omega)]
        refine ⟨by omega, fun _ h => by omega, fun h => by omega, fun h => by omega, fun _ => ⟨i, x, k, app_get g1, ?_, g2, k1, g3⟩, fun h => by omega, fun h => by omega, fun h => by omega⟩
        rw [hl]; simp
    · have hne : ¬ (y : Int) = -1 := by omega
      have S : fStep f h q = (f, updN h (q * 5 + 0) 1, false, 0) := by simp only [Nat.add_zero] at a ⊢; simp [fStep, a, ex, hn, hne]
      rw [S]
      dsimp only
      refine ⟨ch, hi, ti, I.upd0 (q := q) (Int.le_refl _) (Nat.le_refl _) (Nat.le_refl _) B s0 ?_ (fun _ _ => apq (updH_ne2 (by omega)) (by omega) (by omega)), .sil _ (by omega) (by rw [updN_same]; omega) (by rw [updN_same]; omega) (by rw [updN_same]; omega) (updH_ne2 (by omega)), fun _ _ => rfl, s0⟩
      unfold fHd
      rw [updN_same, updH_ne2 (by omega)]
      exact FHd.one ⟨k, k1, k2, k3, k4⟩
  · obtain ⟨i, x, y, g1, g2, g3, g4, g5⟩ := H.t4 (.inl a)
    obtain ⟨k, k1, k2, k3, k4⟩ := H.fn (by omega) (by omega)
    by_cases hc : f 1 = h (q * 5 + 3)
    · have S : fStep f h q = (updN f 1 y, updN h (q * 5 + 0) 1, false, 0) := by simp only [Nat.add_zero] at a ⊢; simp [fStep, a, hc, g4]
      rw [S]
      dsimp only
      have hit : i = ti := nd_idx B.nd g1 (by rw [tt1]; congr 1; omega)
      subst hit
      refine ⟨ch, hi, i + 1, I.upd0 (q := q) (by rw [updN_ne (by omega)]; exact Int.le_refl _) (Nat.le_refl _) (Nat.le_succ _) (B.tailup g2) s0 ?_ (fun _ _ => apq (updH_ne2 (by omega)) (by omega) (by omega)), .sil _ (by omega) (by rw [updN_same]; omega) (by rw [updN_same]; omega) (by rw [updN_same]; omega) (updH_ne2 (by omega)), fun j hj => updN_ne (by omega), s0⟩
      unfold fHd
      rw [updN_same, updH_ne2 (by omega), updN_ne (show 82 ≠ 1 by omega)]
      exact FHd.one ⟨k, k1, k2, k3, k4⟩
    · have S : fStep f h q = (f, updN h (q * 5 + 0) 1, false, 0) := by simp only [Nat.add_zero] at a ⊢; simp [fStep, a, hc]
      rw [S]
      dsimp only
      refine ⟨ch, hi, ti, I.upd0 (q := q) (Int.le_refl _) (Nat.le_refl _) (Nat.le_refl _) B s0 ?_ (fun _ _ => apq (updH_ne2 (by omega)) (by omega) (by omega)), .sil _ (by omega) (by rw [updN_same]; omega) (by rw [updN_same]; omega) (by rw [updN_same]; omega) (updH_ne2 (by omega)), fun _ _ => rfl, s0⟩
      unfold fHd
      rw [updN_same, updH_ne2 (by omega)]
      exact FHd.one ⟨k, k1, k2, k3, k4⟩
  · obtain ⟨i, x, y, g1, g2, g3, g4, g5⟩ := H.t5 a
    by_cases hc : f 1 = h (q * 5 + 3)
    · have S : fStep f h q = (updN f 1 y, fDone h q, true, -1) := by simp only [Nat.add_zero] at a ⊢; simp [fStep, a, hc, g4]
      rw [S]
      dsimp only
      have hit : i = ti := nd_idx B.nd g1 (by rw [tt1]; congr 1; omega)
      subst hit
      exact ⟨ch, hi, i + 1, I.upd0 (q := q) (by rw [updN_ne (by omega)]; exact Int.le_refl _) (Nat.le_refl _) (Nat.le_succ _) (B.tailup g2) (sd fun _ _ _ _ => rfl) hz apz, .over _ a d0, fun j hj => updN_ne (by omega), sd fun _ _ _ _ => rfl⟩
    · have S : fStep f h q = (f, fDone h q, true, -1) := by simp only [Nat.add_zero] at a ⊢; simp [fStep, a, hc]
      rw [S]
      dsimp only
      exact ⟨ch, hi, ti, I.upd0 (q := q) (Int.le_refl _) (Nat.le_refl _) (Nat.le_refl _) B (sd fun _ _ _ _ => rfl) hz apz, .over _ a d0, fun _ _ => rfl, sd fun _ _ _ _ => rfl⟩
  · have S : fStep f h q = (f, updN (updN h (q * 5 + 2) (f 0)) (q * 5 + 0) 7, false, 0) := by simp only [Nat.add_zero] at a ⊢; simp [fStep, a]
    rw [S]
    dsimp only
    refine ⟨ch, hi, ti, I.upd0 (q := q) (Int.le_refl _) (Nat.le_refl _) (Nat.le_refl _) B (s1 (by omega)) ?_ (fun _ h2 => by rw [updN_same] at h2; omega), .sil _ (by omega) (by rw [updN_same]; omega) (by rw [updN_same]; omega) (by rw [updN_same]; omega) (e2 (by omega) (by omega)), fun _ _ => rfl, s1 (by omega)⟩
    unfold fHd
    rw [updN_same, e1 (i := 2) (by omega) (by omega)]
    exact ⟨by omega, fun _ h => by omega, fun h => by omega, fun h => by omega, fun h => by omega, fun _ => ⟨hi, th, th1, th2, Nat.le_refl _⟩, fun h => by omega, fun h => by omega⟩
  · obtain ⟨i, x, g1, g2, g3⟩ := H.d7 a
    have S : fStep f h q = (f, updN (updN h (q * 5 + 3) (f 1)) (q * 5 + 0) 8, false, 0) := by simp only [Nat.add_zero] at a ⊢; simp [fStep, a]
    rw [S]
    dsimp only
    have hht := B.ht
    refine ⟨ch, hi, ti, I.upd0 (q := q) (Int.le_refl _) (Nat.le_refl _) (Nat.le_refl _) B (s1 (by omega)) ?_ (fun _ h2 => by rw [updN_same] at h2; omega), .sil _ (by omega) (by rw [updN_same]; omega) (by rw [updN_same]; omega) (by rw [updN_same]; omega) (e2 (by omega) (by omega)), fun _ _ => rfl, s1 (by omega)⟩
    unfold fHd
    rw [updN_same, e1 (i := 3) (by omega) (by omega), e2 (j := 2) (by omega) (by omega)]
    exact ⟨by omega, fun _ h => by omega, fun h => by omega, fun h => by omega, fun h => by omega, fun h => by omega, fun _ => ⟨i, ti, x, tt, g1, tt1, g2, tt2, by omega, g3, Nat.le_refl _⟩, fun h => by omega⟩
  · obtain ⟨i, j, x, y, g1, g2, g3, g4, g5, g6, g7⟩ := H.d8 a
    have ex : (h (q * 5 + 2)).toNat = x := by omega
    rcases B.next g1 with ⟨hl, hn⟩ | ⟨z, hzz, hn⟩
    · -- the last one: it is empty
      have hj := (List.getElem?_eq_some_iff.1 g2).1
      have hij : j = i := by omega
      subst hij
      have hxy : x = y := by rw [g1] at g2; exact Option.some.inj g2
      have hd : h (q * 5 + 2) = h (q * 5 + 3) := by omega
      have ey : (h (q * 5 + 3)).toNat = x := by omega
      have S : fStep f h q = (f, fDone (updN h (q * 5 + 4) (-1)) q, true, -1) := by simp only [Nat.add_zero] at a ⊢; simp [fStep, a, ey, hn, hd]
      rw [S]
      dsimp only
      have hhi := (List.getElem?_eq_some_iff.1 th1).1
      have same : ∀ p j, p ≠ q → j < 5 → updN h (q * 5 + 4) (-1) (p * 5 + j) = h (p * 5 + j) := fun p j hp hj => updH_ne hp (by omega) hj
      exact ⟨ch, hi, ti, I.upd0 (q := q) (Int.le_refl _) (Nat.le_refl _) (Nat.le_refl _) B (sd same) hz apz, .none _ a (by omega) d0, fun _ _ => rfl, sd same⟩
    · by_cases hd : h (q * 5 + 2) = h (q * 5 + 3)
      · have hxy : x = y := by omega
        have hij : i = j := nd_idx B.nd g1 (hxy ▸ g2)
        have ey : (h (q * 5 + 3)).toNat = x := by omega
        have hz0 : ¬ (z : Int) < 0 := by omega
        have S : fStep f h q = (f, updN (updN h (q * 5 + 4) z) (q * 5 + 0) 9, false, 0) := by simp only [Nat.add_zero] at a ⊢; simp [fStep, a, ey, hn, hd, hz0]
        rw [S]
        dsimp only
        refine ⟨ch, hi, ti, I.upd0 (q := q) (Int.le_refl _) (Nat.le_refl _) (Nat.le_refl _) B (s1 (by omega)) ?_ (fun _ h2 => by rw [updN_same] at h2; omega), .sil _ (by omega) (by rw [updN_same]; omega) (by rw [updN_same]; omega) (by rw [updN_same]; omega) (e2 (by omega) (by omega)), fun _ _ => rfl, s1 (by omega)⟩
        unfold fHd
        rw [updN_same, e1 (i := 4) (by omega) (by omega), e2 (j := 3) (by omega) (by omega)]
        exact ⟨by omega, fun _ h => by omega, fun h => by omega, fun _ => ⟨i, x, z, g1, hzz, by omega, rfl, by omega⟩, fun h => by omega, fun h => by omega, fun h => by omega, fun h => by omega⟩
      · have hz0 : ¬ (z : Int) < 0 := by omega
        have S : fStep f h q = (f, updN (updN h (q * 5 + 4) z) (q * 5 + 0) 10, false, 0) := by simp only [Nat.add_zero] at a ⊢; simp [fStep, a, ex, hn, hd]
        rw [S]
        dsimp only
        have hij : i ≠ j := fun he => by subst he; rw [g1] at g2; have := Option.some.inj g2; omega
        refine ⟨ch, hi, ti, I.upd0 (q := q) (Int.le_refl _) (Nat.le_refl _) (Nat.le_refl _) B (s1 (by omega)) ?_ (fun _ h2 => by rw [updN_same] at h2; omega), .sil _ (by omega) (by rw [updN_same]; omega) (by rw [updN_same]; omega) (by rw [updN_same]; omega) (e2 (by omega) (by omega)), fun _ _ => rfl, s1 (by omega)⟩
        unfold fHd
        rw [updN_same, e1 (i := 4) (by omega) (by omega), e2 (j := 2) (by omega) (by omega)]
        exact ⟨by omega, fun _ h => by omega, fun h => by omega, fun h => by omega, fun h => by omega, fun h => by omega, fun h => by omega, fun _ => ⟨i, x, z, g1, hzz, g3, rfl, by omega⟩⟩
  · obtain ⟨i, x, y, g1, g2, g3, g4, g5⟩ := H.t4 (.inr a)
    by_cases hc : f 1 = h (q * 5 + 3)
    · have S : fStep f h q = (updN f 1 y, updN h (q * 5 + 0) 6, false, 0) := by simp only [Nat.add_zero] at a ⊢; simp [fStep, a, hc, g4]
      rw [S]
      dsimp only
      have hit : i = ti := nd_idx B.nd g1 (by rw [tt1]; congr 1; omega)
      subst hit
      refine ⟨ch, hi, i + 1, I.upd0 (q := q) (by rw [updN_ne (by omega)]; exact Int.le_refl _) (Nat.le_refl _) (Nat.le_succ _) (B.tailup g2) s0 ?_ (fun _ h2 => by rw [updN_same] at h2; omega), .sil _ (by omega) (by rw [updN_same]; omega) (by rw [updN_same]; omega) (by rw [updN_same]; omega) (updH_ne2 (by omega)), fun j hj => updN_ne (by omega), s0⟩
      unfold fHd
      rw [updN_same]
      exact FHd.six
    · have S : fStep f h q = (f, updN h (q * 5 + 0) 6, false, 0) := by simp only [Nat.add_zero] at a ⊢; simp [fStep, a, hc]
      rw [S]
      dsimp only
      refine ⟨ch, hi, ti, I.upd0 (q := q) (Int.le_refl _) (Nat.le_refl _) (Nat.le_refl _) B s0 ?_ (fun _ h2 => by rw [updN_same] at h2; omega), .sil _ (by omega) (by rw [updN_same]; omega) (by rw [updN_same]; omega) (by rw [updN_same]; omega) (updH_ne2 (by omega)), fun _ _ => rfl, s0⟩
      unfold fHd
      rw [updN_same]
      exact FHd.six
  · obtain ⟨i, x, y, g1, g2, g3, g4, g5⟩ := H.d10 a
    by_cases hc : f 0 = h (q * 5 + 2)
    · have ey : (h (q * 5 + 4)).toNat = y := by omega
      have S : fStep f h q = (updN f 0 y, fDone h q, true, f (42 + y)) := by
        have : updN f 0 (y : Int) (42 + y) = f (42 + y) := updN_ne (by omega)
        simp only [Nat.add_zero] at a ⊢; simp [fStep, a, hc, g4, this]
      rw [S]
      dsimp only
      have hit : i = hi := nd_idx B.nd g1 (by rw [th1]; congr 1; omega)
      subst hit
      exact ⟨ch, i + 1, ti, I.upd0 (q := q) (by rw [updN_ne (by omega)]; exact Int.le_refl _) (Nat.le_succ _) (Nat.le_refl _) (B.headup g2 g5) (sd fun _ _ _ _ => rfl) hz apz, .got _ y a g2 d0, fun j hj => updN_ne (by omega), sd fun _ _ _ _ => rfl⟩
    · have S : fStep f h q = (f, updN h (q * 5 + 0) 6, false, 0) := by simp only [Nat.add_zero] at a ⊢; simp [fStep, a, hc]
      rw [S]
      dsimp only
      refine ⟨ch, hi, ti, I.upd0 (q := q) (Int.le_refl _) (Nat.le_refl _) (Nat.le_refl _) B s0 ?_ (fun _ h2 => by rw [updN_same] at h2; omega), .sil _ (by omega) (by rw [updN_same]; omega) (by rw [updN_same]; omega) (by rw [updN_same]; omega) (updH_ne2 (by omega)), fun _ _ => rfl, s0⟩
      unfold fHd
      rw [updN_same]
      exact FHd.six
theorem FInv.get {n : Nat} {f h : Nat → Int} {ch : List Nat} {hi ti : Nat} (I : FInv n f h ch hi ti) {q : Nat} : FInv n f (fHand h q [6, 0, 0, 0, 0]) ch hi ti := by
  refine I.upd0 (q := q) (Int.le_refl _) (Nat.le_refl _) (Nat.le_refl _) I.b (fun p j hp hj => fHand_ne hp hj) ?_ (fun _ h2 => by rw [fHand_same (by omega)] at h2; exact absurd h2 (by decide))
  unfold fHd
  rw [fHand_same (by omega)]
  exact FHd.six
theorem FInv.put {n : Nat} {f h : Nat → Int} {ch : List Nat} {hi ti : Nat} (I : FInv n f h ch hi ti) {q : Nat} (v : Int) (hm : f 82 ≠ 40) : FInv n (updN (updN f (42 + (f 82).toNat) v) 82 (f 82 + 1)) (fHand h q [1, f 82, 0, 0, 0]) ch hi ti := by
  have B := I.b
  have m0 := B.m0
  have m1 := B.m1
  have e82 : updN (updN f (42 + (f 82).toNat) v) 82 (f 82 + 1) 82 = f 82 + 1 := updN_same _ _ _
  refine I.upd0 (q := q) (by rw [e82]; omega) (Nat.le_refl _) (Nat.le_refl _) (B.put v hm) (fun p j hp hj => fHand_ne hp hj) ?_ (fun _ _ p hp hne a1 a2 => ?_)
  · unfold fHd
    rw [fHand_same (by omega), fHand_same (by omega), e82]
    exact FHd.one ⟨(f 82).toNat, by show f 82 = _; omega, by omega, by omega, fun hm => by have := B.lt _ hm; omega⟩
  · obtain ⟨k, k1, k2, k3, k4⟩ := (I.q p hp).fn a1 a2
    rw [fHand_same (by omega)]
    show _ ≠ f 82
    omega
end Go.Proofs.YtogbkgimpkaemaaDoor
