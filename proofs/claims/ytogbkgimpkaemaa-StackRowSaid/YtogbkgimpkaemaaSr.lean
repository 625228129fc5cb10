import Derived.Test.YtogbkgimpkaemaaSb
namespace Go.Proofs.Ytogbkgimpkaemaa
open Go.Eng
set_option maxRecDepth 20000
/-! ### what StackRow keeps, plain -/
/-- the nodes of a stack, from its top on -/
def chainAt (X : Nat → Int) : Int → List Nat → Prop
  | a, [] => a = -1
  | a, x :: l => a = (x : Int) ∧ chainAt X (X x) l
theorem chainAt.congr {X X' : Nat → Int} : ∀ {l : List Nat} {a : Int}, (∀ x ∈ l, X' x = X x) → chainAt X a l → chainAt X' a l
  | [], _, _, h => h
  | x :: l, _, e, h => ⟨h.1, by rw [e x (by simp)]; exact chainAt.congr (fun y hy => e y (by simp [hy])) h.2⟩
structure CI (s : SK) (ch : List Nat) : Prop where
  tg : s.tg = true
  at' : chainAt s.X s.a ch
  nd : ch.Nodup
  lt : ∀ x ∈ ch, x < 4
  us : ∀ x ∈ ch, s.U x = true
structure CH (s : SK) (ch : List Nat) (p : Nat) : Prop where
  new : s.h (p * 5 + 0) = 1 ∨ s.h (p * 5 + 0) = 2 → s.U (s.h (p * 5 + 1)).toNat = true ∧ (s.h (p * 5 + 1)).toNat ∉ ch
  x : s.h (p * 5 + 0) = 2 → s.X (s.h (p * 5 + 1)).toNat = s.h (p * 5 + 3)
  tag : s.h (p * 5 + 0) = 4 ∨ s.h (p * 5 + 0) = 5 → s.h (p * 5 + 4) ≤ s.t
  seen : s.h (p * 5 + 0) = 4 ∨ s.h (p * 5 + 0) = 5 → s.h (p * 5 + 4) = s.t → s.h (p * 5 + 3) = s.a
  nx : s.h (p * 5 + 0) = 5 → s.h (p * 5 + 4) = s.t → s.h (p * 5 + 2) = s.X s.a.toNat
structure CA (n : Nat) (s : SK) (ch : List Nat) : Prop where
  c : CI s ch
  q : ∀ p, p < n → CH s ch p
  dis : ∀ p q, p < n → q < n → p ≠ q → (s.h (p * 5 + 0) = 1 ∨ s.h (p * 5 + 0) = 2) → (s.h (q * 5 + 0) = 1 ∨ s.h (q * 5 + 0) = 2) → (s.h (p * 5 + 1)).toNat ≠ (s.h (q * 5 + 1)).toNat
theorem CA.start (n : Nat) : CA n (k0 true) [] := ⟨⟨rfl, rfl, by simp, by simp, by simp⟩, fun p _ => ⟨by simp [k0], by simp [k0], by simp [k0], by simp [k0], by simp [k0]⟩, by simp [k0]⟩
theorem CH.keep {s s' : SK} {ch ch' : List Nat} {p : Nat} {i : Int} (g : CH s ch p) (k : KH s i p) (e : ∀ j, j < 5 → s'.h (p * 5 + j) = s.h (p * 5 + j))
    (hN : s.h (p * 5 + 0) = 1 ∨ s.h (p * 5 + 0) = 2 → s'.U (s.h (p * 5 + 1)).toNat = true ∧ (s.h (p * 5 + 1)).toNat ∉ ch' ∧ s'.X (s.h (p * 5 + 1)).toNat = s.X (s.h (p * 5 + 1)).toNat)
    (hT : s'.a = s.a ∧ s'.t = s.t ∧ (0 ≤ s.a → s'.X s.a.toNat = s.X s.a.toNat) ∨ s'.t = s.t + 1) : CH s' ch' p := by
  have e0 := e 0 (by omega)
  have e1 := e 1 (by omega)
  have e2 := e 2 (by omega)
  have e3 := e 3 (by omega)
  have e4 := e 4 (by omega)
  refine ⟨fun h => ?_, fun h => ?_, fun h => ?_, fun h ht => ?_, fun h ht => ?_⟩
  · rw [e0] at h; rw [e1]; exact ⟨(hN h).1, (hN h).2.1⟩
  · rw [e0] at h; rw [e1, e3, (hN (.inr h)).2.2]; exact g.x h
  · rw [e0] at h; rw [e4]; have := g.tag h; rcases hT with hT | hT <;> omega
  · rw [e0] at h; rw [e4] at ht; rw [e3]
    have := g.tag h
    rcases hT with hT | hT
    · rw [hT.1]; exact g.seen h (by omega)
    · omega
  · rw [e0] at h; rw [e4] at ht; rw [e2]
    have := g.tag (.inr h)
    rcases hT with hT | hT
    · have h5 := g.seen (.inr h) (by omega)
      have := k.sn (.inr h)
      rw [hT.1, hT.2.2 (by omega)]; exact g.nx h (by omega)
    · omega
/-- one hand is another one, the others as they were -/
theorem CA.hand {n q : Nat} {s s' : SK} {ch ch' : List Nat} {vs : List Int} {i : Int} (A : CA n s ch) (K : KI n s i) (hh : s'.h = kHand s.h q vs) (c : CI s' ch')
    (hN : ∀ p, p < n → p ≠ q → s.h (p * 5 + 0) = 1 ∨ s.h (p * 5 + 0) = 2 → s'.U (s.h (p * 5 + 1)).toNat = true ∧ (s.h (p * 5 + 1)).toNat ∉ ch' ∧ s'.X (s.h (p * 5 + 1)).toNat = s.X (s.h (p * 5 + 1)).toNat)
    (hT : s'.a = s.a ∧ s'.t = s.t ∧ (0 ≤ s.a → s'.X s.a.toNat = s.X s.a.toNat) ∨ s'.t = s.t + 1)
    (h1 : gI vs 0 = 1 ∨ gI vs 0 = 2 → s'.U (gI vs 1).toNat = true ∧ (gI vs 1).toNat ∉ ch' ∧ ∀ p, p < n → p ≠ q → s.h (p * 5 + 0) = 1 ∨ s.h (p * 5 + 0) = 2 → (gI vs 1).toNat ≠ (s.h (p * 5 + 1)).toNat)
    (h2 : gI vs 0 = 2 → s'.X (gI vs 1).toNat = gI vs 3) (h3 : gI vs 0 = 4 ∨ gI vs 0 = 5 → gI vs 4 ≤ s'.t ∧ (gI vs 4 = s'.t → gI vs 3 = s'.a)) (h4 : gI vs 0 = 5 → gI vs 4 = s'.t → gI vs 2 = s'.X s'.a.toNat) : CA n s' ch' := by
  have same : ∀ {p : Nat}, p ≠ q → ∀ j, j < 5 → s'.h (p * 5 + j) = s.h (p * 5 + j) := fun {p} hp j hj => by rw [hh, kHand_ne hp hj]
  have mine : ∀ j, j < 5 → s'.h (q * 5 + j) = gI vs j := fun j hj => by rw [hh, kHand_same hj]
  have q0 := mine 0 (by omega)
  have q1 := mine 1 (by omega)
  have q2 := mine 2 (by omega)
  have q3 := mine 3 (by omega)
  have q4 := mine 4 (by omega)
  refine ⟨c, fun p hp => ?_, fun p r hp hr hpr a1 a2 => ?_⟩
  · by_cases e : p = q
    · subst e
      exact ⟨by rw [q0, q1]; exact fun h => ⟨(h1 h).1, (h1 h).2.1⟩, by rw [q0, q1, q3]; exact h2, by rw [q0, q4]; exact fun h => (h3 h).1, by rw [q0, q4, q3]; exact fun h => (h3 h).2, by rw [q0, q4, q2]; exact h4⟩
    · exact (A.q p hp).keep (K.q p hp) (same e) (hN p hp e) hT
  · by_cases e : p = q
    · subst e
      rw [q0] at a1
      rw [same (Ne.symm hpr) 0 (by omega)] at a2
      rw [q1, same (Ne.symm hpr) 1 (by omega)]
      exact (h1 a1).2.2 r hr (Ne.symm hpr) a2
    · rw [same e 0 (by omega)] at a1
      by_cases e2 : r = q
      · subst e2
        rw [q0] at a2
        rw [q1, same e 1 (by omega)]
        exact Ne.symm ((h1 a2).2.2 p hp e a1)
      · rw [same e2 0 (by omega)] at a2
        rw [same e 1 (by omega), same e2 1 (by omega)]
        exact A.dis p r hp hr hpr a1 a2
theorem CA.put {n : Nat} {s : SK} {ch : List Nat} {i : Int} (A : CA n s ch) (K : KI n s i) (q : Nat) (v : Int) (hl : kLeast s.U ≠ 4) : CA n (kPut s q v) ch := by
  have hu := kLeast_used hl
  have us : ∀ {x : Nat}, s.U x = true → x ≠ kLeast s.U := fun hx he => by rw [he, hu] at hx; cases hx
  have C := A.c
  have U' : ∀ {x : Nat}, s.U x = true → (kPut s q v).U x = true := fun {x} hx => by
    show updN s.U (kLeast s.U) true x = true
    rw [updN_ne (us hx)]; exact hx
  refine A.hand (q := q) (vs := [1, kLeast s.U, 0, 0, 0]) K rfl ⟨C.tg, C.at', C.nd, C.lt, fun x hx => U' (C.us x hx)⟩ (fun p hp hpq ha => ⟨U' ((A.q p hp).new ha).1, ((A.q p hp).new ha).2, rfl⟩) (.inl ⟨rfl, rfl, fun _ => rfl⟩) (fun _ => ⟨?_, ?_, fun p hp hpq ha => ?_⟩) (fun h => by cases h) (fun h => by rcases h with h | h <;> cases h) (fun h => by cases h)
  · exact updN_same _ _ _
  · exact fun hx => us (C.us _ hx) rfl
  · exact Ne.symm (us ((A.q p hp).new ha).1)
theorem CA.pop {n : Nat} {s : SK} {ch : List Nat} {i : Int} (A : CA n s ch) (K : KI n s i) (q : Nat) : CA n { s with h := kHand s.h q [3, 0, 0, 0, 0] } ch :=
  A.hand (q := q) (vs := [3, 0, 0, 0, 0]) K rfl ⟨A.c.tg, A.c.at', A.c.nd, A.c.lt, A.c.us⟩ (fun p hp hpq ha => ⟨((A.q p hp).new ha).1, ((A.q p hp).new ha).2, rfl⟩) (.inl ⟨rfl, rfl, fun _ => rfl⟩) (fun h => by rcases h with h | h <;> cases h) (fun h => by cases h) (fun h => by rcases h with h | h <;> cases h) (fun h => by cases h)
inductive KT (s : SK) (ch ch' : List Nat) (q : Nat) : Prop
  | sil (e : ch' = ch) (d : (kStep s q).2.1 = false) (a : (kStep s q).1.h (q * 5 + 0) ≠ 0) (k : (kStep s q).1.h (q * 5 + 0) = 1 ∨ (kStep s q).1.h (q * 5 + 0) = 2 → s.h (q * 5 + 0) = 1 ∨ s.h (q * 5 + 0) = 2) (k2 : 3 ≤ (kStep s q).1.h (q * 5 + 0) → 3 ≤ s.h (q * 5 + 0)) (m : (kStep s q).1.h (q * 5 + 1) = s.h (q * 5 + 1))
  | push (x : Nat) (e : ch' = x :: ch) (hx : s.h (q * 5 + 1) = (x : Int)) (d : (kStep s q).2.1 = true) (g : (kStep s q).2.2 = -1) (a : s.h (q * 5 + 0) = 2) (a' : (kStep s q).1.h (q * 5 + 0) = 0)
  | none (e : ch = []) (e' : ch' = []) (d : (kStep s q).2.1 = true) (g : (kStep s q).2.2 = -1) (a : s.h (q * 5 + 0) = 3) (a' : (kStep s q).1.h (q * 5 + 0) = 0)
  | pop (x : Nat) (e : ch = x :: ch') (d : (kStep s q).2.1 = true) (g : (kStep s q).2.2 = s.V x) (a : s.h (q * 5 + 0) = 5) (a' : (kStep s q).1.h (q * 5 + 0) = 0)
set_option maxHeartbeats 1000000 in
theorem CA.step {n q : Nat} {s : SK} {ch : List Nat} {i : Int} (A : CA n s ch) (K : KI n s i) (hq : q < n) (hz : s.h (q * 5 + 0) ≠ 0) : ∃ ch', CA n (kStep s q).1 ch' ∧ KT s ch ch' q ∧ (kStep s q).1.V = s.V ∧ ∃ vs, (kStep s q).1.h = kHand s.h q vs := by
  obtain ⟨c0, c1, c2, c3, c4⟩ := K.q q hq
  obtain ⟨g1, g2, g3, g4, g5⟩ := A.q q hq
  have C := A.c
  have Ka := K.a
  have cs : s.h (q * 5 + 0) = 1 ∨ s.h (q * 5 + 0) = 2 ∨ s.h (q * 5 + 0) = 3 ∨ s.h (q * 5 + 0) = 4 ∨ s.h (q * 5 + 0) = 5 := by omega
  have old : ∀ p, p < n → p ≠ q → s.h (p * 5 + 0) = 1 ∨ s.h (p * 5 + 0) = 2 → s.U (s.h (p * 5 + 1)).toNat = true ∧ (s.h (p * 5 + 1)).toNat ∉ ch ∧ s.X (s.h (p * 5 + 1)).toNat = s.X (s.h (p * 5 + 1)).toNat := fun p hp _ ha => ⟨((A.q p hp).new ha).1, ((A.q p hp).new ha).2, rfl⟩
  have hd : 0 ≤ s.a → ∃ x l, ch = x :: l ∧ s.a = (x : Int) ∧ chainAt s.X (s.X x) l := fun h0 => by
    have ha := C.at'
    cases hc : ch with
    | nil => rw [hc] at ha; have : s.a = -1 := ha; omega
    | cons x l => rw [hc] at ha; exact ⟨x, l, rfl, ha.1, ha.2⟩
  have hs : ∀ {s' : SK} {vs : List Int}, s'.h = kHand s.h q vs → ∀ j, j < 5 → s'.h (q * 5 + j) = gI vs j := fun {s' vs} h j hj => by rw [h, kHand_same hj]
  have g0 : ∀ {x : Int} {l : List Int}, x ≠ 0 → gI (x :: l) 0 ≠ 0 := fun h => h
  have g9 : ∀ {x : Int} {l : List Int}, ¬ 3 ≤ x → ¬ 3 ≤ gI (x :: l) 0 := fun h => h
  rcases cs with b | b | b | b | b
  · have e : kStep s q = ({ s with X := updN s.X (s.h (q * 5 + 1)).toNat s.a, h := kHand s.h q [2, s.h (q * 5 + 1), s.h (q * 5 + 2), s.a, s.t] }, false, 0) := by unfold kStep; rw [if_pos b]
    obtain ⟨n1, n2⟩ := g1 (.inl b)
    refine ⟨ch, ?_, .sil rfl (by rw [e]) ?_ (fun _ => .inl b) ?_ ?_, by rw [e], _, by rw [e]⟩
    · rw [e]
      refine A.hand (q := q) (vs := [2, s.h (q * 5 + 1), s.h (q * 5 + 2), s.a, s.t]) K rfl ⟨C.tg, C.at'.congr (fun x hx => updN_ne (fun he => n2 (he ▸ hx))), C.nd, C.lt, C.us⟩ (fun p hp hpq ha => ⟨((A.q p hp).new ha).1, ((A.q p hp).new ha).2, updN_ne (A.dis p q hp hq hpq ha (.inl b))⟩) (.inl ⟨rfl, rfl, fun h0 => ?_⟩) (fun _ => ⟨n1, n2, fun p hp hpq ha => Ne.symm (A.dis p q hp hq hpq ha (.inl b))⟩) (fun _ => updN_same _ _ _) (fun h => by rcases h with h | h <;> cases h) (fun h => by cases h)
      obtain ⟨x, l, rfl, e1, _⟩ := hd h0
      refine updN_ne (fun he => n2 ?_)
      rw [← he, e1]; simp
    · rw [e, hs rfl 0 (by omega)]; exact g0 (by decide)
    · rw [e, hs rfl 0 (by omega)]; intro h; exact absurd h (g9 (by decide))
    · rw [e, hs rfl 1 (by omega)]; rfl
  · obtain ⟨n1, n2⟩ := g1 (.inr b)
    have m1 := c1 (.inr b)
    by_cases hc : s.a = s.h (q * 5 + 3) ∧ s.t = s.h (q * 5 + 4)
    · have e : kStep s q = ({ s with a := s.h (q * 5 + 1), t := kTag s (s.h (q * 5 + 4)), h := kHand s.h q [0, 0, 0, 0, 0] }, true, -1) := by unfold kStep; rw [if_neg (by omega), if_pos b, if_pos hc]
      have et : kTag s (s.h (q * 5 + 4)) = s.t + 1 := by unfold kTag; rw [if_pos C.tg, hc.2]
      refine ⟨(s.h (q * 5 + 1)).toNat :: ch, ?_, .push (s.h (q * 5 + 1)).toNat rfl (by omega) (by rw [e]) (by rw [e]) b ?_, by rw [e], _, by rw [e]⟩
      · rw [e]
        refine A.hand (q := q) (vs := [0, 0, 0, 0, 0]) K rfl ⟨C.tg, ⟨by show s.h (q * 5 + 1) = _; omega, ?_⟩, List.nodup_cons.2 ⟨n2, C.nd⟩, fun x hx => ?_, fun x hx => ?_⟩ (fun p hp hpq ha => ⟨((A.q p hp).new ha).1, ?_, rfl⟩) (.inr et) (fun h => by rcases h with h | h <;> cases h) (fun h => by cases h) (fun h => by rcases h with h | h <;> cases h) (fun h => by cases h)
        · show chainAt s.X (s.X (s.h (q * 5 + 1)).toNat) ch
          rw [g2 b, ← hc.1]; exact C.at'
        · rcases List.mem_cons.1 hx with rfl | hx
          · omega
          · exact C.lt x hx
        · rcases List.mem_cons.1 hx with rfl | hx
          · exact n1
          · exact C.us x hx
        · intro hx
          rcases List.mem_cons.1 hx with hx | hx
          · exact A.dis p q hp hq hpq ha (.inr b) hx
          · exact ((A.q p hp).new ha).2 hx
      · rw [e, hs rfl 0 (by omega)]; rfl
    · have e : kStep s q = ({ s with h := kHand s.h q [1, s.h (q * 5 + 1), s.h (q * 5 + 2), s.h (q * 5 + 3), s.h (q * 5 + 4)] }, false, 0) := by unfold kStep; rw [if_neg (by omega), if_pos b, if_neg hc]
      refine ⟨ch, ?_, .sil rfl (by rw [e]) ?_ (fun _ => .inr b) ?_ ?_, by rw [e], _, by rw [e]⟩
      · rw [e]
        exact A.hand (q := q) (vs := [1, s.h (q * 5 + 1), s.h (q * 5 + 2), s.h (q * 5 + 3), s.h (q * 5 + 4)]) K rfl ⟨C.tg, C.at', C.nd, C.lt, C.us⟩ old (.inl ⟨rfl, rfl, fun _ => rfl⟩) (fun _ => ⟨n1, n2, fun p hp hpq ha => Ne.symm (A.dis p q hp hq hpq ha (.inr b))⟩) (fun h => by cases h) (fun h => by rcases h with h | h <;> cases h) (fun h => by cases h)
      · rw [e, hs rfl 0 (by omega)]; exact g0 (by decide)
      · rw [e, hs rfl 0 (by omega)]; intro h; exact absurd h (g9 (by decide))
      · rw [e, hs rfl 1 (by omega)]; rfl
  · by_cases hc : s.a < 0
    · have e : kStep s q = ({ s with h := kHand s.h q [0, 0, 0, 0, 0] }, true, -1) := by unfold kStep; rw [if_neg (by omega), if_neg (by omega), if_pos b, if_pos hc]
      have hn : ch = [] := by
        have ha := C.at'
        cases hc2 : ch with
        | nil => rfl
        | cons x l => rw [hc2] at ha; have : s.a = (x : Int) := ha.1; omega
      refine ⟨ch, ?_, .none hn hn (by rw [e]) (by rw [e]) b ?_, by rw [e], _, by rw [e]⟩
      · rw [e]
        exact A.hand (q := q) (vs := [0, 0, 0, 0, 0]) K rfl ⟨C.tg, C.at', C.nd, C.lt, C.us⟩ old (.inl ⟨rfl, rfl, fun _ => rfl⟩) (fun h => by rcases h with h | h <;> cases h) (fun h => by cases h) (fun h => by rcases h with h | h <;> cases h) (fun h => by cases h)
      · rw [e, hs rfl 0 (by omega)]; rfl
    · have e : kStep s q = ({ s with h := kHand s.h q [4, s.h (q * 5 + 1), s.h (q * 5 + 2), s.a, s.t] }, false, 0) := by unfold kStep; rw [if_neg (by omega), if_neg (by omega), if_pos b, if_neg hc]
      refine ⟨ch, ?_, .sil rfl (by rw [e]) ?_ ?_ (fun _ => by omega) ?_, by rw [e], _, by rw [e]⟩
      · rw [e]
        exact A.hand (q := q) (vs := [4, s.h (q * 5 + 1), s.h (q * 5 + 2), s.a, s.t]) K rfl ⟨C.tg, C.at', C.nd, C.lt, C.us⟩ old (.inl ⟨rfl, rfl, fun _ => rfl⟩) (fun h => by rcases h with h | h <;> cases h) (fun h => by cases h) (fun _ => ⟨Int.le_refl _, fun _ => rfl⟩) (fun h => by cases h)
      · rw [e, hs rfl 0 (by omega)]; exact g0 (by decide)
      · rw [e, hs rfl 0 (by omega)]; intro h; rcases h with h | h <;> cases h
      · rw [e, hs rfl 1 (by omega)]; rfl
  · have e : kStep s q = ({ s with h := kHand s.h q [5, s.h (q * 5 + 1), s.X (s.h (q * 5 + 3)).toNat, s.h (q * 5 + 3), s.h (q * 5 + 4)] }, false, 0) := by unfold kStep; rw [if_neg (by omega), if_neg (by omega), if_neg (by omega), if_pos b]
    refine ⟨ch, ?_, .sil rfl (by rw [e]) ?_ ?_ (fun _ => by omega) ?_, by rw [e], _, by rw [e]⟩
    · rw [e]
      exact A.hand (q := q) (vs := [5, s.h (q * 5 + 1), s.X (s.h (q * 5 + 3)).toNat, s.h (q * 5 + 3), s.h (q * 5 + 4)]) K rfl ⟨C.tg, C.at', C.nd, C.lt, C.us⟩ old (.inl ⟨rfl, rfl, fun _ => rfl⟩) (fun h => by rcases h with h | h <;> cases h) (fun h => by cases h) (fun _ => ⟨g3 (.inl b), g4 (.inl b)⟩) (fun _ ht => by
        show s.X (s.h (q * 5 + 3)).toNat = s.X s.a.toNat
        rw [g4 (.inl b) ht])
    · rw [e, hs rfl 0 (by omega)]; exact g0 (by decide)
    · rw [e, hs rfl 0 (by omega)]; intro h; rcases h with h | h <;> cases h
    · rw [e, hs rfl 1 (by omega)]; rfl
  · have m1 := c2 (.inr b)
    by_cases hc : s.a = s.h (q * 5 + 3) ∧ s.t = s.h (q * 5 + 4)
    · have e : kStep s q = ({ s with a := s.h (q * 5 + 2), t := kTag s (s.h (q * 5 + 4)), U := updN s.U (s.h (q * 5 + 3)).toNat false, h := kHand s.h q [0, 0, 0, 0, 0] }, true, s.V (s.h (q * 5 + 3)).toNat) := by
        unfold kStep; rw [if_neg (by omega), if_neg (by omega), if_neg (by omega), if_neg (by omega), if_pos b, if_pos hc]
      have et : kTag s (s.h (q * 5 + 4)) = s.t + 1 := by unfold kTag; rw [if_pos C.tg, hc.2]
      obtain ⟨x, l, rfl, e1, e2⟩ := hd (by omega)
      have ex : (s.h (q * 5 + 3)).toNat = x := by omega
      have enx := g5 b hc.2.symm
      rw [e1, Int.toNat_natCast] at enx
      have nd := List.nodup_cons.1 C.nd
      refine ⟨l, ?_, .pop x rfl (by rw [e]) (by rw [e, ex]) b ?_, by rw [e], _, by rw [e]⟩
      · rw [e, ex]
        refine A.hand (q := q) (vs := [0, 0, 0, 0, 0]) K rfl ⟨C.tg, ?_, nd.2, fun y hy => C.lt y (by simp [hy]), fun y hy => ?_⟩ (fun p hp hpq ha => ⟨?_, fun hx => ((A.q p hp).new ha).2 (by simp [hx]), rfl⟩) (.inr et) (fun h => by rcases h with h | h <;> cases h) (fun h => by cases h) (fun h => by rcases h with h | h <;> cases h) (fun h => by cases h)
        · show chainAt s.X (s.h (q * 5 + 2)) l
          rw [enx]; exact e2
        · show updN s.U x false y = true
          rw [updN_ne (fun he : y = x => nd.1 (by rw [← he]; exact hy))]; exact C.us y (by simp [hy])
        · show updN s.U x false _ = true
          rw [updN_ne (fun he => ((A.q p hp).new ha).2 (by rw [he]; simp))]; exact ((A.q p hp).new ha).1
      · rw [e, hs rfl 0 (by omega)]; rfl
    · have e : kStep s q = ({ s with h := kHand s.h q [3, s.h (q * 5 + 1), s.h (q * 5 + 2), s.h (q * 5 + 3), s.h (q * 5 + 4)] }, false, 0) := by
        unfold kStep; rw [if_neg (by omega), if_neg (by omega), if_neg (by omega), if_neg (by omega), if_pos b, if_neg hc]
      refine ⟨ch, ?_, .sil rfl (by rw [e]) ?_ ?_ (fun _ => by omega) ?_, by rw [e], _, by rw [e]⟩
      · rw [e]
        exact A.hand (q := q) (vs := [3, s.h (q * 5 + 1), s.h (q * 5 + 2), s.h (q * 5 + 3), s.h (q * 5 + 4)]) K rfl ⟨C.tg, C.at', C.nd, C.lt, C.us⟩ old (.inl ⟨rfl, rfl, fun _ => rfl⟩) (fun h => by rcases h with h | h <;> cases h) (fun h => by cases h) (fun h => by rcases h with h | h <;> cases h) (fun h => by cases h)
      · rw [e, hs rfl 0 (by omega)]; exact g0 (by decide)
      · rw [e, hs rfl 0 (by omega)]; intro h; rcases h with h | h <;> cases h
      · rw [e, hs rfl 1 (by omega)]; rfl
/-! how long a hand may take -/
def sOwn (s : SK) (p : Nat) : Nat := if s.h (p * 5 + 0) = 1 then 2 else if s.h (p * 5 + 0) = 2 then 1 else if s.h (p * 5 + 0) = 3 then 3 else if s.h (p * 5 + 0) = 4 then 2 else if s.h (p * 5 + 0) = 5 then 1 else 0
def sStale (s : SK) (p : Nat) : Nat := if (s.h (p * 5 + 0) = 2 ∨ s.h (p * 5 + 0) = 4 ∨ s.h (p * 5 + 0) = 5) ∧ ¬ (s.a = s.h (p * 5 + 3) ∧ s.t = s.h (p * 5 + 4)) then 3 else 0
def bz (h : Nat → Int) (q : Nat) : Nat := if h (q * 5 + 0) = 0 then 0 else 1
def tot (n : Nat) (h : Nat → Int) : Nat := ((List.range n).map (bz h)).sum
theorem tot_succ (n : Nat) (h : Nat → Int) : tot (n + 1) h = tot n h + bz h n := by simp [tot, List.range_succ]
theorem tot_le : ∀ (n : Nat) (h : Nat → Int), tot n h ≤ n
  | 0, _ => Nat.le_refl _
  | n + 1, h => by have := tot_le n h; rw [tot_succ]; unfold bz; split <;> omega
theorem tot_congr {h h' : Nat → Int} : ∀ {n : Nat}, (∀ p, p < n → h' (p * 5 + 0) = h (p * 5 + 0)) → tot n h' = tot n h
  | 0, _ => rfl
  | n + 1, e => by rw [tot_succ, tot_succ, tot_congr (n := n) (fun p hp => e p (by omega))]; unfold bz; rw [e n (by omega)]
theorem tot_upd {h h' : Nat → Int} {q : Nat} : ∀ {n : Nat}, q < n → (∀ p, p < n → p ≠ q → h' (p * 5 + 0) = h (p * 5 + 0)) → tot n h' + bz h q = tot n h + bz h' q
  | 0, hq, _ => by omega
  | n + 1, hq, e => by
    rw [tot_succ, tot_succ]
    by_cases hn : n = q
    · subst hn
      rw [tot_congr (h := h) (h' := h') (n := n) (fun p hp => e p (by omega) (by omega))]
      omega
    · have := tot_upd (h := h) (h' := h') (n := n) (by omega) (fun p hp hpq => e p (by omega) hpq)
      have e2 : bz h' n = bz h n := by unfold bz; rw [e n (by omega) hn]
      omega
theorem tot_ge {h : Nat → Int} {p : Nat} : ∀ {n : Nat}, p < n → bz h p ≤ tot n h
  | 0, hp => by omega
  | n + 1, hp => by
    rw [tot_succ]
    by_cases e : p = n
    · rw [e]; omega
    · have := tot_ge (h := h) (p := p) (n := n) (by omega); omega
def sV (n : Nat) (s : SK) (p : Nat) : Nat := if s.h (p * 5 + 0) = 0 then 0 else sOwn s p + sStale s p + 3 * tot n s.h - 3
theorem sV_le {n : Nat} {s : SK} {p : Nat} (hn : n ≤ 4) : sV n s p ≤ 20 := by
  have := tot_le n s.h
  unfold sV sOwn sStale
  repeat' split
  all_goals omega
theorem sV_zero {n : Nat} {s : SK} {p : Nat} (h4 : 0 ≤ s.h (p * 5 + 0) ∧ s.h (p * 5 + 0) ≤ 5) (hp : p < n) (h : sV n s p = 0) : s.h (p * 5 + 0) = 0 := by
  refine Classical.byContradiction fun hz => ?_
  have ht := tot_ge (h := s.h) hp
  rw [show bz s.h p = 1 by unfold bz; rw [if_neg hz]] at ht
  unfold sV sOwn at h
  rw [if_neg hz] at h
  repeat' split at h
  all_goals omega
theorem kStep_v {n q : Nat} {s : SK} {i : Int} (K : KI n s i) (hq : q < n) (hz : s.h (q * 5 + 0) ≠ 0) : ∃ vs, (kStep s q).1.h = kHand s.h q vs ∧ ((gI vs 0 = 0) ∨ (gI vs 0 ≠ 0 ∧ (kStep s q).1.a = s.a ∧ (kStep s q).1.t = s.t ∧ sOwn (kStep s q).1 q + sStale (kStep s q).1 q + 1 ≤ sOwn s q + sStale s q)) := by
  obtain ⟨c0, c1, c2, c3, c4⟩ := K.q q hq
  have cs : s.h (q * 5 + 0) = 1 ∨ s.h (q * 5 + 0) = 2 ∨ s.h (q * 5 + 0) = 3 ∨ s.h (q * 5 + 0) = 4 ∨ s.h (q * 5 + 0) = 5 := by omega
  have hs : ∀ {s' : SK} {vs : List Int}, s'.h = kHand s.h q vs → ∀ j, j < 5 → s'.h (q * 5 + j) = gI vs j := fun {s' vs} h j hj => by rw [h, kHand_same hj]
  have fin : ∀ {s' : SK} {vs : List Int} {d : Bool} {g : Int}, kStep s q = (s', d, g) → s'.h = kHand s.h q vs → gI vs 0 ≠ 0 → s'.a = s.a → s'.t = s.t → sOwn s' q + sStale s' q + 1 ≤ sOwn s q + sStale s q → ∃ vs, (kStep s q).1.h = kHand s.h q vs ∧ ((gI vs 0 = 0) ∨ (gI vs 0 ≠ 0 ∧ (kStep s q).1.a = s.a ∧ (kStep s q).1.t = s.t ∧ sOwn (kStep s q).1 q + sStale (kStep s q).1 q + 1 ≤ sOwn s q + sStale s q)) := by
    intro s' vs d g e h1 h2 h3 h4 h5
    rw [e]; exact ⟨vs, h1, .inr ⟨h2, h3, h4, h5⟩⟩
  have val : ∀ {s' : SK} {vs : List Int}, s'.h = kHand s.h q vs → sOwn s' q = (if gI vs 0 = 1 then 2 else if gI vs 0 = 2 then 1 else if gI vs 0 = 3 then 3 else if gI vs 0 = 4 then 2 else if gI vs 0 = 5 then 1 else 0) ∧ sStale s' q = (if (gI vs 0 = 2 ∨ gI vs 0 = 4 ∨ gI vs 0 = 5) ∧ ¬ (s'.a = gI vs 3 ∧ s'.t = gI vs 4) then 3 else 0) := fun {s' vs} h => by
    unfold sOwn sStale
    rw [hs h 0 (by omega), hs h 3 (by omega), hs h 4 (by omega)]
    exact ⟨rfl, rfl⟩
  have g0 : ∀ {x : Int} {l : List Int}, x ≠ 0 → gI (x :: l) 0 ≠ 0 := fun h => h
  rcases cs with b | b | b | b | b
  · have e : kStep s q = ({ s with X := updN s.X (s.h (q * 5 + 1)).toNat s.a, h := kHand s.h q [2, s.h (q * 5 + 1), s.h (q * 5 + 2), s.a, s.t] }, false, 0) := by unfold kStep; rw [if_pos b]
    refine fin (vs := [2, s.h (q * 5 + 1), s.h (q * 5 + 2), s.a, s.t]) e rfl (g0 (by decide)) rfl rfl ?_
    rw [(val rfl).1, (val rfl).2]
    have e1 : sOwn s q = 2 := by unfold sOwn; rw [if_pos b]
    simp [gI, e1]
  · by_cases hc : s.a = s.h (q * 5 + 3) ∧ s.t = s.h (q * 5 + 4)
    · exact ⟨[0, 0, 0, 0, 0], by unfold kStep; rw [if_neg (by omega), if_pos b, if_pos hc], .inl rfl⟩
    · have e : kStep s q = ({ s with h := kHand s.h q [1, s.h (q * 5 + 1), s.h (q * 5 + 2), s.h (q * 5 + 3), s.h (q * 5 + 4)] }, false, 0) := by unfold kStep; rw [if_neg (by omega), if_pos b, if_neg hc]
      refine fin (vs := [1, s.h (q * 5 + 1), s.h (q * 5 + 2), s.h (q * 5 + 3), s.h (q * 5 + 4)]) e rfl (g0 (by decide)) rfl rfl ?_
      rw [(val rfl).1, (val rfl).2]
      have : sStale s q = 3 := by unfold sStale; rw [if_pos ⟨.inl b, hc⟩]
      simp [gI, this]
  · by_cases hc : s.a < 0
    · exact ⟨[0, 0, 0, 0, 0], by unfold kStep; rw [if_neg (by omega), if_neg (by omega), if_pos b, if_pos hc], .inl rfl⟩
    · have e : kStep s q = ({ s with h := kHand s.h q [4, s.h (q * 5 + 1), s.h (q * 5 + 2), s.a, s.t] }, false, 0) := by unfold kStep; rw [if_neg (by omega), if_neg (by omega), if_pos b, if_neg hc]
      refine fin (vs := [4, s.h (q * 5 + 1), s.h (q * 5 + 2), s.a, s.t]) e rfl (g0 (by decide)) rfl rfl ?_
      rw [(val rfl).1, (val rfl).2]
      have : sOwn s q = 3 := by unfold sOwn; rw [if_neg (by omega), if_neg (by omega), if_pos b]
      simp [gI, this]
  · have e : kStep s q = ({ s with h := kHand s.h q [5, s.h (q * 5 + 1), s.X (s.h (q * 5 + 3)).toNat, s.h (q * 5 + 3), s.h (q * 5 + 4)] }, false, 0) := by unfold kStep; rw [if_neg (by omega), if_neg (by omega), if_neg (by omega), if_pos b]
    refine fin (vs := [5, s.h (q * 5 + 1), s.X (s.h (q * 5 + 3)).toNat, s.h (q * 5 + 3), s.h (q * 5 + 4)]) e rfl (g0 (by decide)) rfl rfl ?_
    rw [(val rfl).1, (val rfl).2]
    have e1 : sOwn s q = 2 := by unfold sOwn; rw [if_neg (by omega), if_neg (by omega), if_neg (by omega), if_pos b]
    have e2 : sStale s q = if ¬ (s.a = s.h (q * 5 + 3) ∧ s.t = s.h (q * 5 + 4)) then 3 else 0 := by
      unfold sStale
      by_cases hc : s.a = s.h (q * 5 + 3) ∧ s.t = s.h (q * 5 + 4)
      · rw [if_neg (fun h => h.2 hc), if_neg (not_not_intro hc)]
      · rw [if_pos ⟨.inr (.inl b), hc⟩, if_pos hc]
    rw [e1, e2]
    have e3 : gI [5, s.h (q * 5 + 1), s.X (s.h (q * 5 + 3)).toNat, s.h (q * 5 + 3), s.h (q * 5 + 4)] 0 = 5 := rfl
    have e4 : gI [5, s.h (q * 5 + 1), s.X (s.h (q * 5 + 3)).toNat, s.h (q * 5 + 3), s.h (q * 5 + 4)] 3 = s.h (q * 5 + 3) := rfl
    have e5 : gI [5, s.h (q * 5 + 1), s.X (s.h (q * 5 + 3)).toNat, s.h (q * 5 + 3), s.h (q * 5 + 4)] 4 = s.h (q * 5 + 4) := rfl
    rw [e3, e4, e5]
    by_cases hc : s.a = s.h (q * 5 + 3) ∧ s.t = s.h (q * 5 + 4)
    · simp [hc.1, hc.2]
    · simp only [if_pos hc, hc, not_false_eq_true]
      simp
  · by_cases hc : s.a = s.h (q * 5 + 3) ∧ s.t = s.h (q * 5 + 4)
    · exact ⟨[0, 0, 0, 0, 0], by unfold kStep; rw [if_neg (by omega), if_neg (by omega), if_neg (by omega), if_neg (by omega), if_pos b, if_pos hc], .inl rfl⟩
    · have e : kStep s q = ({ s with h := kHand s.h q [3, s.h (q * 5 + 1), s.h (q * 5 + 2), s.h (q * 5 + 3), s.h (q * 5 + 4)] }, false, 0) := by unfold kStep; rw [if_neg (by omega), if_neg (by omega), if_neg (by omega), if_neg (by omega), if_pos b, if_neg hc]
      refine fin (vs := [3, s.h (q * 5 + 1), s.h (q * 5 + 2), s.h (q * 5 + 3), s.h (q * 5 + 4)]) e rfl (g0 (by decide)) rfl rfl ?_
      rw [(val rfl).1, (val rfl).2]
      have e1 : sStale s q = 3 := by unfold sStale; rw [if_pos ⟨.inr (.inr b), hc⟩]
      have e2 : sOwn s q = 1 := by unfold sOwn; rw [if_neg (by omega), if_neg (by omega), if_neg (by omega), if_neg (by omega), if_pos b]
      simp [gI, e1, e2]
theorem sV_turn {n q : Nat} {s : SK} {i : Int} (K : KI n s i) (hq : q < n) (hz : s.h (q * 5 + 0) ≠ 0) : sV n (kStep s q).1 q + 1 ≤ sV n s q := by
  obtain ⟨vs, hh, hc⟩ := kStep_v K hq hz
  have ht := tot_upd (h := s.h) (h' := (kStep s q).1.h) hq (fun p _ hp => by rw [hh, kHand_ne hp (by omega)])
  have e0 : (kStep s q).1.h (q * 5 + 0) = gI vs 0 := by rw [hh, kHand_same (by omega)]
  have own1 : 1 ≤ sOwn s q := by
    have := (K.q q hq).at0
    unfold sOwn
    repeat' split
    all_goals omega
  have b1 : bz s.h q = 1 := by unfold bz; rw [if_neg hz]
  have t1 := tot_ge (h := s.h) hq
  rw [b1] at t1
  unfold sV
  rw [if_neg hz]
  rcases hc with hc | ⟨hc, _, _, hd⟩
  · rw [if_pos (by rw [e0]; exact hc)]
    omega
  · have : bz (kStep s q).1.h q = 1 := by unfold bz; rw [e0, if_neg hc]
    rw [if_neg (by rw [e0]; exact hc)]
    omega
theorem sV_other {n q p : Nat} {s : SK} {i : Int} (K : KI n s i) (hq : q < n) (hz : s.h (q * 5 + 0) ≠ 0) (hp : p < n) (hpq : p ≠ q) : sV n (kStep s q).1 p ≤ sV n s p := by
  obtain ⟨vs, hh, hc⟩ := kStep_v K hq hz
  have ht := tot_upd (h := s.h) (h' := (kStep s q).1.h) hq (fun p _ hp => by rw [hh, kHand_ne hp (by omega)])
  have e0 : (kStep s q).1.h (q * 5 + 0) = gI vs 0 := by rw [hh, kHand_same (by omega)]
  have ep : ∀ {j : Nat}, j < 5 → (kStep s q).1.h (p * 5 + j) = s.h (p * 5 + j) := fun hj => by rw [hh, kHand_ne hpq hj]
  have b1 : bz s.h q = 1 := by unfold bz; rw [if_neg hz]
  have o1 : sOwn (kStep s q).1 p = sOwn s p := by unfold sOwn; rw [ep (by omega)]
  unfold sV
  rw [ep (by omega), o1]
  split
  · exact Nat.le_refl _
  rcases hc with hc | ⟨hc, ha, htg, _⟩
  · have : bz (kStep s q).1.h q = 0 := by unfold bz; rw [e0, if_pos hc]
    have s3 : sStale (kStep s q).1 p ≤ 3 := by unfold sStale; split <;> omega
    omega
  · have : bz (kStep s q).1.h q = 1 := by unfold bz; rw [e0, if_neg hc]
    have : sStale (kStep s q).1 p = sStale s p := by unfold sStale; rw [ep (by omega), ep (by omega), ep (by omega), ha, htg]
    omega
end Go.Proofs.Ytogbkgimpkaemaa
