import Derived.Test.YtockhbbpcbcenaaCo
namespace Go.Proofs.Ytockhbbpcbcenaa
open Go.Eng
set_option maxRecDepth 20000
/-! ### all are done, plain -/
def cwt (c : CS) (p : Nat) : Int := if c.hL p = 0 then 0 else if c.hL p = 4 ∧ c.hN p = c.D c.W p then 1 else 10
def csum (c : CS) : Int := cwt c 0 + cwt c 1 + cwt c 2 + cwt c 3
def cnf (c : CS) (p : Nat) : Prop := c.hL p ≠ 0 ∧ ¬ (c.hL p = 4 ∧ c.hN p = c.D c.W p)
def cfar (c : CS) (p : Nat) : Int := if c.hL p = 2 then 6 else if c.hL p = 3 then 8 else 7
theorem cwt_b (c : CS) (p : Nat) : 0 ≤ cwt c p ∧ cwt c p ≤ 10 := by
  unfold cwt; split
  · omega
  · split <;> omega
theorem csum_b (c : CS) : 0 ≤ csum c ∧ csum c ≤ 40 := by
  have := cwt_b c 0; have := cwt_b c 1; have := cwt_b c 2; have := cwt_b c 3
  unfold csum; omega
theorem cfar_b (c : CS) (p : Nat) : 6 ≤ cfar c p ∧ cfar c p ≤ 8 := by
  unfold cfar; split
  · omega
  · split <;> omega
theorem csum_le {c c' : CS} {q : Nat} {d : Int} (hq : q < 4) (ho : ∀ p, p < 4 → p ≠ q → cwt c' p ≤ cwt c p) (hm : cwt c' q ≤ cwt c q - d) : csum c' ≤ csum c - d := by
  unfold csum
  have h0 := ho 0; have h1 := ho 1; have h2 := ho 2; have h3 := ho 3
  obtain rfl | rfl | rfl | rfl : q = 0 ∨ q = 1 ∨ q = 2 ∨ q = 3 := by omega
  · have := h1 (by omega) (by omega); have := h2 (by omega) (by omega); have := h3 (by omega) (by omega); omega
  · have := h0 (by omega) (by omega); have := h2 (by omega) (by omega); have := h3 (by omega) (by omega); omega
  · have := h0 (by omega) (by omega); have := h1 (by omega) (by omega); have := h3 (by omega) (by omega); omega
  · have := h0 (by omega) (by omega); have := h1 (by omega) (by omega); have := h2 (by omega) (by omega); omega
def CKey (c : CS) (M : Int) (b : Nat) : Prop := b < 4 ∧ (b : Int) < c.n ∧ c.hL b ≠ 0 ∧
  ((c.K = (b : Int) + 1 ∧ csum c + 10 - c.hL b ≤ M) ∨ (c.K = 0 ∧ cnf c b ∧ csum c + cfar c b ≤ M) ∨ (c.K = 0 ∧ (∀ p, p < 4 → ¬ cnf c p) ∧ csum c ≤ M))
def CPot (c : CS) (M : Int) : Prop := ((∀ p, p < 4 → c.hL p = 0) ∧ 0 ≤ M) ∨ ∃ b, CKey c M b
theorem CKey.mono {c : CS} {M N : Int} {b : Nat} (h : CKey c M b) (hM : M ≤ N) : CKey c N b := by
  obtain ⟨h1, h2, h3, h4⟩ := h
  refine ⟨h1, h2, h3, ?_⟩
  rcases h4 with ⟨a, b⟩ | ⟨a, b, d⟩ | ⟨a, b, d⟩
  · exact .inl ⟨a, by omega⟩
  · exact .inr (.inl ⟨a, b, by omega⟩)
  · exact .inr (.inr ⟨a, b, by omega⟩)
theorem CPot.mono {c : CS} {M N : Int} (h : CPot c M) (hM : M ≤ N) : CPot c N := by
  rcases h with ⟨a, b⟩ | ⟨b, h⟩
  · exact .inl ⟨a, by omega⟩
  · exact .inr ⟨b, h.mono hM⟩
theorem CPot.pick {c : CS} {i M : Int} (h : CI c i) (hM : csum c + 8 ≤ M) : CPot c M := by
  have hb := csum_b c
  have hlt : ∀ b, b < 4 → c.hL b ≠ 0 → (b : Int) < c.n := fun b hb h0 => by
    apply Classical.byContradiction; intro hc; exact h0 (h.out b hb (by omega))
  by_cases hK : c.K = 0
  · by_cases h1 : ∃ b, b < 4 ∧ cnf c b
    · obtain ⟨b, h4, hn⟩ := h1
      have := cfar_b c b
      exact .inr ⟨b, h4, hlt b h4 hn.1, hn.1, .inr (.inl ⟨hK, hn, by omega⟩)⟩
    · by_cases h2 : ∃ b, b < 4 ∧ c.hL b ≠ 0
      · obtain ⟨b, h4, hn⟩ := h2
        exact .inr ⟨b, h4, hlt b h4 hn, hn, .inr (.inr ⟨hK, fun p hp hc => h1 ⟨p, hp, hc⟩, by omega⟩)⟩
      · exact .inl ⟨fun p hp => Classical.byContradiction fun hc => h2 ⟨p, hp, hc⟩, by omega⟩
  · have k4 := h.k4; have k0 := h.k0
    have hk := (h.k (c.K - 1).toNat (by omega)).2 (by omega)
    refine .inr ⟨(c.K - 1).toNat, by omega, hlt _ (by omega) (by omega), by omega, .inl ⟨by omega, by omega⟩⟩
theorem CPot.zero {c : CS} {i : Int} (h : CI c i) (hp : CPot c 0) : ∀ p, p < 4 → c.hL p = 0 := by
  have hb := csum_b c
  rcases hp with ⟨a, _⟩ | ⟨b, h1, h2, h3, h4⟩
  · exact a
  · rcases h4 with ⟨a, d⟩ | ⟨a, e, d⟩ | ⟨a, e, d⟩
    · have := h.ln b h1; omega
    · have := cfar_b c b; omega
    · have w0 := cwt_b c 0; have w1 := cwt_b c 1; have w2 := cwt_b c 2; have w3 := cwt_b c 3
      unfold csum at d
      have hz : cwt c b = 0 := by
        obtain rfl | rfl | rfl | rfl : b = 0 ∨ b = 1 ∨ b = 2 ∨ b = 3 := by omega
        all_goals omega
      unfold cwt at hz
      rw [if_neg h3] at hz
      split at hz <;> omega
/-- what a line does, as far as it counts here -/
structure CMove (c : CS) (q : Nat) (c' : CS) : Prop where
  n : c'.n = c.n
  o : ∀ p, p < 4 → p ≠ q → c'.hL p = c.hL p ∧ c'.hN p = c.hN p ∧ (c.hL p ≠ 0 → c.hN p = c.D c.W p → c.hN p = c'.D c'.W p)
  m : (c.hL q = 1 ∧ c'.hL q = 2 ∧ c'.K = c.K) ∨ (c.hL q = 2 ∧ c.K = 0 ∧ c'.hL q = 5 ∧ c'.K = (q : Int) + 1) ∨ (c.hL q = 2 ∧ c.K ≠ 0 ∧ c'.hL q = 3 ∧ c'.K = c.K) ∨ (c.hL q = 3 ∧ c.K ≠ 0 ∧ c'.hL q = 3 ∧ c'.K = c.K) ∨
    (c.hL q = 3 ∧ c.K = 0 ∧ c'.hL q = 4 ∧ c'.K = 0) ∨ (c.hL q = 4 ∧ c.hN q ≠ c.D c.W q ∧ c'.hL q = 2 ∧ c'.K = c.K) ∨ (c.hL q = 4 ∧ c.hN q = c.D c.W q ∧ c'.hL q = 0 ∧ c'.K = c.K) ∨
    (5 ≤ c.hL q ∧ c.hL q ≤ 7 ∧ c'.hL q = c.hL q + 1 ∧ c'.K = c.K) ∨ (c.hL q = 8 ∧ c'.hL q = 4 ∧ c'.K = 0 ∧ c'.hN q = c'.D c'.W q)
theorem CLine.move {c c' : CS} {i : Int} {q : Nat} {b : Bool} {g : Int} (h : CI c i) (hq : q < 4) (hl : CLine c q c' b g) : CMove c q c' := by
  have hw := h.w
  have hne : ¬ c.W = 1 - c.W := by omega
  cases hl with
  | ask h1 => exact ⟨rfl, fun p hp hn => ⟨upd1_ne hn, rfl, fun _ h => h⟩, by simp [h1]⟩
  | lock h1 h2 => exact ⟨rfl, fun p hp hn => ⟨upd1_ne hn, rfl, fun _ h => h⟩, by simp [h1, h2]⟩
  | two h1 h2 => exact ⟨rfl, fun p hp hn => ⟨upd1_ne hn, rfl, fun _ h => h⟩, by simp [h1, h2]⟩
  | wait h1 h2 => exact ⟨rfl, fun p hp hn => ⟨upd1_ne hn, rfl, fun _ h => h⟩, by simp [h1, h2]⟩
  | three h1 h2 => exact ⟨rfl, fun p hp hn => ⟨upd1_ne hn, rfl, fun _ h => h⟩, by simp [h1, h2]⟩
  | again h1 h2 => exact ⟨rfl, fun p hp hn => ⟨upd1_ne hn, rfl, fun _ h => h⟩, by simp [h1, h2]⟩
  | fin h1 h2 => exact ⟨rfl, fun p hp hn => ⟨upd1_ne hn, upd1_ne hn, fun _ h => h⟩, by simp [h1, h2]⟩
  | add s h1 => exact ⟨rfl, fun p hp hn => ⟨upd1_ne hn, rfl, fun _ h => by dsimp only; rw [if_neg hne]; exact h⟩, by simp [h1]⟩
  | copy s h1 => exact ⟨rfl, fun p hp hn => ⟨upd1_ne hn, rfl, fun _ h => h⟩, by simp [h1]⟩
  | flip h1 =>
    refine ⟨rfl, fun p hp hn => ⟨upd1_ne hn, rfl, fun h0 he => ?_⟩, by simp [h1]⟩
    dsimp only
    rcases (h.mid q hq (.inr h1)).1.d p hp with ⟨a1, a2, a3⟩ | ⟨a1, a2⟩
    · rcases h.aq p hp with b1 | ⟨b1, b2⟩
      · omega
      · have := (h.ask p hp b2).1; omega
    · omega
  | free h1 => exact ⟨rfl, fun p hp hn => ⟨upd1_ne hn, rfl, fun _ h => h⟩, by have := h.m8 q hq h1; simp [h1, this]⟩
theorem CMove.wt {c c' : CS} {q : Nat} (h : CMove c q c') : ∀ p, p < 4 → p ≠ q → cwt c' p ≤ cwt c p := fun p hp hn => by
  obtain ⟨h1, h2, h3⟩ := h.o p hp hn
  unfold cwt
  rw [h1, h2]
  by_cases a : c.hL p = 0
  · rw [if_pos a, if_pos a]; omega
  · rw [if_neg a, if_neg a]
    by_cases b : c.hL p = 4 ∧ c.hN p = c.D c.W p
    · rw [if_pos b, if_pos ⟨b.1, h3 a b.2⟩]; omega
    · rw [if_neg b]; split <;> omega
theorem cwt_10 {c : CS} {p : Nat} (h0 : c.hL p ≠ 0) (h4 : ¬ (c.hL p = 4 ∧ c.hN p = c.D c.W p)) : cwt c p = 10 := by unfold cwt; rw [if_neg h0, if_neg h4]
theorem cwt_1 {c : CS} {p : Nat} (h4 : c.hL p = 4 ∧ c.hN p = c.D c.W p) : cwt c p = 1 := by unfold cwt; rw [if_neg (by omega), if_pos h4]
theorem CMove.key {c c' : CS} {i M : Int} {q b : Nat} (h : CMove c q c') (hi : CI c i) (hi' : CI c' (i + 1)) (hq : q < 4) (hk : CKey c M b) : (q ≠ b ∧ CKey c' M b) ∨ CPot c' (M - 1) := by
  obtain ⟨h1, h2, h3, h4⟩ := hk
  have hs := csum_b c'
  have hwb := cwt_b c' q
  by_cases hqb : q = b
  · subst hqb
    refine .inr ?_
    have hn' : (q : Int) < c'.n := by rw [h.n]; exact h2
    rcases h4 with ⟨hK, hM⟩ | ⟨hK, hN, hM⟩ | ⟨hK, hA, hM⟩
    · have h5 := (hi.k q h1).2 hK
      have w := cwt_10 h3 (by omega)
      rcases h.m with hm | hm | hm | hm | hm | hm | hm | hm | hm <;> (try omega)
      · have := csum_le (d := 0) hq h.wt (by omega)
        exact .inr ⟨q, h1, hn', by omega, .inl ⟨by omega, by omega⟩⟩
      · have w' := cwt_1 (c := c') (p := q) ⟨hm.2.1, hm.2.2.2⟩
        have := csum_le (d := 9) hq h.wt (by omega)
        exact CPot.pick hi' (by omega)
    · have w := cwt_10 hN.1 hN.2
      unfold cfar at hM
      have s0 := csum_le (d := 0) hq h.wt (by omega)
      rcases h.m with hm | hm | hm | hm | hm | hm | hm | hm | hm <;> (try omega)
      · rw [if_neg (by omega), if_neg (by omega)] at hM
        exact .inr ⟨q, h1, hn', by omega, .inr (.inl ⟨by omega, ⟨by omega, by omega⟩, by unfold cfar; rw [if_pos hm.2.1]; omega⟩)⟩
      · rw [if_pos hm.1] at hM
        exact .inr ⟨q, h1, hn', by omega, .inl ⟨hm.2.2.2, by omega⟩⟩
      · rw [if_neg (by omega), if_pos hm.1] at hM
        by_cases hf : c'.hN q = c'.D c'.W q
        · have w' := cwt_1 (c := c') (p := q) ⟨hm.2.2.1, hf⟩
          have := csum_le (d := 9) hq h.wt (by omega)
          exact CPot.pick hi' (by omega)
        · exact .inr ⟨q, h1, hn', by omega, .inr (.inl ⟨by omega, ⟨by omega, fun hc => hf hc.2⟩, by unfold cfar; rw [if_neg (by omega), if_neg (by omega)]; omega⟩)⟩
      · rw [if_neg (by omega), if_neg (by omega)] at hM
        exact .inr ⟨q, h1, hn', by omega, .inr (.inl ⟨by omega, ⟨by omega, by omega⟩, by unfold cfar; rw [if_pos hm.2.2.1]; omega⟩)⟩
      · exact absurd ⟨hm.1, hm.2.1⟩ hN.2
      · have := (hi.k q hq).1 hm.1; omega
      · have := (hi.k q hq).1 (by omega); omega
    · have hF : c.hL q = 4 ∧ c.hN q = c.D c.W q := Classical.byContradiction fun hc => hA q hq ⟨h3, hc⟩
      rcases h.m with hm | hm | hm | hm | hm | hm | hm | hm | hm <;> (try omega)
      have w := cwt_1 hF
      have w' : cwt c' q = 0 := by unfold cwt; rw [if_pos hm.2.2.1]
      have s0 := csum_le (d := 1) hq h.wt (by omega)
      by_cases hx : ∃ b, b < 4 ∧ c'.hL b ≠ 0
      · obtain ⟨b, hb4, hb0⟩ := hx
        have hbn : (b : Int) < c'.n := Classical.byContradiction fun hc => hb0 (hi'.out b hb4 (by omega))
        refine .inr ⟨b, hb4, hbn, hb0, .inr (.inr ⟨by omega, fun p hp hc => ?_, by omega⟩)⟩
        by_cases hpq : p = q
        · subst hpq; exact hc.1 hm.2.2.1
        · obtain ⟨o1, o2, o3⟩ := h.o p hp hpq
          have hc0 := hc.1
          refine hA p hp ⟨by omega, fun hf => hc.2 ⟨by omega, ?_⟩⟩
          rw [o2]; exact o3 (by omega) hf.2
      · exact .inl ⟨fun p hp => Classical.byContradiction fun hc => hx ⟨p, hp, hc⟩, by omega⟩
  · -- another hand's line
    obtain ⟨o1, o2, o3⟩ := h.o b h1 (fun h => hqb h.symm)
    have hn' : (b : Int) < c'.n := by rw [h.n]; exact h2
    rcases h4 with ⟨hK, hM⟩ | ⟨hK, hN, hM⟩ | ⟨hK, hA, hM⟩
    · have hno : ¬ 5 ≤ c.hL q := fun h5 => by have := (hi.k q hq).1 h5; omega
      refine .inl ⟨hqb, h1, hn', by omega, .inl ?_⟩
      have hs0 : csum c' ≤ csum c - 0 := csum_le hq h.wt (by
        rcases h.m with hm | hm | hm | hm | hm | hm | hm | hm | hm <;> (try omega)
        · rw [cwt_10 (c := c) (p := q) (by omega) (by omega)]; omega
        · rw [cwt_10 (c := c) (p := q) (by omega) (by omega)]; omega
        · rw [cwt_10 (c := c) (p := q) (by omega) (by omega)]; omega
        · rw [cwt_10 (c := c) (p := q) (by omega) (by omega)]; omega
        · have : cwt c' q = 0 := by unfold cwt; rw [if_pos hm.2.2.1]
          have := cwt_b c q; omega)
      rcases h.m with hm | hm | hm | hm | hm | hm | hm | hm | hm <;> (try omega) <;> exact ⟨by omega, by omega⟩
    · have hno : ¬ 5 ≤ c.hL q := fun h5 => by have := (hi.k q hq).1 h5; omega
      have hs0 : csum c' ≤ csum c - 0 := csum_le hq h.wt (by
        rcases h.m with hm | hm | hm | hm | hm | hm | hm | hm | hm <;> (try omega)
        · rw [cwt_10 (c := c) (p := q) (by omega) (by omega)]; omega
        · rw [cwt_10 (c := c) (p := q) (by omega) (by omega)]; omega
        · rw [cwt_10 (c := c) (p := q) (by omega) (by omega)]; omega
        · rw [cwt_10 (c := c) (p := q) (by omega) (by omega)]; omega
        · have : cwt c' q = 0 := by unfold cwt; rw [if_pos hm.2.2.1]
          have := cwt_b c q; omega)
      have hfb := cfar_b c b
      by_cases hl : c'.K = (q : Int) + 1
      · -- it has the lock now
        have h5 := (hi'.k q hq).2 hl
        have hqn : (q : Int) < c'.n := Classical.byContradiction fun hc => by have := hi'.out q hq (by omega); omega
        exact .inr (.inr ⟨q, hq, hqn, by omega, .inl ⟨hl, by omega⟩⟩)
      · have hK' : c'.K = 0 := by rcases h.m with hm | hm | hm | hm | hm | hm | hm | hm | hm <;> omega
        by_cases hf : c'.hL b = 4 ∧ c'.hN b = c'.D c'.W b
        · have w' := cwt_1 hf
          have w := cwt_10 hN.1 hN.2
          have hE : cwt c' q ≤ cwt c q := by
            rcases h.m with hm | hm | hm | hm | hm | hm | hm | hm | hm <;> (try omega)
            · rw [cwt_10 (c := c) (p := q) (by omega) (by omega)]; omega
            · rw [cwt_10 (c := c) (p := q) (by omega) (by omega)]; omega
            · rw [cwt_10 (c := c) (p := q) (by omega) (by omega)]; omega
            · have : cwt c' q = 0 := by unfold cwt; rw [if_pos hm.2.2.1]
              have := cwt_b c q; omega
          have := csum_le (c := c) (c' := c') (q := b) (d := 9) h1 (fun p hp hpb => by
            by_cases hpq : p = q
            · subst hpq; exact hE
            · exact h.wt p hp hpq) (by omega)
          exact .inr (CPot.pick hi' (by omega))
        · refine .inl ⟨hqb, h1, hn', by omega, .inr (.inl ⟨hK', ⟨by omega, hf⟩, ?_⟩)⟩
          unfold cfar at hM ⊢
          rw [o1]; omega
    · have hF : ∀ p, p < 4 → c.hL p ≠ 0 → c.hL p = 4 ∧ c.hN p = c.D c.W p := fun p hp h0 => Classical.byContradiction fun hc => hA p hp ⟨h0, hc⟩
      rcases h.m with hm | hm | hm | hm | hm | hm | hm | hm | hm <;> (try (have := hF q hq (by omega); omega))
      have w' : cwt c' q = 0 := by unfold cwt; rw [if_pos hm.2.2.1]
      have w := cwt_b c q
      have s0 := csum_le (d := 0) hq h.wt (by omega)
      refine .inl ⟨hqb, h1, hn', by omega, .inr (.inr ⟨by omega, fun p hp hc => ?_, by omega⟩)⟩
      by_cases hpq : p = q
      · subst hpq; exact hc.1 hm.2.2.1
      · obtain ⟨o1, o2, o3⟩ := h.o p hp hpq
        have hc0 := hc.1
        refine hA p hp ⟨by omega, fun hf => hc.2 ⟨by omega, ?_⟩⟩
        rw [o2]; exact o3 (by omega) hf.2
theorem CMove.pot {c c' : CS} {i M : Int} {q : Nat} (h : CMove c q c') (hi : CI c i) (hi' : CI c' (i + 1)) (hq : q < 4) (hk : CPot c M) : CPot c' M := by
  rcases hk with ⟨h0, _⟩ | ⟨b, hk⟩
  · have := h0 q hq
    rcases h.m with hm | hm | hm | hm | hm | hm | hm | hm | hm <;> omega
  · rcases h.key hi hi' hq hk with h1 | h1
    · exact .inr ⟨b, h1.2⟩
    · exact h1.mono (by omega)
/-! ### the comb, as it is -/
def CV (p : Nat) (c : CS) (i : Int) (L : List Ent) : Prop := ∃ m, CombAt p m L ∧ CRel c m ∧ CI c i
theorem CRel.sum {c : CS} {m : List Int} {i : Int} (hr : CRel c m) (h : CI c i) : gI m (1 + (gI m 37).toNat * 9) = c.S c.W := by rw [hr.W]; exact hr.S c.W h.w
theorem CRel.dn {c : CS} {m : List Int} {i : Int} (hr : CRel c m) (h : CI c i) {p : Nat} (hp : p < 4) : gI m (2 + (gI m 37).toNat * 9 + p) = c.D c.W p := by rw [hr.W, ← hr.D c.W p h.w hp]; congr 1; simp; omega
theorem CRel.gt {c : CS} {m : List Int} {i : Int} (hr : CRel c m) (h : CI c i) {p : Nat} (hp : p < 4) : gI m (6 + (gI m 37).toNat * 9 + p) = c.G c.W p := by rw [hr.W, ← hr.G c.W p h.w hp]; congr 1; simp; omega
theorem cv_new {n : Int} {own : List Ent} {ro : Addr → Option Value} {post : Value → H → Prop}
    (h1 : ¬ (1 ≤ n ∧ n ≤ 4) → post (.tuple (List.toArray [.pointer none, errV (eno 65 1)])) ⟨own, ro⟩)
    (h2 : ∀ p L, CV p (cs0 n) 0 L → 1 ≤ n → n ≤ 4 → post (.tuple (List.toArray [.pointer (some (Addr.mk p 0 none)), errV none])) ⟨own ++ L, ro⟩) : SemCall Try.prog 10 (List.toArray [.int .i64 n]) ⟨own, ro⟩ post :=
  comb_new_c h1 (fun p L hc a b => h2 p L ⟨_, hc, CRel.start n, CI.start a b⟩ a b)
theorem cv_begin {p : Nat} {c : CS} {i q add : Int} {L own : List Ent} {ro : Addr → Option Value} {post : Value → H → Prop} (A C : List Ent) (hown : own = A ++ (L ++ C)) (hs : CV p c i L) (hi : i ≤ 900)
    (hk : ∀ L' c' e, CV p c' (i + 1) L' → (e ≠ 0 ∧ c' = c ∨ e = 0 ∧ ∃ k : Nat, q = (k : Int) ∧ k < 4 ∧ (k : Int) < c.n ∧ c.hL k = 0 ∧ 0 ≤ add ∧ add ≤ 1000 ∧ c' = { c with hL := upd1 c.hL k 1, hA := upd1 c.hA k add, hN := upd1 c.hN k (c.D c.W k + 1) }) → post (errV (eno 65 e)) ⟨A ++ (L' ++ C), ro⟩) :
    SemCall Try.prog 11 (List.toArray [.pointer (some (Addr.mk p 0 none)), .int .i64 q, .int .i64 add]) ⟨own, ro⟩ post := by
  obtain ⟨m, hm, hr, h⟩ := hs
  refine comb_begin_c A C hown hm (hr.ok h (by omega)) (fun L' hL' => ?_)
  rcases comb_begins hr h q add with ⟨e0, e1⟩ | ⟨k, rfl, k4, kn, h0, a0, a1, e0, hr', h'⟩
  · rw [e1] at hL'
    exact hk L' c _ ⟨m, hL', hr, h.mono (by omega)⟩ (.inl ⟨e0, rfl⟩)
  · exact hk L' _ _ ⟨_, hL', hr', h'⟩ (.inr ⟨e0, k, rfl, k4, kn, h0, a0, a1, rfl⟩)
theorem cv_step {p : Nat} {c : CS} {i q : Int} {L own : List Ent} {ro : Addr → Option Value} {post : Value → H → Prop} (A C : List Ent) (hown : own = A ++ (L ++ C)) (hs : CV p c i L) (hi : i ≤ 900)
    (hk : ∀ L' c' b g e, CV p c' (i + 1) L' → ((e ≠ 0 ∧ c' = c ∧ b = false ∧ g = 0 ∧ ∀ k : Nat, q = (k : Int) → (k : Int) < c.n → c.hL k = 0) ∨ (e = 0 ∧ ∃ k : Nat, q = (k : Int) ∧ k < 4 ∧ (k : Int) < c.n ∧ c.hL k ≠ 0 ∧ CLine c k c' b g)) →
      post (.tuple (List.toArray [.bool b, .int .i64 g, errV (eno 65 e)])) ⟨A ++ (L' ++ C), ro⟩) :
    SemCall Try.prog 13 (List.toArray [.pointer (some (Addr.mk p 0 none)), .int .i64 q]) ⟨own, ro⟩ post := by
  obtain ⟨m, hm, hr, h⟩ := hs
  refine comb_step_c A C hown hm (hr.ok h (by omega)) (fun k j => hr.ok9 h (by omega) k j) (fun L' hL' => ?_)
  rcases comb_line hr h q with ⟨e, e0, e1, e2⟩ | ⟨k, c', b, g, rfl, k4, kn, h0, e1, hr', h', hl⟩
  · rw [e1] at hL' ⊢
    exact hk L' c _ _ _ ⟨m, hL', hr, h.mono (by omega)⟩ (.inl ⟨e0, rfl, rfl, rfl, e2⟩)
  · rw [e1]
    exact hk L' c' _ _ _ ⟨_, hL', hr', h'⟩ (.inr ⟨rfl, k, rfl, k4, kn, h0, hl⟩)
theorem cv_crash {p : Nat} {c : CS} {i : Int} {keep : Bool} {L own : List Ent} {ro : Addr → Option Value} {post : Value → H → Prop} (A C : List Ent) (hown : own = A ++ (L ++ C)) (hs : CV p c i L)
    (hk : ∀ L', CV p (csCrash c keep) (i + 1) L' → post (.tuple (List.toArray [])) ⟨A ++ (L' ++ C), ro⟩) :
    SemCall Try.prog 14 (List.toArray [.pointer (some (Addr.mk p 0 none)), .bool keep]) ⟨own, ro⟩ post := by
  obtain ⟨m, hm, hr, h⟩ := hs
  exact comb_crash_c A C hown hm (fun L' hL' => hk L' ⟨_, hL', hr.crash keep, h.crash keep⟩)
theorem cv_at {p : Nat} {c : CS} {i q : Int} {L own : List Ent} {ro : Addr → Option Value} {post : Value → H → Prop} (hs : CV p c i L) (hL : ∀ e ∈ L, e ∈ own) (hi : i ≤ 900) (h0 : 0 ≤ q) (h1 : q < c.n)
    (hk : post (.int .i64 (c.hL q.toNat)) ⟨own, ro⟩) :
    SemCall Try.prog 17 (List.toArray [.pointer (some (Addr.mk p 0 none)), .int .i64 q]) ⟨own, ro⟩ post := by
  obtain ⟨m, hm, hr, h⟩ := hs
  have := h.n4
  have hn := hr.n
  refine comb_at_c hm hL (hr.ok h (by omega)) ?_
  rw [if_pos ⟨by omega, by omega⟩, hr.hL q.toNat (by omega)]
  exact hk
theorem cv_sum {p : Nat} {c : CS} {i : Int} {L own : List Ent} {ro : Addr → Option Value} {post : Value → H → Prop} (hs : CV p c i L) (hL : ∀ e ∈ L, e ∈ own) (hi : i ≤ 900)
    (hk : post (.int .i64 (c.S c.W)) ⟨own, ro⟩) :
    SemCall Try.prog 16 (List.toArray [.pointer (some (Addr.mk p 0 none))]) ⟨own, ro⟩ post := by
  obtain ⟨m, hm, hr, h⟩ := hs
  refine comb_sum_c hm hL (hr.ok h (by omega)) ?_
  rw [hr.sum h]
  exact hk
theorem cv_done {p : Nat} {c : CS} {i q : Int} {L own : List Ent} {ro : Addr → Option Value} {post : Value → H → Prop} (hs : CV p c i L) (hL : ∀ e ∈ L, e ∈ own) (hi : i ≤ 900) (h0 : 0 ≤ q) (h1 : q < c.n)
    (hk : post (.tuple (List.toArray [.int .i64 (c.D c.W q.toNat), .int .i64 (c.G c.W q.toNat)])) ⟨own, ro⟩) :
    SemCall Try.prog 15 (List.toArray [.pointer (some (Addr.mk p 0 none)), .int .i64 q]) ⟨own, ro⟩ post := by
  obtain ⟨m, hm, hr, h⟩ := hs
  have := h.n4
  have hn := hr.n
  refine comb_done_c hm hL (hr.ok h (by omega)) ?_
  rw [if_pos ⟨by omega, by omega⟩, if_pos ⟨by omega, by omega⟩, hr.dn h (by omega), hr.gt h (by omega)]
  exact hk
end Go.Proofs.Ytockhbbpcbcenaa
