import Derived.Test.YtockhbbpcbcenaaDoorCm
namespace Go.Proofs.YtockhbbpcbcenaaDoor
open Go.Eng
set_option maxRecDepth 20000
theorem dsum_mono {D D' a : Nat → Int} {k : Nat} (ha : ∀ p, p < 4 → 0 ≤ a p) : ∀ l, k ≤ l → l ≤ 4 → dsum D D' a k ≤ dsum D D' a l
  | 0, h, _ => by rw [show k = 0 by omega]; exact Int.le_refl _
  | l + 1, h, hl => by
    by_cases hk : k = l + 1
    · rw [hk]; exact Int.le_refl _
    · have := dsum_mono (D := D) (D' := D') (k := k) ha l (by omega) (by omega)
      have := ha l (by omega)
      simp only [dsum]
      split <;> omega
theorem CI.combine {c : CS} {i : Int} (h : CI c i) {q : Nat} (hq : q < 4) (h0 : c.hL q = 5) {s : List Int} (hs0 : gI s 0 = c.S c.W + dsum (c.D c.W) c.aN c.aA 4)
    (hs1 : ∀ p, p < 4 → gI s (1 + p) = if p < 4 ∧ c.aN p = c.D c.W p + 1 then c.D c.W p + 1 else c.D c.W p) (hs2 : ∀ p, p < 4 → gI s (5 + p) = if p < 4 ∧ c.aN p = c.D c.W p + 1 then c.S c.W + dsum (c.D c.W) c.aN c.aA p else c.G c.W p) :
    CI { c with S := (fun w => if w = 1 - c.W then gI s 0 else c.S w), D := (fun w p => if w = 1 - c.W then gI s (1 + p) else c.D w p), G := (fun w p => if w = 1 - c.W then gI s (5 + p) else c.G w p), hL := upd1 c.hL q 6 } (i + 1) := by
  have hb := h.mono (show i ≤ i + 1 by omega)
  have hw := h.w
  have hne : ¬ c.W = 1 - c.W := by omega
  have hkq : c.K = (q : Int) + 1 := (h.k q hq).1 (by omega)
  have hno : ∀ p, p < 4 → p ≠ q → ¬ 5 ≤ c.hL p := fun p hp hne h5 => by have := (h.k p hp).1 h5; omega
  have ha : ∀ p, p < 4 → 0 ≤ c.aA p ∧ c.aA p ≤ 1000 := fun p hp => ⟨(h.a p hp).1, (h.a p hp).2.1⟩
  have ha0 : ∀ p, p < 4 → 0 ≤ c.aA p := fun p hp => (h.a p hp).1
  have hd4 := dsum_ok (D := c.D c.W) (D' := c.aN) (a := c.aA) 4 ha
  refine { hb with eS := ?_, eD := fun p hp => ?_, eG := fun p hp => ?_, ln := fun p hp => ?_, out := fun p hp hnp => ?_, k := fun p hp => ?_, nu := fun p hp hl => ?_, ask := fun p hp hl => ?_, aq := fun p hp => ?_, mid := fun p hp hl => ?_, m7 := fun p hp hl => ?_, m8 := fun p hp hl => ?_, gs := fun p hp hl he => ?_, bS := fun w hw2 => ?_, bD := fun w p hw2 hp => ?_, bG := fun w p hw2 hp => ?_ } <;> dsimp only at * <;> (try rw [if_neg hne]) <;> (try rw [if_neg hne])
  · exact h.eS
  · exact h.eD p hp
  · exact h.eG p hp
  · rcases upd1_cases (f := c.hL) (q := q) (v := 6) p with ⟨rfl, e⟩ | ⟨hne, e⟩ <;> rw [e]
    · omega
    · exact h.ln p hp
  · rcases upd1_cases (f := c.hL) (q := q) (v := 6) p with ⟨rfl, e⟩ | ⟨hne, e⟩ <;> rw [e]
    · have := h.out p hp hnp; omega
    · exact h.out p hp hnp
  · rcases upd1_cases (f := c.hL) (q := q) (v := 6) p with ⟨rfl, e⟩ | ⟨hne, e⟩ <;> rw [e]
    · constructor <;> intro hh <;> omega
    · exact h.k p hp
  · rcases upd1_cases (f := c.hL) (q := q) (v := 6) p with ⟨rfl, e⟩ | ⟨hne, e⟩ <;> rw [e] at hl
    · exact h.nu p hp (by omega)
    · exact h.nu p hp hl
  · rcases upd1_cases (f := c.hL) (q := q) (v := 6) p with ⟨rfl, e⟩ | ⟨hne, e⟩ <;> rw [e] at hl
    · exact h.ask p hp (by omega)
    · exact h.ask p hp hl
  · rcases upd1_cases (f := c.hL) (q := q) (v := 6) p with ⟨rfl, e⟩ | ⟨hne, e⟩ <;> rw [e]
    · rcases h.aq p hp with h1 | h1
      · exact .inl h1
      · exact .inr ⟨h1.1, by omega⟩
    · exact h.aq p hp
  · rcases upd1_cases (f := c.hL) (q := q) (v := 6) p with ⟨rfl, e⟩ | ⟨hnp, e⟩ <;> rw [e] at hl
    · refine ⟨⟨?_, fun r hr => ?_⟩, ?_⟩
      · dsimp only
        rw [if_pos rfl, if_neg hne, hs0]
        congr 1
        refine dsum_congr 4 (fun r hr => ?_) (fun _ _ _ => rfl)
        rw [if_pos rfl, if_neg hne, hs1 r hr]
        by_cases hc : c.aN r = c.D c.W r + 1
        · rw [if_pos ⟨hr, hc⟩]; exact ⟨fun _ => rfl, fun _ => hc⟩
        · rw [if_neg (fun h => hc h.2)]; constructor <;> intro hh <;> omega
      · dsimp only
        rw [if_pos rfl, if_neg hne, if_pos rfl, if_neg hne, if_pos rfl, hs1 r hr, hs2 r hr, hs0]
        by_cases hc : c.aN r = c.D c.W r + 1
        · rw [if_pos ⟨hr, hc⟩, if_pos ⟨hr, hc⟩]
          refine .inl ⟨rfl, hc, ?_⟩
          have h1 := dsum_mono (D := c.D c.W) (D' := c.aN) (k := r + 1) ha0 4 (by omega) (by omega)
          simp only [dsum] at h1
          rw [if_pos hc] at h1
          simp only [dsum]
          omega
        · rw [if_neg (fun h => hc h.2), if_neg (fun h => hc h.2)]
          exact .inr ⟨rfl, rfl⟩
      · rw [if_pos rfl, hs1 p hp]
        have h1 := (h.ask p hp (by omega)).1
        have h2 := h.nu p hp (by omega)
        split
        · omega
        · rename_i hc
          rcases h2 with h2 | h2
          · exact absurd ⟨hp, by omega⟩ hc
          · exact h2.symm
    · exact absurd (show 5 ≤ c.hL p by omega) (hno p hp hnp)
  · rcases upd1_cases (f := c.hL) (q := q) (v := 6) p with ⟨rfl, e⟩ | ⟨hnp, e⟩ <;> rw [e] at hl
    · omega
    · exact absurd (show 5 ≤ c.hL p by omega) (hno p hp hnp)
  · rcases upd1_cases (f := c.hL) (q := q) (v := 6) p with ⟨rfl, e⟩ | ⟨hnp, e⟩ <;> rw [e] at hl
    · omega
    · exact h.m8 p hp hl
  · rw [if_neg hne] at he
    rcases upd1_cases (f := c.hL) (q := q) (v := 6) p with ⟨rfl, e⟩ | ⟨hnp, e⟩ <;> rw [e] at hl
    · exact h.gs p hp (by omega) he
    · exact h.gs p hp hl he
  · have h1 := h.bS w hw2
    have h2 := h.bS c.W hw
    split
    · rw [hs0]; omega
    · omega
  · have h1 := h.bD w p hw2 hp
    have h2 := h.bD c.W p hw hp
    split
    · rw [hs1 p hp]; split <;> omega
    · omega
  · have h1 := h.bG w p hw2 hp
    have h2 := h.bG c.W p hw hp
    have h3 := h.bS c.W hw
    have h4 := dsum_ok (D := c.D c.W) (D' := c.aN) (a := c.aA) p (fun r hr => ha r (by omega))
    split
    · rw [hs2 p hp]; split <;> omega
    · omega
theorem CI.copy {c : CS} {i : Int} (h : CI c i) {q : Nat} (hq : q < 4) (h0 : c.hL q = 6) {s : List Int} (hs0 : gI s 0 = c.S (1 - c.W)) (hs1 : ∀ p, p < 4 → gI s (1 + p) = c.D (1 - c.W) p) (hs2 : ∀ p, p < 4 → gI s (5 + p) = c.G (1 - c.W) p) :
    CI { c with sS := (fun w => if w = 1 - c.W then gI s 0 else c.sS w), sD := (fun w p => if w = 1 - c.W then gI s (1 + p) else c.sD w p), sG := (fun w p => if w = 1 - c.W then gI s (5 + p) else c.sG w p), hL := upd1 c.hL q 7 } (i + 1) := by
  have hb := h.mono (show i ≤ i + 1 by omega)
  have hw := h.w
  have hne : ¬ c.W = 1 - c.W := by omega
  have hkq : c.K = (q : Int) + 1 := (h.k q hq).1 (by omega)
  have hno : ∀ p, p < 4 → p ≠ q → ¬ 5 ≤ c.hL p := fun p hp hne h5 => by have := (h.k p hp).1 h5; omega
  have hmd := h.mid q hq (.inl h0)
  refine { hb with eS := ?_, eD := fun p hp => ?_, eG := fun p hp => ?_, ln := fun p hp => ?_, out := fun p hp hnp => ?_, k := fun p hp => ?_, nu := fun p hp hl => ?_, ask := fun p hp hl => ?_, aq := fun p hp => ?_, mid := fun p hp hl => ?_, m7 := fun p hp hl => ?_, m8 := fun p hp hl => ?_, gs := fun p hp hl he => ?_, bS := fun w hw2 => ?_, bD := fun w p hw2 hp => ?_, bG := fun w p hw2 hp => ?_ } <;> dsimp only at * <;> (try rw [if_neg hne])
  · exact h.eS
  · exact h.eD p hp
  · exact h.eG p hp
  · rcases upd1_cases (f := c.hL) (q := q) (v := 7) p with ⟨rfl, e⟩ | ⟨hne, e⟩ <;> rw [e]
    · omega
    · exact h.ln p hp
  · rcases upd1_cases (f := c.hL) (q := q) (v := 7) p with ⟨rfl, e⟩ | ⟨hne, e⟩ <;> rw [e]
    · have := h.out p hp hnp; omega
    · exact h.out p hp hnp
  · rcases upd1_cases (f := c.hL) (q := q) (v := 7) p with ⟨rfl, e⟩ | ⟨hne, e⟩ <;> rw [e]
    · constructor <;> intro hh <;> omega
    · exact h.k p hp
  · rcases upd1_cases (f := c.hL) (q := q) (v := 7) p with ⟨rfl, e⟩ | ⟨hne, e⟩ <;> rw [e] at hl
    · exact h.nu p hp (by omega)
    · exact h.nu p hp hl
  · rcases upd1_cases (f := c.hL) (q := q) (v := 7) p with ⟨rfl, e⟩ | ⟨hne, e⟩ <;> rw [e] at hl
    · exact h.ask p hp (by omega)
    · exact h.ask p hp hl
  · rcases upd1_cases (f := c.hL) (q := q) (v := 7) p with ⟨rfl, e⟩ | ⟨hne, e⟩ <;> rw [e]
    · rcases h.aq p hp with h1 | h1
      · exact .inl h1
      · exact .inr ⟨h1.1, by omega⟩
    · exact h.aq p hp
  · rcases upd1_cases (f := c.hL) (q := q) (v := 7) p with ⟨rfl, e⟩ | ⟨hnp, e⟩ <;> rw [e] at hl
    · exact ⟨⟨hmd.1.s, hmd.1.d⟩, hmd.2⟩
    · exact absurd (show 5 ≤ c.hL p by omega) (hno p hp hnp)
  · rw [if_pos rfl, hs0]
    refine ⟨rfl, fun r hr => ?_⟩
    rw [if_pos rfl, if_pos rfl, hs1 r hr, hs2 r hr]
    exact ⟨rfl, rfl⟩
  · rcases upd1_cases (f := c.hL) (q := q) (v := 7) p with ⟨rfl, e⟩ | ⟨hnp, e⟩ <;> rw [e] at hl
    · omega
    · exact h.m8 p hp hl
  · rcases upd1_cases (f := c.hL) (q := q) (v := 7) p with ⟨rfl, e⟩ | ⟨hnp, e⟩ <;> rw [e] at hl
    · exact h.gs p hp (by omega) he
    · exact h.gs p hp hl he
  · have h1 := h.bS w hw2
    have h2 := h.bS (1 - c.W) (by omega)
    split
    · rw [hs0]; omega
    · omega
  · have h1 := h.bD w p hw2 hp
    have h2 := h.bD (1 - c.W) p (by omega) hp
    split
    · rw [hs1 p hp]; omega
    · omega
  · have h1 := h.bG w p hw2 hp
    have h2 := h.bG (1 - c.W) p (by omega) hp
    split
    · rw [hs2 p hp]; omega
    · omega
theorem CI.flip {c : CS} {i : Int} (h : CI c i) {q : Nat} (hq : q < 4) (h0 : c.hL q = 7) : CI { c with W := 1 - c.W, hL := upd1 c.hL q 8 } (i + 1) := by
  have hb := h.mono (show i ≤ i + 1 by omega)
  have hw := h.w
  have hkq : c.K = (q : Int) + 1 := (h.k q hq).1 (by omega)
  have hno : ∀ p, p < 4 → p ≠ q → ¬ 5 ≤ c.hL p := fun p hp hne h5 => by have := (h.k p hp).1 h5; omega
  obtain ⟨⟨ms, md⟩, mq⟩ := h.mid q hq (.inr h0)
  obtain ⟨m1, m2⟩ := h.m7 q hq h0
  have ha0 : ∀ p, p < 4 → 0 ≤ c.aA p := fun p hp => (h.a p hp).1
  have hd0 := dsum_mono (D := c.D c.W) (D' := c.D (1 - c.W)) (k := 0) ha0 4 (by omega) (by omega)
  simp only [show dsum (c.D c.W) (c.D (1 - c.W)) c.aA 0 = 0 from rfl] at hd0
  have old : ∀ p, p < 4 → c.hL p ≠ 0 → (c.hN p = c.D (1 - c.W) p + 1 ∨ c.hN p = c.D (1 - c.W) p) ∧ (c.hN p = c.D (1 - c.W) p → c.G (1 - c.W) p + c.hA p ≤ c.S (1 - c.W)) := fun p hp hl => by
    rcases md p hp with ⟨a1, a2, a3⟩ | ⟨a1, a2⟩
    · have h2 : 2 ≤ c.hL p := by rcases h.aq p hp with b | ⟨_, b⟩; omega; exact b
      obtain ⟨e1, e2⟩ := h.ask p hp h2
      exact ⟨.inr (by omega), fun _ => by omega⟩
    · have := h.nu p hp hl
      refine ⟨by omega, fun he => ?_⟩
      have := h.gs p hp hl (by omega)
      omega
  have oldq : ∀ p, p < 4 → c.aN p ≤ c.D (1 - c.W) p ∨ c.aN p = c.D (1 - c.W) p + 1 ∧ 2 ≤ c.hL p := fun p hp => by
    rcases md p hp with ⟨a1, a2, a3⟩ | ⟨a1, a2⟩
    · exact .inl (by omega)
    · rcases h.aq p hp with b | ⟨b1, b2⟩
      · exact .inl (by omega)
      · exact .inr ⟨by omega, b2⟩
  refine { hb with w := by dsimp only; omega, eS := m1, eD := fun p hp => (m2 p hp).1, eG := fun p hp => (m2 p hp).2, ln := fun p hp => ?_, out := fun p hp hnp => ?_, k := fun p hp => ?_, nu := fun p hp hl => ?_, ask := fun p hp hl => ?_, aq := fun p hp => ?_, mid := fun p hp hl => ?_, m7 := fun p hp hl => ?_, m8 := fun p hp hl => ?_, gs := fun p hp hl he => ?_ } <;> dsimp only at * <;> rcases upd1_cases (f := c.hL) (q := q) (v := 8) p with ⟨rfl, e⟩ | ⟨hne, e⟩ <;> (try simp only [e] at hl) <;> (try simp only [e])
  · omega
  · exact h.ln p hp
  · have := h.out p hp hnp; omega
  · exact h.out p hp hnp
  · constructor <;> intro hh <;> omega
  · exact h.k p hp
  · exact (old p hp (by omega)).1
  · exact (old p hp hl).1
  · exact h.ask p hp (by omega)
  · exact h.ask p hp hl
  · rcases oldq p hp with h1 | h1
    · exact .inl h1
    · exact .inr ⟨h1.1, by omega⟩
  · exact oldq p hp
  · omega
  · exact absurd (show 5 ≤ c.hL p by omega) (hno p hp hne)
  · omega
  · exact absurd (show 5 ≤ c.hL p by omega) (hno p hp hne)
  · exact mq.symm
  · exact absurd (show 5 ≤ c.hL p by omega) (hno p hp hne)
  · exact (old p hp (by omega)).2 he
  · exact (old p hp hl).2 he
def csCrash (c : CS) (keep : Bool) : CS := ⟨c.n, c.W, 0, if keep then c.S else c.sS, if keep then c.D else c.sD, if keep then c.G else c.sG, if keep then c.S else c.sS, if keep then c.D else c.sD, if keep then c.G else c.sG, fun _ => 0, fun _ => 0, fun _ => 0, fun _ => 0, fun _ => 0⟩
theorem CI.crash {c : CS} {i : Int} (h : CI c i) (keep : Bool) : CI (csCrash c keep) (i + 1) := by
  have hb := h.mono (show i ≤ i + 1 by omega)
  have hi := h.i0
  refine ⟨h.n1, h.n4, h.w, rfl, fun _ _ => rfl, fun _ _ => rfl, by simp [csCrash], by simp [csCrash], fun p hp => by simp [csCrash]; omega, by simp [csCrash], by simp [csCrash], by simp [csCrash], by simp [csCrash], fun p hp => .inl ?_, by simp [csCrash], by simp [csCrash], by simp [csCrash], by simp [csCrash], by simp [csCrash], fun w hw => ?_, fun w p hw hp => ?_, fun w p hw hp => ?_, fun p hp => by simp [csCrash]; omega, by omega⟩
  · have := h.bD c.W p h.w hp
    cases keep <;> simp [csCrash] <;> omega
  · have := hb.bS w hw
    cases keep <;> simp [csCrash] <;> omega
  · have := hb.bD w p hw hp
    cases keep <;> simp [csCrash] <;> omega
  · have := hb.bG w p hw hp
    cases keep <;> simp [csCrash] <;> omega
theorem gI_app {a b : List Int} (k : Nat) : gI (a ++ b) k = if k < a.length then gI a k else gI b (k - a.length) := by
  unfold gI
  split
  · rename_i h; rw [List.getElem?_append_left h]
  · rename_i h; rw [List.getElem?_append_right (by omega)]
theorem gI_range {f : Nat → Int} {n k : Nat} (h : k < n) : gI ((List.range n).map f) k = f k := by
  unfold gI
  rw [List.getElem?_map, List.getElem?_range h]; rfl
theorem gI_zeros {n k : Nat} : gI (List.replicate n 0) k = 0 := by
  unfold gI
  rw [List.getElem?_replicate]
  split <;> rfl
theorem CRel.crash {c : CS} {m : List Int} (h : CRel c m) (keep : Bool) : CRel (csCrash c keep) (combCrash m keep) := by
  have hl := h.len
  obtain ⟨m1, hm1⟩ : ∃ m1, m1 = (if keep then splI m 19 ((List.range 18).map fun j => gI m (1 + j)) else m) := ⟨_, rfl⟩
  have hcr : combCrash m keep = [gI m1 0] ++ ((List.range 18).map fun j => gI m1 (19 + j)) ++ ((List.range 18).map fun j => gI m1 (19 + j)) ++ [gI m1 37] ++ List.replicate 21 0 := by rw [hm1]; rfl
  have g1 : ∀ k, (k < 19 ∨ 37 ≤ k) → gI m1 k = gI m k := fun k hk => by
    rw [hm1]; split
    · rw [gI_spl (by simp; omega), if_neg (by simp; omega)]
    · rfl
  have g2 : ∀ j, j < 18 → gI m1 (19 + j) = if keep then gI m (1 + j) else gI m (19 + j) := fun j hj => by
    rw [hm1]; split
    · rw [gI_spl (by simp; omega), if_pos (by simp; omega), show 19 + j - 19 = j by omega, gI_range hj]
    · rfl
  have k0 : gI (combCrash m keep) 0 = gI m 0 := by rw [hcr, ← g1 0 (by omega)]; rfl
  have k1 : ∀ j, j < 18 → gI (combCrash m keep) (1 + j) = if keep then gI m (1 + j) else gI m (19 + j) := fun j hj => by
    rw [hcr, gI_app, if_pos (by first | (simp; done) | (simp; omega)), gI_app, if_pos (by first | (simp; done) | (simp; omega)), gI_app, if_pos (by first | (simp; done) | (simp; omega)), gI_app, if_neg (by first | (simp; done) | (simp; omega)), show 1 + j - [gI m1 0].length = j by simp, gI_range hj, g2 j hj]
  have k2 : ∀ j, j < 18 → gI (combCrash m keep) (19 + j) = if keep then gI m (1 + j) else gI m (19 + j) := fun j hj => by
    rw [hcr, gI_app, if_pos (by first | (simp; done) | (simp; omega)), gI_app, if_pos (by first | (simp; done) | (simp; omega)), gI_app, if_neg (by first | (simp; done) | (simp; omega))]
    rw [show 19 + j - ([gI m1 0] ++ (List.range 18).map fun j => gI m1 (19 + j)).length = j by simp, gI_range hj, g2 j hj]
  have k3 : gI (combCrash m keep) 37 = gI m 37 := by
    rw [hcr, gI_app, if_pos (by simp), gI_app, if_neg (by simp), ← g1 37 (by omega)]
    simp [gI]
  have k4 : ∀ k, 38 ≤ k → gI (combCrash m keep) k = 0 := fun k hk => by
    rw [hcr, gI_app, if_neg (by first | (simp; done) | (simp; omega))]; exact gI_zeros
  refine ⟨by rw [hcr]; simp, by rw [k0]; exact h.n, by rw [k3]; exact h.W, k4 _ (by omega), fun w hw => ?_, fun w p hw hp => ?_, fun w p hw hp => ?_, fun w hw => ?_, fun w p hw hp => ?_, fun w p hw hp => ?_, fun p hp => k4 _ (by omega), fun p hp => k4 _ (by omega), fun p hp => k4 _ (by omega), fun p hp => k4 _ (by omega), fun p hp => k4 _ (by omega)⟩
  · have e := k1 (w * 9) (by omega)
    rw [show 1 + (w * 9) = 1 + w * 9 by omega, show 19 + (w * 9) = 19 + w * 9 by omega] at e
    rw [e]
    cases keep
    · exact h.sS w hw
    · exact h.S w hw
  · have e := k1 (w * 9 + 1 + p) (by omega)
    rw [show 1 + (w * 9 + 1 + p) = 1 + w * 9 + 1 + p by omega, show 19 + (w * 9 + 1 + p) = 19 + w * 9 + 1 + p by omega] at e
    rw [e]
    cases keep
    · exact h.sD w p hw hp
    · exact h.D w p hw hp
  · have e := k1 (w * 9 + 5 + p) (by omega)
    rw [show 1 + (w * 9 + 5 + p) = 1 + w * 9 + 5 + p by omega, show 19 + (w * 9 + 5 + p) = 19 + w * 9 + 5 + p by omega] at e
    rw [e]
    cases keep
    · exact h.sG w p hw hp
    · exact h.G w p hw hp
  · have e := k2 (w * 9) (by omega)
    rw [show 1 + (w * 9) = 1 + w * 9 by omega, show 19 + (w * 9) = 19 + w * 9 by omega] at e
    rw [e]
    cases keep
    · exact h.sS w hw
    · exact h.S w hw
  · have e := k2 (w * 9 + 1 + p) (by omega)
    rw [show 1 + (w * 9 + 1 + p) = 1 + w * 9 + 1 + p by omega, show 19 + (w * 9 + 1 + p) = 19 + w * 9 + 1 + p by omega] at e
    rw [e]
    cases keep
    · exact h.sD w p hw hp
    · exact h.D w p hw hp
  · have e := k2 (w * 9 + 5 + p) (by omega)
    rw [show 1 + (w * 9 + 5 + p) = 1 + w * 9 + 5 + p by omega, show 19 + (w * 9 + 5 + p) = 19 + w * 9 + 5 + p by omega] at e
    rw [e]
    cases keep
    · exact h.sG w p hw hp
    · exact h.G w p hw hp
end Go.Proofs.YtockhbbpcbcenaaDoor
