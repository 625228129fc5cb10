import Derived.Test.YtockhbbpcbcenaaDoorCc
namespace Go.Proofs.YtockhbbpcbcenaaDoor
open Go.Eng
set_option maxRecDepth 20000
structure CS where
  n : Int
  W : Nat
  K : Int
  S : Nat → Int
  D : Nat → Nat → Int
  G : Nat → Nat → Int
  sS : Nat → Int
  sD : Nat → Nat → Int
  sG : Nat → Nat → Int
  aA : Nat → Int
  aN : Nat → Int
  hL : Nat → Int
  hA : Nat → Int
  hN : Nat → Int
/-- a comb as it lies, and what it is -/
structure CRel (c : CS) (m : List Int) : Prop where
  len : m.length = 59
  n : gI m (0) = c.n
  W : gI m (37) = (c.W : Int)
  K : gI m (38) = c.K
  S : ∀ w : Nat, w < 2 → gI m (1 + w * 9) = c.S w
  D : ∀ w p : Nat, w < 2 → p < 4 → gI m (1 + w * 9 + 1 + p) = c.D w p
  G : ∀ w p : Nat, w < 2 → p < 4 → gI m (1 + w * 9 + 5 + p) = c.G w p
  sS : ∀ w : Nat, w < 2 → gI m (19 + w * 9) = c.sS w
  sD : ∀ w p : Nat, w < 2 → p < 4 → gI m (19 + w * 9 + 1 + p) = c.sD w p
  sG : ∀ w p : Nat, w < 2 → p < 4 → gI m (19 + w * 9 + 5 + p) = c.sG w p
  aA : ∀ p : Nat, p < 4 → gI m (39 + p * 2) = c.aA p
  aN : ∀ p : Nat, p < 4 → gI m (40 + p * 2) = c.aN p
  hL : ∀ p : Nat, p < 4 → gI m (47 + p * 3) = c.hL p
  hA : ∀ p : Nat, p < 4 → gI m (47 + p * 3 + 1) = c.hA p
  hN : ∀ p : Nat, p < 4 → gI m (47 + p * 3 + 2) = c.hN p
theorem gI_out {m : List Int} {o : Nat} {vs : List Int} (h : o + vs.length ≤ m.length) {k : Nat} (hk : k < o ∨ o + vs.length ≤ k) : gI (splI m o vs) k = gI m k := by rw [gI_spl h, if_neg (by omega)]
theorem gI_in {m : List Int} {o : Nat} {vs : List Int} (h : o + vs.length ≤ m.length) {k : Nat} (hk : o ≤ k) (hk2 : k < o + vs.length) : gI (splI m o vs) k = gI vs (k - o) := by rw [gI_spl h, if_pos ⟨hk, hk2⟩]
def upd1 (f : Nat → Int) (q : Nat) (v : Int) : Nat → Int := fun p => if p = q then v else f p
theorem CRel.hl {c : CS} {m : List Int} (h : CRel c m) (q : Nat) (hq : q < 4) (v : Int) : CRel { c with hL := upd1 c.hL q v } (splI m (47 + q * 3) [v]) := by
  have hl := h.len
  have hb : 47 + q * 3 + ([v] : List Int).length ≤ m.length := by simp; omega
  have ho : ∀ k, (k < 47 + q * 3 ∨ 47 + q * 3 + 1 ≤ k) → gI (splI m (47 + q * 3) [v]) k = gI m k := fun k hk => gI_out hb (by simp only [List.length_cons, List.length_nil]; omega)
  have hi : ∀ k, 47 + q * 3 ≤ k → k < 47 + q * 3 + 1 → gI (splI m (47 + q * 3) [v]) k = gI [v] (k - (47 + q * 3)) := fun k h1 h2 => gI_in hb h1 (by simp only [List.length_cons, List.length_nil]; omega)
  refine ⟨by rw [splI_length hb]; exact hl,
    by rw [ho _ (by omega)]; exact h.n,
    by rw [ho _ (by omega)]; exact h.W,
    by rw [ho _ (by omega)]; exact h.K,
    fun w hw => by rw [ho _ (by omega)]; exact h.S w hw,
    fun w p hw hp => by rw [ho _ (by omega)]; exact h.D w p hw hp,
    fun w p hw hp => by rw [ho _ (by omega)]; exact h.G w p hw hp,
    fun w hw => by rw [ho _ (by omega)]; exact h.sS w hw,
    fun w p hw hp => by rw [ho _ (by omega)]; exact h.sD w p hw hp,
    fun w p hw hp => by rw [ho _ (by omega)]; exact h.sG w p hw hp,
    fun p hp => by rw [ho _ (by omega)]; exact h.aA p hp,
    fun p hp => by rw [ho _ (by omega)]; exact h.aN p hp,
    fun p hp => by
      dsimp only [upd1]
      by_cases e : p = q
      · subst e; rw [if_pos rfl, hi _ (by omega) (by omega)]; rw [show 47 + p * 3 - (47 + p * 3) = 0 by omega]; rfl
      · rw [if_neg e, ho _ (by omega)]; exact h.hL p hp,
    fun p hp => by rw [ho _ (by omega)]; exact h.hA p hp,
    fun p hp => by rw [ho _ (by omega)]; exact h.hN p hp⟩
theorem CRel.h3 {c : CS} {m : List Int} (h : CRel c m) (q : Nat) (hq : q < 4) (v1 v2 v3 : Int) : CRel { c with hL := upd1 c.hL q v1, hA := upd1 c.hA q v2, hN := upd1 c.hN q v3 } (splI m (47 + q * 3) [v1, v2, v3]) := by
  have hl := h.len
  have hb : 47 + q * 3 + ([v1, v2, v3] : List Int).length ≤ m.length := by simp; omega
  have ho : ∀ k, (k < 47 + q * 3 ∨ 47 + q * 3 + 3 ≤ k) → gI (splI m (47 + q * 3) [v1, v2, v3]) k = gI m k := fun k hk => gI_out hb (by simp only [List.length_cons, List.length_nil]; omega)
  have hi : ∀ k, 47 + q * 3 ≤ k → k < 47 + q * 3 + 3 → gI (splI m (47 + q * 3) [v1, v2, v3]) k = gI [v1, v2, v3] (k - (47 + q * 3)) := fun k h1 h2 => gI_in hb h1 (by simp only [List.length_cons, List.length_nil]; omega)
  refine ⟨by rw [splI_length hb]; exact hl,
    by rw [ho _ (by omega)]; exact h.n,
    by rw [ho _ (by omega)]; exact h.W,
    by rw [ho _ (by omega)]; exact h.K,
    fun w hw => by rw [ho _ (by omega)]; exact h.S w hw,
    fun w p hw hp => by rw [ho _ (by omega)]; exact h.D w p hw hp,
    fun w p hw hp => by rw [ho _ (by omega)]; exact h.G w p hw hp,
    fun w hw => by rw [ho _ (by omega)]; exact h.sS w hw,
    fun w p hw hp => by rw [ho _ (by omega)]; exact h.sD w p hw hp,
    fun w p hw hp => by rw [ho _ (by omega)]; exact h.sG w p hw hp,
    fun p hp => by rw [ho _ (by omega)]; exact h.aA p hp,
    fun p hp => by rw [ho _ (by omega)]; exact h.aN p hp,
    fun p hp => by
      dsimp only [upd1]
      by_cases e : p = q
      · subst e; rw [if_pos rfl, hi _ (by omega) (by omega)]; rw [show 47 + p * 3 - (47 + p * 3) = 0 by omega]; rfl
      · rw [if_neg e, ho _ (by omega)]; exact h.hL p hp,
    fun p hp => by
      dsimp only [upd1]
      by_cases e : p = q
      · subst e; rw [if_pos rfl, hi _ (by omega) (by omega)]; rw [show 47 + p * 3 + 1 - (47 + p * 3) = 1 by omega]; rfl
      · rw [if_neg e, ho _ (by omega)]; exact h.hA p hp,
    fun p hp => by
      dsimp only [upd1]
      by_cases e : p = q
      · subst e; rw [if_pos rfl, hi _ (by omega) (by omega)]; rw [show 47 + p * 3 + 2 - (47 + p * 3) = 2 by omega]; rfl
      · rw [if_neg e, ho _ (by omega)]; exact h.hN p hp⟩
theorem CRel.ask {c : CS} {m : List Int} (h : CRel c m) (q : Nat) (hq : q < 4) (v1 v2 : Int) : CRel { c with aA := upd1 c.aA q v1, aN := upd1 c.aN q v2 } (splI m (39 + q * 2) [v1, v2]) := by
  have hl := h.len
  have hb : 39 + q * 2 + ([v1, v2] : List Int).length ≤ m.length := by simp; omega
  have ho : ∀ k, (k < 39 + q * 2 ∨ 39 + q * 2 + 2 ≤ k) → gI (splI m (39 + q * 2) [v1, v2]) k = gI m k := fun k hk => gI_out hb (by simp only [List.length_cons, List.length_nil]; omega)
  have hi : ∀ k, 39 + q * 2 ≤ k → k < 39 + q * 2 + 2 → gI (splI m (39 + q * 2) [v1, v2]) k = gI [v1, v2] (k - (39 + q * 2)) := fun k h1 h2 => gI_in hb h1 (by simp only [List.length_cons, List.length_nil]; omega)
  refine ⟨by rw [splI_length hb]; exact hl,
    by rw [ho _ (by omega)]; exact h.n,
    by rw [ho _ (by omega)]; exact h.W,
    by rw [ho _ (by omega)]; exact h.K,
    fun w hw => by rw [ho _ (by omega)]; exact h.S w hw,
    fun w p hw hp => by rw [ho _ (by omega)]; exact h.D w p hw hp,
    fun w p hw hp => by rw [ho _ (by omega)]; exact h.G w p hw hp,
    fun w hw => by rw [ho _ (by omega)]; exact h.sS w hw,
    fun w p hw hp => by rw [ho _ (by omega)]; exact h.sD w p hw hp,
    fun w p hw hp => by rw [ho _ (by omega)]; exact h.sG w p hw hp,
    fun p hp => by
      dsimp only [upd1]
      by_cases e : p = q
      · subst e; rw [if_pos rfl, hi _ (by omega) (by omega)]; rw [show 39 + p * 2 - (39 + p * 2) = 0 by omega]; rfl
      · rw [if_neg e, ho _ (by omega)]; exact h.aA p hp,
    fun p hp => by
      dsimp only [upd1]
      by_cases e : p = q
      · subst e; rw [if_pos rfl, hi _ (by omega) (by omega)]; rw [show 40 + p * 2 - (39 + p * 2) = 1 by omega]; rfl
      · rw [if_neg e, ho _ (by omega)]; exact h.aN p hp,
    fun p hp => by rw [ho _ (by omega)]; exact h.hL p hp,
    fun p hp => by rw [ho _ (by omega)]; exact h.hA p hp,
    fun p hp => by rw [ho _ (by omega)]; exact h.hN p hp⟩
theorem CRel.lock {c : CS} {m : List Int} (h : CRel c m) (v : Int) : CRel { c with K := v } (splI m (38) [v]) := by
  have hl := h.len
  have hb : 38 + ([v] : List Int).length ≤ m.length := by simp; omega
  have ho : ∀ k, (k < 38 ∨ 38 + 1 ≤ k) → gI (splI m (38) [v]) k = gI m k := fun k hk => gI_out hb (by simp only [List.length_cons, List.length_nil]; omega)
  have hi : ∀ k, 38 ≤ k → k < 38 + 1 → gI (splI m (38) [v]) k = gI [v] (k - (38)) := fun k h1 h2 => gI_in hb h1 (by simp only [List.length_cons, List.length_nil]; omega)
  refine ⟨by rw [splI_length hb]; exact hl,
    by rw [ho _ (by omega)]; exact h.n,
    by rw [ho _ (by omega)]; exact h.W,
    by rw [hi _ (by omega) (by omega)]; rfl,
    fun w hw => by rw [ho _ (by omega)]; exact h.S w hw,
    fun w p hw hp => by rw [ho _ (by omega)]; exact h.D w p hw hp,
    fun w p hw hp => by rw [ho _ (by omega)]; exact h.G w p hw hp,
    fun w hw => by rw [ho _ (by omega)]; exact h.sS w hw,
    fun w p hw hp => by rw [ho _ (by omega)]; exact h.sD w p hw hp,
    fun w p hw hp => by rw [ho _ (by omega)]; exact h.sG w p hw hp,
    fun p hp => by rw [ho _ (by omega)]; exact h.aA p hp,
    fun p hp => by rw [ho _ (by omega)]; exact h.aN p hp,
    fun p hp => by rw [ho _ (by omega)]; exact h.hL p hp,
    fun p hp => by rw [ho _ (by omega)]; exact h.hA p hp,
    fun p hp => by rw [ho _ (by omega)]; exact h.hN p hp⟩
theorem CRel.which {c : CS} {m : List Int} (h : CRel c m) (v : Nat) : CRel { c with W := v } (splI m (37) [(v : Int)]) := by
  have hl := h.len
  have hb : 37 + ([(v : Int)] : List Int).length ≤ m.length := by simp; omega
  have ho : ∀ k, (k < 37 ∨ 37 + 1 ≤ k) → gI (splI m (37) [(v : Int)]) k = gI m k := fun k hk => gI_out hb (by simp only [List.length_cons, List.length_nil]; omega)
  have hi : ∀ k, 37 ≤ k → k < 37 + 1 → gI (splI m (37) [(v : Int)]) k = gI [(v : Int)] (k - (37)) := fun k h1 h2 => gI_in hb h1 (by simp only [List.length_cons, List.length_nil]; omega)
  refine ⟨by rw [splI_length hb]; exact hl,
    by rw [ho _ (by omega)]; exact h.n,
    by rw [hi _ (by omega) (by omega)]; rfl,
    by rw [ho _ (by omega)]; exact h.K,
    fun w hw => by rw [ho _ (by omega)]; exact h.S w hw,
    fun w p hw hp => by rw [ho _ (by omega)]; exact h.D w p hw hp,
    fun w p hw hp => by rw [ho _ (by omega)]; exact h.G w p hw hp,
    fun w hw => by rw [ho _ (by omega)]; exact h.sS w hw,
    fun w p hw hp => by rw [ho _ (by omega)]; exact h.sD w p hw hp,
    fun w p hw hp => by rw [ho _ (by omega)]; exact h.sG w p hw hp,
    fun p hp => by rw [ho _ (by omega)]; exact h.aA p hp,
    fun p hp => by rw [ho _ (by omega)]; exact h.aN p hp,
    fun p hp => by rw [ho _ (by omega)]; exact h.hL p hp,
    fun p hp => by rw [ho _ (by omega)]; exact h.hA p hp,
    fun p hp => by rw [ho _ (by omega)]; exact h.hN p hp⟩
theorem CRel.now {c : CS} {m : List Int} (h : CRel c m) (u : Nat) (hu : u < 2) (s : List Int) (hs : s.length = 9) : CRel { c with S := fun w => if w = u then gI s 0 else c.S w, D := fun w p => if w = u then gI s (1 + p) else c.D w p, G := fun w p => if w = u then gI s (5 + p) else c.G w p } (splI m (1 + u * 9) s) := by
  have hl := h.len
  have hb : 1 + u * 9 + s.length ≤ m.length := by omega
  have ho : ∀ k, (k < 1 + u * 9 ∨ 1 + u * 9 + 9 ≤ k) → gI (splI m (1 + u * 9) s) k = gI m k := fun k hk => gI_out hb (by omega)
  have hi : ∀ k, 1 + u * 9 ≤ k → k < 1 + u * 9 + 9 → gI (splI m (1 + u * 9) s) k = gI s (k - (1 + u * 9)) := fun k h1 h2 => gI_in hb h1 (by omega)
  refine ⟨by rw [splI_length hb]; exact hl,
    by rw [ho _ (by omega)]; exact h.n,
    by rw [ho _ (by omega)]; exact h.W,
    by rw [ho _ (by omega)]; exact h.K,
    fun w hw => by
      dsimp only
      by_cases e : w = u
      · subst e; rw [if_pos rfl, hi _ (by omega) (by omega)]; congr 1; omega
      · rw [if_neg e, ho _ (by omega)]; exact h.S w hw,
    fun w p hw hp => by
      dsimp only
      by_cases e : w = u
      · subst e; rw [if_pos rfl, hi _ (by omega) (by omega)]; congr 1; omega
      · rw [if_neg e, ho _ (by omega)]; exact h.D w p hw hp,
    fun w p hw hp => by
      dsimp only
      by_cases e : w = u
      · subst e; rw [if_pos rfl, hi _ (by omega) (by omega)]; congr 1; omega
      · rw [if_neg e, ho _ (by omega)]; exact h.G w p hw hp,
    fun w hw => by rw [ho _ (by omega)]; exact h.sS w hw,
    fun w p hw hp => by rw [ho _ (by omega)]; exact h.sD w p hw hp,
    fun w p hw hp => by rw [ho _ (by omega)]; exact h.sG w p hw hp,
    fun p hp => by rw [ho _ (by omega)]; exact h.aA p hp,
    fun p hp => by rw [ho _ (by omega)]; exact h.aN p hp,
    fun p hp => by rw [ho _ (by omega)]; exact h.hL p hp,
    fun p hp => by rw [ho _ (by omega)]; exact h.hA p hp,
    fun p hp => by rw [ho _ (by omega)]; exact h.hN p hp⟩
theorem CRel.sure {c : CS} {m : List Int} (h : CRel c m) (u : Nat) (hu : u < 2) (s : List Int) (hs : s.length = 9) : CRel { c with sS := fun w => if w = u then gI s 0 else c.sS w, sD := fun w p => if w = u then gI s (1 + p) else c.sD w p, sG := fun w p => if w = u then gI s (5 + p) else c.sG w p } (splI m (19 + u * 9) s) := by
  have hl := h.len
  have hb : 19 + u * 9 + s.length ≤ m.length := by omega
  have ho : ∀ k, (k < 19 + u * 9 ∨ 19 + u * 9 + 9 ≤ k) → gI (splI m (19 + u * 9) s) k = gI m k := fun k hk => gI_out hb (by omega)
  have hi : ∀ k, 19 + u * 9 ≤ k → k < 19 + u * 9 + 9 → gI (splI m (19 + u * 9) s) k = gI s (k - (19 + u * 9)) := fun k h1 h2 => gI_in hb h1 (by omega)
  refine ⟨by rw [splI_length hb]; exact hl,
    by rw [ho _ (by omega)]; exact h.n,
    by rw [ho _ (by omega)]; exact h.W,
    by rw [ho _ (by omega)]; exact h.K,
    fun w hw => by rw [ho _ (by omega)]; exact h.S w hw,
    fun w p hw hp => by rw [ho _ (by omega)]; exact h.D w p hw hp,
    fun w p hw hp => by rw [ho _ (by omega)]; exact h.G w p hw hp,
    fun w hw => by
      dsimp only
      by_cases e : w = u
      · subst e; rw [if_pos rfl, hi _ (by omega) (by omega)]; congr 1; omega
      · rw [if_neg e, ho _ (by omega)]; exact h.sS w hw,
    fun w p hw hp => by
      dsimp only
      by_cases e : w = u
      · subst e; rw [if_pos rfl, hi _ (by omega) (by omega)]; congr 1; omega
      · rw [if_neg e, ho _ (by omega)]; exact h.sD w p hw hp,
    fun w p hw hp => by
      dsimp only
      by_cases e : w = u
      · subst e; rw [if_pos rfl, hi _ (by omega) (by omega)]; congr 1; omega
      · rw [if_neg e, ho _ (by omega)]; exact h.sG w p hw hp,
    fun p hp => by rw [ho _ (by omega)]; exact h.aA p hp,
    fun p hp => by rw [ho _ (by omega)]; exact h.aN p hp,
    fun p hp => by rw [ho _ (by omega)]; exact h.hL p hp,
    fun p hp => by rw [ho _ (by omega)]; exact h.hA p hp,
    fun p hp => by rw [ho _ (by omega)]; exact h.hN p hp⟩
end Go.Proofs.YtockhbbpcbcenaaDoor
