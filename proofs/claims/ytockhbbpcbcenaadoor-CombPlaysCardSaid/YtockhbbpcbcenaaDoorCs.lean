import Derived.Test.YtockhbbpcbcenaaDoorCo
namespace Go.Proofs.YtockhbbpcbcenaaDoor
open Go.Eng
set_option maxRecDepth 20000
/-! ### a line of the comb as a function -/
def cRowS (s : Int) (d g : Nat → Int) : List Int := [s, d 0, d 1, d 2, d 3, g 0, g 1, g 2, g 3]
theorem cRowS_0 (s : Int) (d g : Nat → Int) : gI (cRowS s d g) 0 = s := rfl
theorem cRowS_d (s : Int) (d g : Nat → Int) {p : Nat} (h : p < 4) : gI (cRowS s d g) (1 + p) = d p := by
  rcases (show p = 0 ∨ p = 1 ∨ p = 2 ∨ p = 3 by omega) with rfl | rfl | rfl | rfl <;> rfl
theorem cRowS_g (s : Int) (d g : Nat → Int) {p : Nat} (h : p < 4) : gI (cRowS s d g) (5 + p) = g p := by
  rcases (show p = 0 ∨ p = 1 ∨ p = 2 ∨ p = 3 by omega) with rfl | rfl | rfl | rfl <;> rfl
theorem list9 {l : List Int} (h : l.length = 9) : l = cRowS (gI l 0) (fun p => gI l (1 + p)) (fun p => gI l (5 + p)) := by
  match l, h with
  | [a, b, c, d, e, f, g, h, i], _ => rfl
theorem cRowS_eq {s s' : Int} {d g d' g' : Nat → Int} (h0 : s = s') (h1 : ∀ p, p < 4 → d p = d' p) (h2 : ∀ p, p < 4 → g p = g' p) : cRowS s d g = cRowS s' d' g' := by
  unfold cRowS
  rw [h0, h1 0 (by omega), h1 1 (by omega), h1 2 (by omega), h1 3 (by omega), h2 0 (by omega), h2 1 (by omega), h2 2 (by omega), h2 3 (by omega)]
def cNew (c : CS) : List Int := cRowS (c.S c.W + dsum (c.D c.W) c.aN c.aA 4) (fun p => if p < 4 ∧ c.aN p = c.D c.W p + 1 then c.D c.W p + 1 else c.D c.W p) (fun p => if p < 4 ∧ c.aN p = c.D c.W p + 1 then c.S c.W + dsum (c.D c.W) c.aN c.aA p else c.G c.W p)
def cOth (c : CS) : List Int := cRowS (c.S (1 - c.W)) (c.D (1 - c.W)) (c.G (1 - c.W))
def cAdd (c : CS) (s : List Int) : CS := { c with S := (fun w => if w = 1 - c.W then gI s 0 else c.S w), D := (fun w p => if w = 1 - c.W then gI s (1 + p) else c.D w p), G := (fun w p => if w = 1 - c.W then gI s (5 + p) else c.G w p) }
def cSure (c : CS) (s : List Int) : CS := { c with sS := (fun w => if w = 1 - c.W then gI s 0 else c.sS w), sD := (fun w p => if w = 1 - c.W then gI s (1 + p) else c.sD w p), sG := (fun w p => if w = 1 - c.W then gI s (5 + p) else c.sG w p) }
def cLn (c : CS) (q : Nat) (v : Int) : CS := { c with hL := upd1 c.hL q v }
def cstp (c : CS) (q : Nat) : CS × Bool × Int :=
  if c.hL q = 1 then (cLn { c with aA := upd1 c.aA q (c.hA q), aN := upd1 c.aN q (c.hN q) } q 2, false, 0)
  else if c.hL q = 2 then (if c.K = 0 then (cLn { c with K := (q : Int) + 1 } q 5, false, 0) else (cLn c q 3, false, 0))
  else if c.hL q = 3 then (if c.K = 0 then (cLn c q 4, false, 0) else (cLn c q 3, false, 0))
  else if c.hL q = 4 then (if c.D c.W q = c.hN q then ({ c with hL := upd1 c.hL q 0, hA := upd1 c.hA q 0, hN := upd1 c.hN q 0 }, true, c.G c.W q) else (cLn c q 2, false, 0))
  else if c.hL q = 5 then (cLn (cAdd c (cNew c)) q 6, false, 0)
  else if c.hL q = 6 then (cLn (cSure c (cOth c)) q 7, false, 0)
  else if c.hL q = 7 then (cLn { c with W := 1 - c.W } q 8, false, 0)
  else (cLn { c with K := 0 } q 4, false, 0)
theorem combN_new {c : CS} {m : List Int} (hr : CRel c m) (hW : c.W < 2) : combN m (cHalf m (gI m 37)) 4 = cNew c := by
  obtain ⟨s0, s1, s2⟩ := combN_spec hr hW 4 (by omega)
  have hsl := combN_len (m := m) (cHalf_len m (gI m 37)) 4 (by omega)
  rw [list9 hsl]
  exact cRowS_eq s0 s1 s2
theorem cHalf_oth {c : CS} {m : List Int} (hr : CRel c m) (hW : c.W < 2) : cHalf m (1 - gI m 37) = cOth c := by
  have hWI : 1 - gI m 37 = ((1 - c.W : Nat) : Int) := by rw [hr.W]; omega
  have hget := fun j hj => cHalf_get m ((1 - c.W : Nat) : Int) j hj
  simp only [Int.toNat_natCast] at hget
  rw [hWI, list9 (cHalf_len m ((1 - c.W : Nat) : Int))]
  refine cRowS_eq ?_ (fun p hp => ?_) (fun p hp => ?_)
  · rw [hget 0 (by omega), Nat.add_zero]; exact hr.S _ (by omega)
  · rw [hget _ (by omega), ← hr.D _ p (by omega) hp]; congr 1; omega
  · rw [hget _ (by omega), ← hr.G _ p (by omega) hp]; congr 1; omega
theorem comb_line2 {c : CS} {m : List Int} {i : Int} (hr : CRel c m) (h : CI c i) {k : Nat} (hkn : (k : Int) < c.n) (h0 : c.hL k ≠ 0) :
    (combStep m (k : Int)).2 = ((cstp c k).2.1, (cstp c k).2.2, 0) ∧ CRel (cstp c k).1 (combStep m (k : Int)).1 ∧ CI (cstp c k).1 (i + 1) := by
  unfold combStep cstp
  have hn := hr.n
  have n4 := h.n4
  rw [if_neg (show ¬ ¬ (0 ≤ (k : Int) ∧ (k : Int) ≤ gI m 0 - 1) from not_not_intro ⟨by omega, by omega⟩)]
  simp only [Int.toNat_natCast]
  have hk : k < 4 := by omega
  have hN := combN_new hr h.w
  have hO := cHalf_oth hr h.w
  have hW : (gI m 37).toNat = c.W := by rw [hr.W]; simp
  have hW1 : (1 - gI m 37).toNat = 1 - c.W := by rw [hr.W]; have := h.w; omega
  have hWI : 1 - gI m 37 = ((1 - c.W : Nat) : Int) := by rw [hr.W]; have := h.w; omega
  rw [hr.hL k hk, hr.hA k hk, hr.hN k hk, hr.K, hW, hO, hW1, hWI, hr.D c.W k h.w hk, hr.G c.W k h.w hk]
  rw [if_neg h0]
  by_cases h1 : c.hL k = 1
  · rw [if_pos h1, if_pos h1, h1]
    exact ⟨rfl, (hr.ask k hk _ _).hl k hk _, h.line1 hk h1⟩
  rw [if_neg h1, if_neg h1]
  by_cases h2 : c.hL k = 2
  · rw [if_pos h2, if_pos h2, h2]
    by_cases hK : c.K = 0
    · rw [if_pos hK, if_pos hK]
      exact ⟨rfl, (hr.lock _).hl k hk _, h.lock hk h2 hK⟩
    · rw [if_neg hK, if_neg hK]
      exact ⟨rfl, hr.hl k hk _, h.wait hk (by omega) (by omega)⟩
  rw [if_neg h2, if_neg h2]
  by_cases h3 : c.hL k = 3
  · rw [if_pos h3, if_pos h3, h3]
    by_cases hK : c.K = 0
    · rw [if_neg (not_not_intro hK), if_pos hK]
      exact ⟨rfl, hr.hl k hk _, h.wait hk (by omega) (by omega)⟩
    · rw [if_pos hK, if_neg hK]
      exact ⟨rfl, hr.hl k hk _, h.wait hk (by omega) (by omega)⟩
  rw [if_neg h3, if_neg h3]
  by_cases h4 : c.hL k = 4
  · rw [if_pos h4, if_pos h4]
    by_cases hD : c.D c.W k = c.hN k
    · rw [if_pos hD, if_pos hD]
      exact ⟨rfl, hr.h3 k hk _ _ _, h.done hk h4 hD.symm⟩
    · rw [if_neg hD, if_neg hD]
      exact ⟨rfl, hr.hl k hk _, h.wait hk (by omega) (by omega)⟩
  rw [if_neg h4, if_neg h4]
  by_cases h5 : c.hL k = 5
  · rw [if_pos h5, if_pos h5, h5]
    unfold combAll
    rw [hW1, hN]
    exact ⟨rfl, (hr.now (1 - c.W) (by omega) _ rfl).hl k hk _, h.combine hk h5 rfl (fun p hp => cRowS_d _ _ _ hp) (fun p hp => cRowS_g _ _ _ hp)⟩
  rw [if_neg h5, if_neg h5]
  by_cases h6 : c.hL k = 6
  · rw [if_pos h6, if_pos h6, h6]
    exact ⟨rfl, (hr.sure (1 - c.W) (by omega) _ rfl).hl k hk _, h.copy hk h6 rfl (fun p hp => cRowS_d _ _ _ hp) (fun p hp => cRowS_g _ _ _ hp)⟩
  rw [if_neg h6, if_neg h6]
  by_cases h7 : c.hL k = 7
  · rw [if_pos h7, if_pos h7, h7]
    exact ⟨rfl, (hr.which _).hl k hk _, h.flip hk h7⟩
  rw [if_neg h7, if_neg h7]
  have h8 : c.hL k = 8 := by have := h.ln k hk; omega
  rw [if_pos h8]
  exact ⟨rfl, (hr.lock _).hl k hk _, h.free hk h8⟩
theorem comb_line0 {c : CS} {m : List Int} {i : Int} (hr : CRel c m) (h : CI c i) {q : Int} (hq : ¬ (0 ≤ q ∧ q ≤ c.n - 1)) : combStep m q = (m, false, 0, 1) := by
  unfold combStep; rw [hr.n, if_pos hq]
theorem comb_line7 {c : CS} {m : List Int} {i : Int} (hr : CRel c m) (h : CI c i) {k : Nat} (hkn : (k : Int) < c.n) (h0 : c.hL k = 0) : combStep m (k : Int) = (m, false, 0, 7) := by
  have := h.n4
  unfold combStep; rw [hr.n, if_neg (not_not_intro ⟨by omega, by omega⟩), Int.toNat_natCast, hr.hL k (by omega), if_pos h0]
theorem comb_begin1 {c : CS} {m : List Int} {i : Int} (hr : CRel c m) (h : CI c i) {q add : Int} (hq : ¬ (0 ≤ q ∧ q ≤ c.n - 1) ∨ ¬ (0 ≤ add ∧ add ≤ 1000)) : combBegin m q add = (m, 1) := by
  unfold combBegin; rw [hr.n, if_pos hq]
theorem comb_begin7 {c : CS} {m : List Int} {i : Int} (hr : CRel c m) (h : CI c i) {k : Nat} {add : Int} (hkn : (k : Int) < c.n) (ha : 0 ≤ add ∧ add ≤ 1000) (h0 : c.hL k ≠ 0) : combBegin m (k : Int) add = (m, 7) := by
  have := h.n4
  unfold combBegin; rw [hr.n, if_neg (by omega), Int.toNat_natCast, hr.hL k (by omega), if_pos h0]
def cBg (c : CS) (k : Nat) (add : Int) : CS := { c with hL := upd1 c.hL k 1, hA := upd1 c.hA k add, hN := upd1 c.hN k (c.D c.W k + 1) }
theorem comb_begin0 {c : CS} {m : List Int} {i : Int} (hr : CRel c m) (h : CI c i) {k : Nat} {add : Int} (hkn : (k : Int) < c.n) (ha : 0 ≤ add ∧ add ≤ 1000) (h0 : c.hL k = 0) :
    (combBegin m (k : Int) add).2 = 0 ∧ CRel (cBg c k add) (combBegin m (k : Int) add).1 ∧ CI (cBg c k add) (i + 1) := by
  have n4 := h.n4
  have hk : k < 4 := by omega
  have hW : (gI m 37).toNat = c.W := by rw [hr.W]; simp
  unfold combBegin
  rw [hr.n, if_neg (by omega), Int.toNat_natCast, hr.hL k hk, if_neg (not_not_intro h0), hW, hr.D c.W k h.w hk]
  exact ⟨rfl, hr.h3 k hk 1 add _, h.begin hk hkn h0 ha.1 ha.2⟩
end Go.Proofs.YtockhbbpcbcenaaDoor
