import Derived.Test.YtiaopgnnibidlaaDo
namespace Go.Proofs.Ytiaopgnnibidlaa
open Go.Eng
set_option maxRecDepth 20000
def itN (f : Nat → Nat) : Nat → Nat → Nat
  | 0, x => x
  | j + 1, x => f (itN f j x)
theorem itN_lt {t : TS} (h : TI t) {x : Nat} (hx : x < t.n) : ∀ j, itN (nxt t.n) j x < t.n ∧ itN (prv t.n) j x < t.n
  | 0 => ⟨hx, hx⟩
  | _ + 1 => ⟨nxt_lt h.n3, prv_lt h.n3⟩
structure Cha (t : TS) (x r l : Nat) : Prop where
  sr : stR t (itN (nxt t.n) r x)
  mr : ∀ j, j < r → ¬ stR t (itN (nxt t.n) j x)
  sl : stL t (itN (prv t.n) l x)
  ml : ∀ j, j < l → ¬ stL t (itN (prv t.n) j x)
def tz (n x r l : Nat) : Nat := if 0 < r then itN (nxt n) r x else if 0 < l then itN (prv n) l x else x
theorem least {P : Nat → Prop} : ∀ r0, P r0 → ∃ r, r ≤ r0 ∧ P r ∧ ∀ j, j < r → ¬ P j := by
  intro r0
  induction r0 using Nat.strongRecOn with
  | ind r0 ih =>
    intro h
    by_cases hx : ∃ j, j < r0 ∧ P j
    · obtain ⟨j, hj, hp⟩ := hx
      obtain ⟨r, h1, h2, h3⟩ := ih j hj hp
      exact ⟨r, by omega, h2, h3⟩
    · exact ⟨r0, Nat.le_refl _, h, fun j hj hp => hx ⟨j, hj, hp⟩⟩
theorem Cha.top {t : TS} {x r l : Nat} (c : Cha t x r l) (h : TI t) (hx : x < t.n) (hg : t.g x ≠ 0) : Top t (tz t.n x r l) := by
  unfold tz
  split
  · rename_i h0
    obtain ⟨r, rfl⟩ : ∃ s, r = s + 1 := ⟨r - 1, by omega⟩
    have hm := c.mr r (by omega)
    have hlt := (itN_lt h hx r).1
    obtain ⟨f1, f2, _⟩ := ring_facts h.n3 h.n6 hlt
    refine ⟨(itN_lt h hx _).1, fun hc => hm (.inr hc), c.sr, .inl ?_⟩
    show ¬ tPr t (prv t.n (nxt t.n (itN (nxt t.n) r x)))
    rw [f2]
    exact fun hc => hm (.inl hc)
  split
  · rename_i h0 h1
    obtain rfl : r = 0 := by omega
    obtain ⟨l, rfl⟩ : ∃ s, l = s + 1 := ⟨l - 1, by omega⟩
    have hm := c.ml l (by omega)
    refine ⟨(itN_lt h hx _).2, fun hc => hm (.inr hc), .inl ?_, c.sl⟩
    exact Classical.byContradiction fun hc => hm (.inl hc)
  · rename_i h0 h1
    obtain rfl : r = 0 := by omega
    obtain rfl : l = 0 := by omega
    exact ⟨hx, hg, c.sr, c.sl⟩
/-- what a line does to who comes first -/
theorem line_pr {t : TS} {k : Nat} (h : TI t) (hk : k < t.n) (h2 : t.g k ≠ 2) :
    ((∀ f, f < t.n → (tPr (tLine t k (prv t.n k)).1 f ↔ tPr t f)) ∧ ∀ j, (tLine t k (prv t.n k)).1.g j = t.g j) ∨
    ((∀ f, f < t.n → f ≠ k → f ≠ prv t.n k → (tPr (tLine t k (prv t.n k)).1 f ↔ tPr t f)) ∧ ¬ tPr (tLine t k (prv t.n k)).1 k ∧ tPr (tLine t k (prv t.n k)).1 (prv t.n k) ∧ t.g k ≠ 0 ∧ (tLine t k (prv t.n k)).1.g k = 2 ∧ ∀ j, j ≠ k → (tLine t k (prv t.n k)).1.g j = t.g j) := by
  obtain ⟨k1, k2, k3, k4, k5⟩ := ring_facts h.n3 h.n6 hk
  have one : ∀ {f w' a' : Nat} {d' : Bool}, (((d' = false ∧ w' = f) ∨ (d' = true ∧ w' ≠ f)) ↔ tPr t f) → (∀ j, j < t.n → (tPr (t.setF f w' a' d') j ↔ tPr t j)) ∧ ∀ j, (t.setF f w' a' d').g j = t.g j := fun {f w' a' d'} hp =>
    ⟨fun j _ => by
      rcases setF_cases t f w' a' d' j with ⟨rfl, _⟩ | ⟨_, e1, e2, e3⟩
      · rw [tPr_self]; exact hp
      · unfold tPr; rw [e1, e3], fun _ => rfl⟩
  unfold tLine
  rw [if_neg h2]
  split
  · rename_i hg
    obtain ⟨g1, g2, g3⟩ := hg
    refine .inl (one ?_)
    unfold tPr; rw [g1, g2]
    simp; omega
  split
  · rename_i hg
    obtain ⟨g1, g2, g3⟩ := hg
    refine .inl (one ?_)
    unfold tPr; rw [g1, g2]
    simp; omega
  split
  · exact .inl ⟨fun _ _ => Iff.rfl, fun _ => rfl⟩
  split
  · rename_i h0 hb
    have ew : (tEat t k (prv t.n k)).w = t.w := by simp [tEat, TS.setF, updN_self]
    have ed : ∀ j, (tEat t k (prv t.n k)).d j = if j = k ∨ j = prv t.n k then true else t.d j := fun j => by
      simp only [tEat, TS.setF]
      by_cases e1 : j = k
      · subst e1; rw [updN_same, if_pos (.inl rfl)]
      · rw [updN_ne e1]
        by_cases e2 : j = prv t.n k
        · rw [e2, updN_same, if_pos (.inr rfl)]
        · rw [updN_ne e2, if_neg (by omega)]
    refine .inr ⟨fun f hf n1 n2 => ?_, ?_, ?_, h0, updN_same _ _ _, fun j hj => updN_ne hj⟩
    · unfold tPr; rw [ew, ed, if_neg (by omega)]
    · unfold tPr; rw [ew, ed, hb.2]; simp
    · unfold tPr; rw [ew, ed, hb.1]; simp; omega
  split
  · refine .inl (one Iff.rfl)
  split
  · refine .inl (one Iff.rfl)
  · exact .inl ⟨fun _ _ => Iff.rfl, fun _ => rfl⟩
theorem tLine_n' (t : TS) (k : Nat) : (tLine t k (prv t.n k)).1.n = t.n := tLine_n _ _ _
/-- the chains get no longer -/
theorem Cha.line {t : TS} {x r l k : Nat} (c : Cha t x r l) (h : TI t) (hx : x < t.n) (hk : k < t.n) (h2 : t.g k ≠ 2) (hkx : ¬ (k = x ∧ (tLine t k (prv t.n k)).1.g x = 2)) :
    ∃ r' l', r' ≤ r ∧ l' ≤ l ∧ Cha (tLine t k (prv t.n k)).1 x r' l' ∧ (r' = r → l' = l → k = tz t.n x r l → (tLine t k (prv t.n k)).1.g k ≠ 2 ∨ k = x) := by
  have hp := line_pr h hk h2
  have hn := tLine_n' t k
  generalize (tLine t k (prv t.n k)).1 = t' at hp hn hkx
  obtain ⟨k1, k2, k3, k4, k5⟩ := ring_facts h.n3 h.n6 hk
  have hR : ∃ r0, r0 ≤ r ∧ stR t' (itN (nxt t.n) r0 x) ∧ (t'.g k = 2 → 0 < r → k = itN (nxt t.n) r x → r0 < r) := by
    rcases hp with ⟨p1, p2⟩ | ⟨p1, p2, p3, p4, p5, p6⟩
    · refine ⟨r, Nat.le_refl _, ?_, fun hc => absurd (by rw [← p2]; exact hc) h2⟩
      rcases c.sr with hs | hs
      · exact .inl ((p1 _ (itN_lt h hx r).1).2 hs)
      · exact .inr (by rw [hn, p2]; exact hs)
    · by_cases hex : ∃ j, j < r ∧ itN (nxt t.n) (j + 1) x = k
      · obtain ⟨j, hj, he⟩ := hex
        refine ⟨j, by omega, .inl ?_, fun _ _ _ => hj⟩
        have hlt := (itN_lt h hx j).1
        have : itN (nxt t.n) j x = prv t.n k := by rw [← he]; exact ((ring_facts h.n3 h.n6 hlt).2.1).symm
        rw [this]; exact p3
      · have hrk : itN (nxt t.n) r x ≠ k := fun he => by
          cases r with
          | zero => exact hkx ⟨he.symm, by rw [show x = k from he]; exact p5⟩
          | succ r => exact hex ⟨r, by omega, he⟩
        refine ⟨r, Nat.le_refl _, ?_, fun _ _ he => absurd he.symm hrk⟩
        have hlt := (itN_lt h hx r).1
        by_cases hpk : itN (nxt t.n) r x = prv t.n k
        · exact .inl (by rw [hpk]; exact p3)
        rcases c.sr with hs | hs
        · exact .inl ((p1 _ hlt hrk hpk).2 hs)
        · refine .inr ?_
          rw [hn]
          by_cases e : nxt t.n (itN (nxt t.n) r x) = k
          · rw [e] at hs; exact absurd hs p4
          · rw [p6 _ e]; exact hs
  have hL : ∃ l0, l0 ≤ l ∧ stL t' (itN (prv t.n) l0 x) ∧ (t'.g k = 2 → 0 < l → k = itN (prv t.n) l x → l0 < l) := by
    rcases hp with ⟨p1, p2⟩ | ⟨p1, p2, p3, p4, p5, p6⟩
    · refine ⟨l, Nat.le_refl _, ?_, fun hc => absurd (by rw [← p2]; exact hc) h2⟩
      unfold stL
      rw [hn, p2, p1 _ (prv_lt h.n3)]
      exact c.sl
    · by_cases hex : ∃ j, j < l ∧ itN (prv t.n) (j + 1) x = k
      · obtain ⟨j, hj, he⟩ := hex
        refine ⟨j, by omega, .inl ?_, fun _ _ _ => hj⟩
        have he : prv t.n (itN (prv t.n) j x) = k := he
        rw [hn, he]; exact p2
      · have hrk : itN (prv t.n) l x ≠ k := fun he => by
          cases l with
          | zero => exact hkx ⟨he.symm, by rw [show x = k from he]; exact p5⟩
          | succ l => exact hex ⟨l, by omega, he⟩
        refine ⟨l, Nat.le_refl _, ?_, fun _ _ he => absurd he.symm hrk⟩
        have hlt := (itN_lt h hx l).2
        have hne : prv t.n (itN (prv t.n) l x) ≠ prv t.n k := fun e => hrk (by rw [← (ring_facts h.n3 h.n6 hlt).1, e, k1])
        by_cases hpk : prv t.n (itN (prv t.n) l x) = k
        · exact .inl (by rw [hn, hpk]; exact p2)
        unfold stL
        rw [hn, p1 _ (prv_lt h.n3) hpk hne, p6 _ hpk]
        exact c.sl
  obtain ⟨r0, hr0, sr, br⟩ := hR
  obtain ⟨l0, hl0, sl, bl⟩ := hL
  obtain ⟨r', a1, a2, a3⟩ := least (P := fun j => stR t' (itN (nxt t.n) j x)) r0 sr
  obtain ⟨l', b1, b2, b3⟩ := least (P := fun j => stL t' (itN (prv t.n) j x)) l0 sl
  refine ⟨r', l', by omega, by omega, ⟨by rw [hn]; exact a2, by rw [hn]; exact a3, by rw [hn]; exact b2, by rw [hn]; exact b3⟩, fun e1 e2 hz => ?_⟩
  by_cases hg2 : t'.g k = 2
  · refine .inr ?_
    unfold tz at hz
    split at hz
    · rename_i h0
      have := br hg2 h0 hz; omega
    split at hz
    · rename_i h0
      have := bl hg2 h0 hz; omega
    · exact hz
  · exact .inl hg2
def WKey (t : TS) (x M b : Nat) : Prop := ∃ r l, Cha t x r l ∧ 7 * (r + l) + (phL t (tz t.n x r l) + phR t (tz t.n x r l)) ≤ M ∧ b = tKey t (tz t.n x r l)
def WPot (t : TS) (x M : Nat) : Prop := ∃ b, WKey t x M b
theorem WKey.line {t : TS} {x M b k : Nat} (w : WKey t x M b) (h : TI t) (hx : x < t.n) (hg : t.g x ≠ 0) (hk : k < t.n) (h2 : t.g k ≠ 2) (hkx : ¬ (k = x ∧ (tLine t k (prv t.n k)).1.g x = 2)) :
    (k ≠ b ∧ WKey (tLine t k (prv t.n k)).1 x M b) ∨ ∃ M', M' < M ∧ WPot (tLine t k (prv t.n k)).1 x M' := by
  obtain ⟨r, l, c, hM, rfl⟩ := w
  have top := c.top h hx hg
  obtain ⟨r', l', h1, h2', c', hz⟩ := c.line h hx hk h2 hkx
  have hn := tLine_n' t k
  have hb := ph_b (tLine t k (prv t.n k)).1 (tz t.n x r' l')
  by_cases hlt : r' + l' < r + l
  · exact .inr ⟨7 * (r' + l') + (phL (tLine t k (prv t.n k)).1 (tz t.n x r' l') + phR (tLine t k (prv t.n k)).1 (tz t.n x r' l')), by omega, _, r', l', c', by rw [hn]; exact Nat.le_refl _, rfl⟩
  obtain rfl : r' = r := by omega
  obtain rfl : l' = l := by omega
  rcases top.line h hk h2 with ⟨e1, e2⟩ | ⟨e1, e2, e3⟩
  · have e2' := e2
    rw [← e1] at e2'
    rcases hz rfl rfl e1 with e | e
    · exact absurd e2' e
    · exact absurd ⟨e, by rw [← e]; exact e2'⟩ hkx
  · by_cases hs : phL (tLine t k (prv t.n k)).1 (tz t.n x r' l') + phR (tLine t k (prv t.n k)).1 (tz t.n x r' l') < phL t (tz t.n x r' l') + phR t (tz t.n x r' l')
    · exact .inr ⟨7 * (r' + l') + (phL (tLine t k (prv t.n k)).1 (tz t.n x r' l') + phR (tLine t k (prv t.n k)).1 (tz t.n x r' l')), by omega, _, r', l', c', by rw [hn]; exact Nat.le_refl _, rfl⟩
    · refine .inl ⟨fun he => hs (e3 he), r', l', c', by rw [hn]; omega, ?_⟩
      unfold tKey
      rw [hn, show phL (tLine t k (prv t.n k)).1 (tz t.n x r' l') = phL t (tz t.n x r' l') by omega, show phR (tLine t k (prv t.n k)).1 (tz t.n x r' l') = phR t (tz t.n x r' l') by omega]
theorem hit_all {n k0 : Nat} (n3 : 3 ≤ n) (n6 : n ≤ 6) (hk0 : k0 < n) : ∀ q, q < n → (∃ j, j ≤ 5 ∧ itN (nxt n) j k0 = q) ∧ ∃ j, j ≤ 5 ∧ itN (prv n) j k0 = q := by
  intro q hq
  have key : ∀ f, (f = nxt n ∨ f = prv n) → q = k0 ∨ q = f k0 ∨ q = f (f k0) ∨ q = f (f (f k0)) ∨ q = f (f (f (f k0))) ∨ q = f (f (f (f (f k0)))) := by
    intro f hf
    obtain rfl | rfl | rfl | rfl : n = 3 ∨ n = 4 ∨ n = 5 ∨ n = 6 := by omega
    all_goals
      rcases hf with rfl | rfl
      · unfold nxt; omega
      · unfold prv; omega
  refine ⟨?_, ?_⟩
  · rcases key _ (.inl rfl) with e | e | e | e | e | e
    · exact ⟨0, by omega, e.symm⟩
    · exact ⟨1, by omega, e.symm⟩
    · exact ⟨2, by omega, e.symm⟩
    · exact ⟨3, by omega, e.symm⟩
    · exact ⟨4, by omega, e.symm⟩
    · exact ⟨5, by omega, e.symm⟩
  · rcases key _ (.inr rfl) with e | e | e | e | e | e
    · exact ⟨0, by omega, e.symm⟩
    · exact ⟨1, by omega, e.symm⟩
    · exact ⟨2, by omega, e.symm⟩
    · exact ⟨3, by omega, e.symm⟩
    · exact ⟨4, by omega, e.symm⟩
    · exact ⟨5, by omega, e.symm⟩
theorem WPot.start {t : TS} (h : TI t) {x : Nat} (hx : x < t.n) : WPot t x 75 := by
  obtain ⟨q1, hq1, p1⟩ := h.p1
  obtain ⟨q2, hq2, p2⟩ := h.p2
  obtain ⟨j1, hj1, e1⟩ := (hit_all h.n3 h.n6 hx q1 hq1).1
  obtain ⟨j2, hj2, e2⟩ := (hit_all h.n3 h.n6 hx (nxt t.n q2) (nxt_lt h.n3)).2
  obtain ⟨r, a1, a2, a3⟩ := least (P := fun j => stR t (itN (nxt t.n) j x)) j1 (by rw [e1]; exact .inl p1)
  obtain ⟨l, b1, b2, b3⟩ := least (P := fun j => stL t (itN (prv t.n) j x)) j2 (by rw [e2]; refine .inl ?_; rw [(ring_facts h.n3 h.n6 hq2).2.1]; exact p2)
  have := ph_b t (tz t.n x r l)
  exact ⟨_, r, l, ⟨a2, a3, b2, b3⟩, by omega, rfl⟩
theorem WKey.lt {t : TS} {x M b : Nat} (w : WKey t x M b) (h : TI t) (hx : x < t.n) (hg : t.g x ≠ 0) : b < t.n := by
  obtain ⟨r, l, c, hM, rfl⟩ := w
  have := (c.top h hx hg).lt
  unfold tKey
  repeat' split
  · exact this
  · exact prv_lt h.n3
  · exact nxt_lt h.n3
  · exact this
/-- who rests and hungers at once changes nothing here -/
def tNorm (t : TS) (k : Nat) : TS := if t.g k = 2 then { t with g := updN t.g k 1 } else t
theorem tNorm_w (t : TS) (k : Nat) : (tNorm t k).w = t.w ∧ (tNorm t k).a = t.a ∧ (tNorm t k).d = t.d ∧ (tNorm t k).n = t.n := by
  unfold tNorm; split <;> exact ⟨rfl, rfl, rfl, rfl⟩
theorem tNorm_g (t : TS) (k j : Nat) : ((tNorm t k).g j = 0 ↔ t.g j = 0) ∧ (t.g j = 1 → (tNorm t k).g j = 1) := by
  unfold tNorm
  split
  · rename_i h
    dsimp only
    rcases updN_cases (f := t.g) (q := k) (v := 1) j with ⟨rfl, e⟩ | ⟨_, e⟩ <;> rw [e]
    · exact ⟨by omega, fun _ => rfl⟩
    · exact ⟨Iff.rfl, id⟩
  · exact ⟨Iff.rfl, id⟩
theorem tNorm_k (t : TS) (k : Nat) : (tNorm t k).g k ≠ 2 := by
  unfold tNorm
  split
  · dsimp only; rw [updN_same]; omega
  · assumption
theorem WKey.norm {t : TS} {x M b : Nat} (w : WKey t x M b) (k : Nat) : WKey (tNorm t k) x M b := by
  obtain ⟨r, l, c, hM, hb⟩ := w
  obtain ⟨ew, ea, ed, en⟩ := tNorm_w t k
  have pr : ∀ f, tPr (tNorm t k) f ↔ tPr t f := fun f => by unfold tPr; rw [ew, ed]
  have eR : ∀ z, stR (tNorm t k) z ↔ stR t z := fun z => by unfold stR; rw [pr, en, (tNorm_g t k _).1]
  have eL : ∀ z, stL (tNorm t k) z ↔ stL t z := fun z => by unfold stL; rw [pr, en, (tNorm_g t k _).1]
  have pL : ∀ z, phL (tNorm t k) z = phL t z := fun z => by unfold phL; rw [ew, ea, ed, en]
  have pR : ∀ z, phR (tNorm t k) z = phR t z := fun z => by unfold phR; rw [ew, ea]
  refine ⟨r, l, ⟨by rw [en, eR]; exact c.sr, fun j hj => by rw [en, eR]; exact c.mr j hj, by rw [en, eL]; exact c.sl, fun j hj => by rw [en, eL]; exact c.ml j hj⟩, by rw [en, pL, pR]; exact hM, ?_⟩
  rw [hb]; unfold tKey; rw [en, pL, pR]
theorem TI.norm {t : TS} (h : TI t) {k : Nat} (hk : k < t.n) : TI (tNorm t k) := by
  unfold tNorm
  split
  · rename_i h2
    have h1 := (h.rest (k : Int)).hunger (k : Int)
    have e : (tHunger (tRest t (k : Int)).1 (k : Int)).1 = { t with g := updN t.g k 1 } := by
      rw [tRest, if_neg (by omega), if_neg (by rw [Int.toNat_natCast]; exact not_not_intro h2)]
      rw [tHunger, if_neg (by dsimp only; omega), if_neg (by dsimp only; rw [Int.toNat_natCast, updN_same]; simp)]
      dsimp only
      rw [Int.toNat_natCast]
      congr 1
      funext j
      by_cases hj : j = k
      · subst hj; rw [updN_same, updN_same]
      · rw [updN_ne hj, updN_ne hj, updN_ne hj]
    rw [e] at h1
    exact h1
  · exact h
end Go.Proofs.Ytiaopgnnibidlaa
