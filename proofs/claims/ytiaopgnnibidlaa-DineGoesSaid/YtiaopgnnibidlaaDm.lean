import Derived.Test.YtiaopgnnibidlaaDl
namespace Go.Proofs.Ytiaopgnnibidlaa
open Go.Eng
set_option maxRecDepth 20000
theorem setF_cases (t : TS) (f w' a' : Nat) (d' : Bool) (k : Nat) : (k = f ∧ (t.setF f w' a' d').w k = w' ∧ (t.setF f w' a' d').a k = a' ∧ (t.setF f w' a' d').d k = d') ∨ (k ≠ f ∧ (t.setF f w' a' d').w k = t.w k ∧ (t.setF f w' a' d').a k = t.a k ∧ (t.setF f w' a' d').d k = t.d k) := by
  by_cases h : k = f
  · subst h; exact .inl ⟨rfl, updN_same _ _ _, updN_same _ _ _, updN_same _ _ _⟩
  · exact .inr ⟨h, updN_ne h, updN_ne h, updN_ne h⟩
/-- one fork is changed, and nothing else -/
theorem TI.fork {t : TS} (h : TI t) {f w' a' : Nat} {d' : Bool} (hf : f < t.n) (hw : w' = f ∨ w' = nxt t.n f) (ha : a' = f ∨ a' = nxt t.n f)
    (he : (t.g f = 2 → w' = f ∧ d' = true) ∧ (t.g (nxt t.n f) = 2 → w' = nxt t.n f ∧ d' = true)) (hc : d' = false → t.g w' = 1) (hh : w' = a' → (w' = f → t.g (nxt t.n f) = 1) ∧ (w' = nxt t.n f → t.g f = 1))
    (hp : tPr (t.setF f w' a' d') f ↔ tPr t f) : TI (t.setF f w' a' d') := by
  have R := fun i (hi : i < t.n) => ring_facts (i := i) h.n3 h.n6 hi
  have hpr : ∀ k, tPr (t.setF f w' a' d') k ↔ tPr t k := fun k => by
    rcases setF_cases t f w' a' d' k with ⟨rfl, _⟩ | ⟨_, e1, e2, e3⟩
    · exact hp
    · unfold tPr; rw [e1, e3]
  have hpl := fun k => prv_lt (n := t.n) (i := k) h.n3
  refine ⟨h.n3, h.n6, h.g, fun k hk => ?_, fun k hk => ?_, fun k hk hg => ?_, fun k hk hd => ?_, fun k hk hwa => ?_, ?_, ?_⟩
  · rcases setF_cases t f w' a' d' k with ⟨rfl, e1, e2, e3⟩ | ⟨_, e1, e2, e3⟩ <;> rw [e1]
    · exact hw
    · exact h.w k hk
  · rcases setF_cases t f w' a' d' k with ⟨rfl, e1, e2, e3⟩ | ⟨_, e1, e2, e3⟩ <;> rw [e2]
    · exact ha
    · exact h.a k hk
  · have hg : t.g k = 2 := hg
    obtain ⟨x1, x2, x3, x4⟩ := h.e k hk hg
    show (t.setF f w' a' d').w k = k ∧ (t.setF f w' a' d').d k = true ∧ (t.setF f w' a' d').w (prv t.n k) = k ∧ (t.setF f w' a' d').d (prv t.n k) = true
    refine ⟨?_, ?_, ?_, ?_⟩
    · rcases setF_cases t f w' a' d' k with ⟨rfl, e1, e2, e3⟩ | ⟨_, e1, e2, e3⟩ <;> rw [e1]
      · exact (he.1 hg).1
      · exact x1
    · rcases setF_cases t f w' a' d' k with ⟨rfl, e1, e2, e3⟩ | ⟨_, e1, e2, e3⟩ <;> rw [e3]
      · exact (he.1 hg).2
      · exact x2
    · rcases setF_cases t f w' a' d' (prv t.n k) with ⟨e, e1, e2, e3⟩ | ⟨_, e1, e2, e3⟩ <;> rw [e1]
      · have := (R k hk).1; rw [e] at this
        rw [← this]; rw [← this] at hg; exact (he.2 hg).1
      · exact x3
    · rcases setF_cases t f w' a' d' (prv t.n k) with ⟨e, e1, e2, e3⟩ | ⟨_, e1, e2, e3⟩ <;> rw [e3]
      · have := (R k hk).1; rw [e] at this
        rw [← this] at hg; exact (he.2 hg).2
      · exact x4
  · show t.g ((t.setF f w' a' d').w k) = 1
    rcases setF_cases t f w' a' d' k with ⟨rfl, e1, e2, e3⟩ | ⟨_, e1, e2, e3⟩ <;> rw [e3] at hd <;> rw [e1]
    · exact hc hd
    · exact h.c k hk hd
  · show ((t.setF f w' a' d').w k = k → t.g (nxt t.n k) = 1) ∧ ((t.setF f w' a' d').w k = nxt t.n k → t.g k = 1)
    rcases setF_cases t f w' a' d' k with ⟨rfl, e1, e2, e3⟩ | ⟨_, e1, e2, e3⟩ <;> rw [e1, e2] at hwa <;> rw [e1]
    · exact hh hwa
    · exact h.h k hk hwa
  · obtain ⟨k, hk, hx⟩ := h.p1; exact ⟨k, hk, (hpr k).2 hx⟩
  · obtain ⟨k, hk, hx⟩ := h.p2; exact ⟨k, hk, fun hc => hx ((hpr k).1 hc)⟩
theorem tPr_self (t : TS) (f w' a' : Nat) (d' : Bool) : tPr (t.setF f w' a' d') f ↔ ((d' = false ∧ w' = f) ∨ (d' = true ∧ w' ≠ f)) := by
  unfold tPr TS.setF
  simp only [updN_same]
theorem TI.eats {t : TS} (h : TI t) {i : Nat} (hi : i < t.n) (h1 : t.g i = 1) (wl : t.w (prv t.n i) = i) (wi : t.w i = i) : TI (tEat t i (prv t.n i)) := by
  have R := fun i (hi : i < t.n) => ring_facts (i := i) h.n3 h.n6 hi
  obtain ⟨r1, r2, r3, r4, r5⟩ := R i hi
  have hpl := fun k => prv_lt (n := t.n) (i := k) h.n3
  have ew : (tEat t i (prv t.n i)).w = t.w := by simp [tEat, TS.setF, updN_self]
  have ea : (tEat t i (prv t.n i)).a = t.a := by simp [tEat, TS.setF, updN_self]
  have ed : ∀ k, (tEat t i (prv t.n i)).d k = if k = i ∨ k = prv t.n i then true else t.d k := fun k => by
    simp only [tEat, TS.setF]
    by_cases e1 : k = i
    · subst e1; rw [updN_same, if_pos (.inl rfl)]
    · rw [updN_ne e1]
      by_cases e2 : k = prv t.n i
      · rw [e2, updN_same, if_pos (.inr rfl)]
      · rw [updN_ne e2, if_neg (by omega)]
  have eg : (tEat t i (prv t.n i)).g = updN t.g i 2 := rfl
  have en : (tEat t i (prv t.n i)).n = t.n := rfl
  have ne : ∀ j, j ≠ i → t.g j = 1 → updN t.g i 2 j = 1 := fun j hj h => by rw [updN_ne hj]; exact h
  refine ⟨h.n3, h.n6, fun k hk => ?_, by rw [ew]; exact h.w, by rw [ea]; exact h.a, fun k hk hg => ?_, fun k hk hd => ?_, fun k hk hwa => ?_, ⟨prv t.n i, hpl i, .inr ⟨?_, ?_⟩⟩, ⟨i, hi, ?_⟩⟩
  · rw [eg]
    rcases updN_cases (f := t.g) (q := i) (v := 2) k with ⟨rfl, e⟩ | ⟨_, e⟩ <;> rw [e]
    · simp
    · exact h.g k hk
  · rw [eg] at hg
    rw [ew, ed, ed, en]
    rcases updN_cases (f := t.g) (q := i) (v := 2) k with ⟨rfl, e⟩ | ⟨_, e⟩ <;> rw [e] at hg
    · exact ⟨wi, by simp, wl, by simp⟩
    · obtain ⟨x1, x2, x3, x4⟩ := h.e k hk hg
      rw [x2, x4]
      exact ⟨x1, by simp, x3, by simp⟩
  · rw [ed] at hd
    rw [ew, eg]
    have hk' : k < t.n := hk
    split at hd
    · cases hd
    · rename_i hne
      refine ne _ (fun hc => ?_) (h.c k hk hd)
      rcases h.w k hk with e | e
      · omega
      · have := (R k hk').2.1
        rw [← e, hc] at this
        omega
  · rw [ew, ea] at hwa
    rw [ew, eg, en]
    have hk' : k < t.n := hk
    obtain ⟨y1, y2⟩ := h.h k hk hwa
    refine ⟨fun hx => ne _ (fun hc => ?_) (y1 hx), fun hx => ne _ (fun hc => ?_) (y2 hx)⟩
    · have := (R k hk').2.1
      rw [hc] at this
      rw [← this] at hx
      omega
    · subst hc; omega
  · rw [ed]; simp
  · rw [ew, wl]; omega
  · unfold tPr
    rw [ed, ew, wi]; simp
theorem TI.line {t : TS} (h : TI t) {i : Nat} (hi : i < t.n) : TI (tLine t i (prv t.n i)).1 := by
  have R := fun i (hi : i < t.n) => ring_facts (i := i) h.n3 h.n6 hi
  obtain ⟨r1, r2, r3, r4, r5⟩ := R i hi
  have hln := prv_lt (n := t.n) (i := i) h.n3
  have ri := h.g i hi
  unfold tLine
  split
  · exact h
  rename_i h2
  split
  · rename_i hg
    obtain ⟨w1, d1, a1⟩ := hg
    have hgl := (h.h _ hln (by omega)).2 (by omega)
    refine h.fork hln (.inl rfl) (h.a _ hln) ⟨fun hc => by omega, fun hc => by rw [r1] at hc; omega⟩ (fun _ => hgl) (fun hc => by omega) ?_
    rw [tPr_self]
    unfold tPr
    rw [d1, w1]
    simp; omega
  split
  · rename_i hg
    obtain ⟨w1, d1, a1⟩ := hg
    have hgl := (h.h i hi (by omega)).1 w1
    refine h.fork hi (.inr rfl) (h.a _ hi) ⟨fun hc => by omega, fun hc => by omega⟩ (fun _ => hgl) (fun hc => by omega) ?_
    rw [tPr_self]
    unfold tPr
    rw [d1, w1]
    simp; omega
  split
  · exact h
  split
  · rename_i h0 hb
    exact h.eats hi (by omega) hb.1 hb.2
  rename_i h0 hb
  split
  · rename_i hg
    obtain ⟨w1, a1⟩ := hg
    have hwl : t.w (prv t.n i) = prv t.n i := by
      rcases h.w _ hln with e | e
      · exact e
      · rw [r1] at e; exact absurd e w1
    refine h.fork hln (h.w _ hln) (.inl rfl) ⟨fun hc => ?_, fun hc => by rw [r1] at hc; omega⟩ (fun hd => h.c _ hln hd) (fun _ => ⟨fun _ => by rw [r1]; omega, fun hc => by rw [r1] at hc; omega⟩) ?_
    · obtain ⟨x1, x2, _, _⟩ := h.e _ hln hc
      exact ⟨x1, x2⟩
    · rw [tPr_self]; exact Iff.rfl
  split
  · rename_i hg
    obtain ⟨w1, a1⟩ := hg
    have hwl : t.w i = nxt t.n i := by
      rcases h.w _ hi with e | e
      · exact absurd e w1
      · exact e
    have hnl : nxt t.n i < t.n := nxt_lt h.n3
    refine h.fork hi (h.w _ hi) (.inr rfl) ⟨fun hc => by omega, fun hc => ?_⟩ (fun hd => h.c _ hi hd) (fun _ => ⟨fun hc => by omega, fun _ => by omega⟩) ?_
    · obtain ⟨_, _, x1, x2⟩ := h.e _ hnl hc
      rw [r2] at x1 x2
      exact ⟨x1, x2⟩
    · rw [tPr_self]; exact Iff.rfl
  · exact h
theorem TI.step {t : TS} (h : TI t) (q : Int) : TI (tStep t q).1 := by
  unfold tStep
  split
  · exact h
  · rename_i hq
    exact h.line (by omega)
theorem tRest_n (t : TS) (q : Int) : (tRest t q).1.n = t.n := by unfold tRest; split <;> (try split) <;> rfl
theorem tHunger_n (t : TS) (q : Int) : (tHunger t q).1.n = t.n := by unfold tHunger; split <;> (try split) <;> rfl
theorem tLine_n (t : TS) (i l : Nat) : (tLine t i l).1.n = t.n := by
  unfold tLine
  repeat' split
  all_goals rfl
theorem tStep_n (t : TS) (q : Int) : (tStep t q).1.n = t.n := by
  unfold tStep; split
  · rfl
  · exact tLine_n _ _ _
theorem TI.hap {t : TS} (h : TI t) (xs : List Int) : TI (tHap t xs) := by
  unfold tHap
  repeat' split
  · exact h.step _
  · exact h.hunger _
  · exact h.rest _
  · exact h
theorem tHap_n (t : TS) (xs : List Int) : (tHap t xs).n = t.n := by
  unfold tHap
  repeat' split
  · exact tStep_n _ _
  · exact tHunger_n _ _
  · exact tRest_n _ _
  · rfl
theorem TI.haps {t : TS} (h : TI t) (rows : List (SV × List Int)) : TI (tHaps t rows) ∧ (tHaps t rows).n = t.n := by
  unfold tHaps
  generalize (rows.map (·.2)).take 150 = l
  induction l generalizing t with
  | nil => exact ⟨h, rfl⟩
  | cons x l ih =>
    have := ih (h.hap x)
    rw [tHap_n] at this
    exact this
/-- where nobody eats, and someone hungers, one can do a thing -/
theorem TI.goes {t : TS} (h : TI t) (h2 : ∀ k, k < t.n → t.g k ≠ 2) (h1 : ∃ k, k < t.n ∧ t.g k = 1) : ∃ k, k < t.n ∧ (tLine t k (prv t.n k)).2 = true := by
  have R := fun i (hi : i < t.n) => ring_facts (i := i) h.n3 h.n6 hi
  apply Classical.byContradiction
  intro hno
  have no : ∀ k, k < t.n → ¬ tGiv t k (prv t.n k) ∧ ¬ tGiv t k k ∧ (t.g k = 1 → ¬ (t.w (prv t.n k) = k ∧ t.w k = k) ∧ ¬ tAsk t k (prv t.n k) ∧ ¬ tAsk t k k) := fun k hk => by
    have hf : (tLine t k (prv t.n k)).2 = false := by
      cases hb : (tLine t k (prv t.n k)).2
      · rfl
      · exact absurd ⟨k, hk, hb⟩ hno
    unfold tLine at hf
    rw [if_neg (h2 k hk)] at hf
    split at hf
    · cases hf
    split at hf
    · cases hf
    rename_i a1 a2
    refine ⟨a1, a2, fun hg => ?_⟩
    rw [if_neg (by omega)] at hf
    split at hf
    · cases hf
    split at hf
    · cases hf
    split at hf
    · cases hf
    rename_i a3 a4 a5
    exact ⟨a3, a4, a5⟩
  -- who lacks his right fork: the next one has it, clean, hungers, and lacks his own right one
  have right : ∀ k, k < t.n → t.g k = 1 → t.w k ≠ k → t.g (nxt t.n k) = 1 ∧ t.w k = nxt t.n k ∧ t.d k = false := fun k hk hg hw => by
    have hnl : nxt t.n k < t.n := nxt_lt h.n3
    have e : t.w k = nxt t.n k := by rcases h.w k hk with e | e; exact absurd e hw; exact e
    have ea : t.a k = nxt t.n k := by
      rcases h.a k hk with e' | e'
      · exact absurd ⟨hw, e'⟩ ((no k hk).2.2 hg).2.2
      · exact e'
    have nd : t.d k = false := by
      cases hd : t.d k
      · rfl
      · have := (no _ hnl).1
        rw [(R k hk).2.1] at this
        exact absurd ⟨e, hd, ea⟩ this
    have := h.c k hk nd
    rw [e] at this
    exact ⟨this, e, nd⟩
  have left : ∀ k, k < t.n → t.g k = 1 → t.w (prv t.n k) ≠ k → t.g (prv t.n k) = 1 ∧ t.w (prv t.n k) = prv t.n k ∧ t.d (prv t.n k) = false := fun k hk hg hw => by
    have hpl : prv t.n k < t.n := prv_lt h.n3
    have rr := (R k hk).1
    have e : t.w (prv t.n k) = prv t.n k := by rcases h.w _ hpl with e | e; exact e; rw [rr] at e; exact absurd e hw
    have ea : t.a (prv t.n k) = prv t.n k := by
      rcases h.a _ hpl with e' | e'
      · exact e'
      · rw [rr] at e'; exact absurd ⟨hw, e'⟩ ((no k hk).2.2 hg).2.1
    have nd : t.d (prv t.n k) = false := by
      cases hd : t.d (prv t.n k)
      · rfl
      · exact absurd ⟨e, hd, ea⟩ (no _ hpl).2.1
    have := h.c _ hpl nd
    rw [e] at this
    exact ⟨this, e, nd⟩
  have r' : ∀ k, k < t.n → t.g k = 1 → t.w k ≠ k → t.w (nxt t.n k) ≠ nxt t.n k := fun k hk hg hw hc => by
    obtain ⟨g1, e, d⟩ := right k hk hg hw
    have hnl : nxt t.n k < t.n := nxt_lt h.n3
    refine ((no _ hnl).2.2 g1).1 ⟨?_, hc⟩
    rw [(R k hk).2.1]; exact e
  have l' : ∀ k, k < t.n → t.g k = 1 → t.w (prv t.n k) ≠ k → t.w (prv t.n (prv t.n k)) ≠ prv t.n k := fun k hk hg hw hc => by
    obtain ⟨g1, e, d⟩ := left k hk hg hw
    exact ((no _ (prv_lt h.n3)).2.2 g1).1 ⟨hc, e⟩
  obtain ⟨k0, hk0, g0⟩ := h1
  obtain ⟨q1, hq1, p1⟩ := h.p1
  obtain ⟨q2, hq2, p2⟩ := h.p2
  have hit : ∀ (f : Nat → Nat), (f = nxt t.n ∨ f = prv t.n) → ∀ q, q < t.n → q = k0 ∨ q = f k0 ∨ q = f (f k0) ∨ q = f (f (f k0)) ∨ q = f (f (f (f k0))) ∨ q = f (f (f (f (f k0)))) := by
    intro f hf q hq
    have n3 := h.n3; have n6 := h.n6
    generalize t.n = n at *
    obtain rfl | rfl | rfl | rfl : n = 3 ∨ n = 4 ∨ n = 5 ∨ n = 6 := by omega
    all_goals
      rcases hf with rfl | rfl
      · unfold nxt; omega
      · unfold prv; omega
  by_cases hw : t.w k0 = k0
  · -- all to the left
    have hw2 : t.w (prv t.n k0) ≠ k0 := fun hc => ((no k0 hk0).2.2 g0).1 ⟨hc, hw⟩
    have P : ∀ k, k < t.n → t.g k = 1 ∧ t.w (prv t.n k) ≠ k → (t.g (prv t.n k) = 1 ∧ t.w (prv t.n (prv t.n k)) ≠ prv t.n k) ∧ tPr t (prv t.n k) := fun k hk ⟨a, b⟩ => by
      obtain ⟨g1, e, d⟩ := left k hk a b
      exact ⟨⟨g1, l' k hk a b⟩, .inl ⟨d, e⟩⟩
    have hp := fun k => prv_lt (n := t.n) (i := k) h.n3
    obtain ⟨s1, t1⟩ := P k0 hk0 ⟨g0, hw2⟩
    obtain ⟨s2, t2⟩ := P _ (hp _) s1
    obtain ⟨s3, t3⟩ := P _ (hp _) s2
    obtain ⟨s4, t4⟩ := P _ (hp _) s3
    obtain ⟨s5, t5⟩ := P _ (hp _) s4
    obtain ⟨s6, t6⟩ := P _ (hp _) s5
    have hq2' := hit (prv t.n) (.inr rfl) (nxt t.n q2) (nxt_lt h.n3)
    have back : ∀ k, nxt t.n q2 = k → q2 = prv t.n k := fun k hk => by rw [← hk, (R q2 hq2).2.1]
    rcases hq2' with e | e | e | e | e | e <;> have e' := back _ e <;> rw [e'] at p2
    · exact p2 t1
    · exact p2 t2
    · exact p2 t3
    · exact p2 t4
    · exact p2 t5
    · exact p2 t6
  · have P : ∀ k, k < t.n → t.g k = 1 ∧ t.w k ≠ k → (t.g (nxt t.n k) = 1 ∧ t.w (nxt t.n k) ≠ nxt t.n k) ∧ ¬ tPr t k := fun k hk ⟨a, b⟩ => by
      obtain ⟨g1, e, d⟩ := right k hk a b
      refine ⟨⟨g1, r' k hk a b⟩, fun hc => ?_⟩
      rcases hc with ⟨_, hc⟩ | ⟨hc, _⟩
      · exact b hc
      · rw [d] at hc; cases hc
    have hp := fun k => nxt_lt (n := t.n) (i := k) h.n3
    obtain ⟨s1, t1⟩ := P k0 hk0 ⟨g0, hw⟩
    obtain ⟨s2, t2⟩ := P _ (hp _) s1
    obtain ⟨s3, t3⟩ := P _ (hp _) s2
    obtain ⟨s4, t4⟩ := P _ (hp _) s3
    obtain ⟨s5, t5⟩ := P _ (hp _) s4
    obtain ⟨s6, t6⟩ := P _ (hp _) s5
    rcases hit (nxt t.n) (.inl rfl) q1 hq1 with e | e | e | e | e | e <;> rw [e] at p1
    · exact t1 p1
    · exact t2 p1
    · exact t3 p1
    · exact t4 p1
    · exact t5 p1
    · exact t6 p1
end Go.Proofs.Ytiaopgnnibidlaa
