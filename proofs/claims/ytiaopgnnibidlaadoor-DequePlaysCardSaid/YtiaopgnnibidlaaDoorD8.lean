import Derived.Test.YtiaopgnnibidlaaDoorDx
namespace Go.Proofs.YtiaopgnnibidlaaDoor
open Go.Eng
set_option maxRecDepth 20000
/-! ### each once: the plain law -/
def Th (T : Int) (In : List Int) (a v t : Int) : Prop :=
  a = 0 ∨ a = 9 ∨ ((a = 10 ∨ a = 11 ∨ a = 12) ∧ 0 ≤ t ∧ t ≤ T ∧ (a ≠ 10 → t = T → In ≠ []) ∧ (a = 12 → t = T → v = gI In 0))
def H0 (f : Nat → Int) (In hold : List Int) (pushed next : Int) (ps : Bool) (a v t b : Int) : Prop :=
  (a = 0 ∧ f 9 = f 8 + In.length ∧ next = pushed ∧ hold = []) ∨
  ((a = 1 ∨ a = 2 ∨ a = 3) ∧ f 9 = f 8 + In.length ∧ next = pushed + 1 ∧ v = pushed ∧ hold = [] ∧ ps = true ∧ (a ≠ 1 → In.length < 8) ∧ (a = 3 → f ((f 9).toNat % 8) = v)) ∨
  (a = 4 ∧ f 9 = f 8 + In.length ∧ next = pushed ∧ hold = [] ∧ ps = false) ∨
  (a = 5 ∧ f 9 = f 8 + In.length - 1 ∧ b = f 9 ∧ next = pushed ∧ hold = [] ∧ ps = false) ∨
  (a = 6 ∧ In = [] ∧ f 9 = f 8 - 1 ∧ t = f 8 ∧ next = pushed ∧ hold = [] ∧ ps = false) ∨
  (a = 7 ∧ 0 ≤ t ∧ t = f 9 ∧ b = f 9 ∧ ((f 8 = f 9 ∧ In.length = 1) ∨ (f 8 = f 9 + 1 ∧ In = [])) ∧ next = pushed ∧ hold = [] ∧ ps = false) ∨
  (a = 8 ∧ f 8 = t + 1 ∧ In = [] ∧ f 9 = t ∧ ((v = -1 ∧ hold = []) ∨ (0 ≤ v ∧ hold = [v])) ∧ next = pushed ∧ ps = false)
structure Dq (f : Nat → Int) (In hold pops stls : List Int) (pushed : Int) : Prop where
  t : 0 ≤ f 8
  v : ∀ j, j < In.length → f ((f 8 + j).toNat % 8) = gI In j
  l : In.length ≤ 8
  so : In.Pairwise (· < ·)
  cnt : ∀ x, pops.count x + stls.count x + In.count x + hold.count x = if 0 ≤ x ∧ x < pushed then 1 else 0
  len : (pops.length : Int) + stls.length + In.length + hold.length = pushed
  ss : stls.Pairwise (· < ·)
  si : ∀ x, x ∈ stls → ∀ y, y ∈ In → x < y
theorem Dq.f9 {f f' : Nat → Int} {In hold pops stls : List Int} {pushed : Int} (D : Dq f In hold pops stls pushed) (h : ∀ k, k ≠ 9 → f' k = f k) : Dq f' In hold pops stls pushed := by
  obtain ⟨t, v, l, so, cnt, len, ss, si⟩ := D
  have h8 := h 8 (by omega)
  refine ⟨by omega, fun j hj => ?_, l, so, cnt, len, ss, si⟩
  rw [h8, h _ (by omega), v j hj]
theorem count_in {l : List Int} {x : Int} (h : x ∈ l) : 1 ≤ l.count x := List.count_pos_iff.2 h
theorem Dq.rng {f : Nat → Int} {In hold pops stls : List Int} {pushed x : Int} (D : Dq f In hold pops stls pushed) (h : x ∈ pops ∨ x ∈ stls ∨ x ∈ In ∨ x ∈ hold) : 0 ≤ x ∧ x < pushed := by
  have c := D.cnt x
  by_cases hx : 0 ≤ x ∧ x < pushed
  · exact hx
  · rw [if_neg hx] at c
    rcases h with h | h | h | h <;> (have := count_in h; omega)
theorem Dq.push {f : Nat → Int} {In pops stls : List Int} {pushed : Int} (D : Dq f In [] pops stls pushed) (hl : In.length < 8) (hv : f ((f 8 + In.length).toNat % 8) = pushed) : Dq f (In ++ [pushed]) [] pops stls (pushed + 1) := by
  have r1 : ∀ x, x ∈ In → x < pushed := fun x hx => (D.rng (.inr (.inr (.inl hx)))).2
  have r2 : ∀ x, x ∈ stls → x < pushed := fun x hx => (D.rng (.inr (.inl hx))).2
  obtain ⟨t, v, l, so, cnt, len, ss, si⟩ := D
  refine ⟨t, fun j hj => ?_, by simp; omega, ?_, fun x => ?_, by simp at len ⊢; omega, ss, fun x hx y hy => ?_⟩
  · rw [List.length_append, List.length_singleton] at hj
    by_cases e : j = In.length
    · rw [e, gI_app_one, hv]
    · rw [gI_app_l (by omega), v j (by omega)]
  · rw [List.pairwise_append]
    exact ⟨so, List.pairwise_singleton _ _, fun a ha b hb => by rw [List.mem_singleton] at hb; rw [hb]; exact r1 a ha⟩
  · have c := cnt x
    have p0 : 0 ≤ pushed := by simp only [List.length_nil] at len; omega
    rw [List.count_append, List.count_singleton]
    by_cases e : x = pushed
    · subst e
      simp only [beq_self_eq_true, if_true]
      rw [if_neg (by omega)] at c
      rw [if_pos (by omega)]
      omega
    · rw [show (pushed == x) = false by simp; exact fun h => e h.symm]
      simp only [Bool.false_eq_true, if_false]
      by_cases h2 : 0 ≤ x ∧ x < pushed
      · rw [if_pos h2] at c; rw [if_pos (by omega)]; omega
      · rw [if_neg h2] at c; rw [if_neg (by omega)]; omega
  · rw [List.mem_append, List.mem_singleton] at hy
    rcases hy with hy | rfl
    · exact si x hx y hy
    · exact r2 x hx
theorem Dq.pop {f : Nat → Int} {In pops stls : List Int} {pushed x : Int} (D : Dq f (In ++ [x]) [] pops stls pushed) : Dq f In [] (pops ++ [x]) stls pushed := by
  obtain ⟨t, v, l, so, cnt, len, ss, si⟩ := D
  rw [List.length_append, List.length_singleton] at l
  rw [List.pairwise_append] at so
  refine ⟨t, fun j hj => ?_, by omega, so.1, fun y => ?_, by simp at len ⊢; omega, ss, fun a ha b hb => si a ha b (by simp [hb])⟩
  · rw [v j (by simp; omega), gI_app_l hj]
  · have c := cnt y
    rw [List.count_append] at c ⊢
    omega
theorem gI_cons_s {x : Int} {l : List Int} {j : Nat} : gI (x :: l) (j + 1) = gI l j := by unfold gI; simp
theorem gI_cons_z {x : Int} {l : List Int} : gI (x :: l) 0 = x := by unfold gI; simp
theorem Dq.steal {f f' : Nat → Int} {In hold pops stls : List Int} {pushed x : Int} (D : Dq f (x :: In) hold pops stls pushed) (h8 : f' 8 = f 8 + 1) (hk : ∀ k, k < 8 → f' k = f k) : Dq f' In hold pops (stls ++ [x]) pushed := by
  obtain ⟨t, v, l, so, cnt, len, ss, si⟩ := D
  rw [List.length_cons] at l
  rw [List.pairwise_cons] at so
  refine ⟨by omega, fun j hj => ?_, by omega, so.2, fun y => ?_, by simp at len ⊢; omega, ?_, fun a ha b hb => ?_⟩
  · rw [hk _ (by omega), h8, ← gI_cons_s (x := x), ← v (j + 1) (by simp; omega)]
    congr 3; omega
  · have c := cnt y
    rw [List.count_cons] at c
    rw [List.count_append, List.count_singleton]
    omega
  · rw [List.pairwise_append]
    exact ⟨ss, List.pairwise_singleton _ _, fun a ha b hb => by rw [List.mem_singleton] at hb; rw [hb]; exact si a ha x (by simp)⟩
  · rw [List.mem_append, List.mem_singleton] at ha
    rcases ha with ha | rfl
    · exact si a ha b (by simp [hb])
    · exact so.1 b hb
theorem Dq.cas {f f' : Nat → Int} {pops stls : List Int} {pushed x : Int} (D : Dq f [x] [] pops stls pushed) (h8 : f' 8 = f 8 + 1) : Dq f' [] [x] pops stls pushed := by
  obtain ⟨t, v, l, so, cnt, len, ss, si⟩ := D
  refine ⟨by omega, fun j hj => by simp at hj, by simp, .nil, fun y => ?_, by simp at len ⊢; omega, ss, fun a _ b hb => by simp at hb⟩
  have c := cnt y
  simp only [List.count_nil] at c ⊢
  omega
theorem Dq.give {f : Nat → Int} {pops stls : List Int} {pushed x : Int} (D : Dq f [] [x] pops stls pushed) : Dq f [] [] (pops ++ [x]) stls pushed := by
  obtain ⟨t, v, l, so, cnt, len, ss, si⟩ := D
  refine ⟨t, v, l, so, fun y => ?_, by simp at len ⊢; omega, ss, si⟩
  have c := cnt y
  simp only [List.count_append, List.count_nil] at c ⊢
  omega
theorem H0.ne {f : Nat → Int} {In hold : List Int} {pushed next : Int} {ps : Bool} {a v t b : Int} (h : H0 f In hold pushed next ps a v t b) (hb : f 9 > f 8) : In ≠ [] := by
  rintro rfl
  simp only [H0, List.length_nil] at h
  rcases h with h | h | h | h | h | h | h <;> omega
theorem H0.steal {f f' : Nat → Int} {In hold : List Int} {pushed next x : Int} {ps : Bool} {a v t b : Int} (h : H0 f (x :: In) hold pushed next ps a v t b) (h8 : f' 8 = f 8 + 1) (hk : ∀ k, k ≠ 8 → f' k = f k) : H0 f' In hold pushed next ps a v t b := by
  have h9 := hk 9 (by omega)
  unfold H0 at h ⊢
  rcases h with h | h | h | h | h | h | h
  · refine .inl ?_; rw [List.length_cons] at h; obtain ⟨h1, h2, h3, h4⟩ := h; exact ⟨h1, by omega, h3, h4⟩
  · refine .inr (.inl ?_)
    rw [List.length_cons] at h
    obtain ⟨h1, h2, h3, h4, h5, h6, h7, h10⟩ := h
    exact ⟨h1, by omega, h3, h4, h5, h6, fun hc => by have := h7 hc; omega, fun hc => by rw [h9, hk _ (by omega)]; exact h10 hc⟩
  · refine .inr (.inr (.inl ?_)); rw [List.length_cons] at h; obtain ⟨h1, h2, h3, h4⟩ := h; exact ⟨h1, by omega, h3, h4⟩
  · refine .inr (.inr (.inr (.inl ?_))); rw [List.length_cons] at h; obtain ⟨h1, h2, h3, h4⟩ := h; exact ⟨h1, by omega, by omega, h4⟩
  · exact nomatch h.2.1
  · refine .inr (.inr (.inr (.inr (.inr (.inl ?_)))))
    obtain ⟨h1, h2, h3, h4, h5, h6⟩ := h
    rcases h5 with ⟨h5, h7⟩ | ⟨_, h7⟩
    · exact ⟨h1, h2, by omega, by omega, .inr ⟨by omega, List.eq_nil_of_length_eq_zero (by rw [List.length_cons] at h7; omega)⟩, h6⟩
    · exact nomatch h7
  · exact nomatch h.2.2.1
theorem Th.same {T T' : Int} {In In' : List Int} {a v t : Int} (h : Th T In a v t) (h1 : T' = T) (h2 : In ≠ [] → In' ≠ [] ∧ gI In' 0 = gI In 0) : Th T' In' a v t := by
  subst h1
  rcases h with h | h | ⟨h, h3, h4, h5, h6⟩
  · exact .inl h
  · exact .inr (.inl h)
  · exact .inr (.inr ⟨h, h3, h4, fun a b => (h2 (h5 a b)).1, fun a b => by rw [(h2 (h5 (by omega) b)).2]; exact h6 a b⟩)
theorem Th.up {T T' : Int} {In In' : List Int} {a v t : Int} (h : Th T In a v t) (h1 : T' = T + 1) : Th T' In' a v t := by
  rcases h with h | h | ⟨h, h3, h4, h5, h6⟩
  · exact .inl h
  · exact .inr (.inl h)
  · exact .inr (.inr ⟨h, h3, by omega, fun _ _ => by omega, fun _ _ => by omega⟩)
structure DI (n : Nat) (f h : Nat → Int) (In hold pops stls : List Int) (pushed next : Int) (ps : Bool) : Prop where
  c : Dq f In hold pops stls pushed
  th : ∀ q, 1 ≤ q → q < n → Th (f 8) In (h (q * 4)) (h (q * 4 + 1)) (h (q * 4 + 2))
  h0 : H0 f In hold pushed next ps (h (0 * 4)) (h (0 * 4 + 1)) (h (0 * 4 + 2)) (h (0 * 4 + 3))
def DS (n : Nat) (f h : Nat → Int) (pops stls : List Int) (pushed next : Int) (ps : Bool) : Prop := ∃ In hold, DI n f h In hold pops stls pushed next ps
/-- the other hands are as they were -/
def Oth (q : Nat) (h h' : Nat → Int) : Prop := ∀ k, k ≠ q → ∀ j, j < 4 → h' (k * 4 + j) = h (k * 4 + j)
theorem Oth.rfl {q : Nat} {h : Nat → Int} : Oth q h h := fun _ _ _ _ => Eq.refl _
theorem Oth.upd {q j : Nat} {h h' : Nat → Int} {v : Int} (o : Oth q h h') (hj : j < 4) : Oth q h (updN h' (q * 4 + j) v) := fun k hk i hi => by rw [updN_out hk hi hj]; exact o k hk i hi
theorem Oth.upz {q : Nat} {h h' : Nat → Int} {v : Int} (o : Oth q h h') : Oth q h (updN h' (q * 4) v) := o.upd (j := 0) (by omega)
theorem Oth.done {q : Nat} {h h' : Nat → Int} (o : Oth q h h') : Oth q h (dDone h' q) := fun k hk i hi => by rw [dDone_out hk hi]; exact o k hk i hi
theorem Oth.begin {q : Nat} {h : Nat → Int} {a v : Int} : Oth q h (dBegin h q a v) := fun k hk i hi => if_neg (by omega)
theorem DI.oth {n : Nat} {f f' h h' : Nat → Int} {In In' hold pops stls : List Int} {pushed next : Int} {ps : Bool} (I : DI n f h In hold pops stls pushed next ps) (o : Oth 0 h h') (k : ∀ a v t, Th (f 8) In a v t → Th (f' 8) In' a v t) :
    ∀ q, 1 ≤ q → q < n → Th (f' 8) In' (h' (q * 4)) (h' (q * 4 + 1)) (h' (q * 4 + 2)) := fun q h1 hn => by
  have e0 : h' (q * 4) = h (q * 4) := o q (by omega) 0 (by omega)
  rw [e0, o q (by omega) 1 (by omega), o q (by omega) 2 (by omega)]
  exact k _ _ _ (I.th q h1 hn)
theorem snoc_of {l : List Int} (h : l ≠ []) : ∃ l' x, l = l' ++ [x] := ⟨l.dropLast, l.getLast h, (List.dropLast_concat_getLast h).symm⟩
def Out (n q : Nat) (f' h' : Nat → Int) (d : Bool) (g e : Int) (pops stls : List Int) (pushed next : Int) (ps : Bool) : Prop :=
  (d = false ∧ DS n f' h' pops stls pushed next ps) ∨
  (d = true ∧ e = 0 ∧ q = 0 ∧ ps = true ∧ ((g = -2 ∧ DS n f' h' pops stls pushed (next - 1) ps) ∨ (g ≠ -2 ∧ DS n f' h' pops stls (pushed + 1) next ps))) ∨
  (d = true ∧ e = 0 ∧ q = 0 ∧ ps = false ∧ ((0 ≤ g ∧ DS n f' h' (pops ++ [g]) stls pushed next ps) ∨ (g < 0 ∧ DS n f' h' pops stls pushed next ps))) ∨
  (d = true ∧ e = 0 ∧ q ≠ 0 ∧ ((0 ≤ g ∧ DS n f' h' pops (stls ++ [g]) pushed next ps) ∨ (g < 0 ∧ DS n f' h' pops stls pushed next ps)))
theorem di_step0 {n : Nat} {f h f' h' : Nat → Int} {In hold pops stls : List Int} {pushed next g e : Int} {ps d : Bool} (I : DI n f h In hold pops stls pushed next ps) (he : dStepE f h 0 = (f', h', d, g, e)) : Out n 0 f' h' d g e pops stls pushed next ps := by
  have D := I.c
  have z0 : ∀ {h : Nat → Int} {v : Int}, updN h (0 * 4) v (0 * 4) = v := updN_same _ _ _
  have zj : ∀ {h : Nat → Int} {v : Int} {j : Nat}, 1 ≤ j → updN h (0 * 4) v (0 * 4 + j) = h (0 * 4 + j) := fun hj => updN_ne (by omega)
  rcases I.h0 with ⟨a, b, c, k⟩ | ⟨a, b, c, v, k, rfl, l, m⟩ | ⟨a, b, c, k, rfl⟩ | ⟨a, b, b2, c, k, rfl⟩ | ⟨a, rfl, b, t, c, k, rfl⟩ | ⟨a, t0, t, b, w, c, k, rfl⟩ | ⟨a, t, rfl, b, w, c, rfl⟩
  · rw [dE0 a] at he
    cases he
    exact .inl ⟨rfl, In, hold, I⟩
  · subst k
    rcases a with a | a | a
    · by_cases hf : f 9 - f 8 ≥ 8
      · rw [dE1f a hf] at he
        cases he
        refine .inr (.inl ⟨rfl, rfl, rfl, rfl, .inl ⟨rfl, In, [], D, I.oth (Oth.rfl.done) (fun _ _ _ h => h), .inl ⟨dDone_at, b, by omega, rfl⟩⟩⟩)
      · rw [dE1 a hf] at he
        cases he
        refine .inl ⟨rfl, In, [], D, I.oth (Oth.rfl.upz) (fun _ _ _ h => h), .inr (.inl ⟨.inr (.inl z0), b, c, by rw [zj (by omega)]; exact v, rfl, rfl, fun _ => by omega, fun h => ?_⟩)⟩
        rw [z0] at h; exact absurd h (by decide)
    · rw [dE2 a] at he
      cases he
      have hl := l (by omega)
      have t0 := D.t
      have ne : ∀ j, j < In.length → (f 8 + j).toNat % 8 ≠ (f 9).toNat % 8 := fun j hj => by omega
      refine .inl ⟨rfl, In, [], ⟨?_, ?_, D.l, D.so, D.cnt, D.len, D.ss, D.si⟩, ?_, .inr (.inl ⟨.inr (.inr z0), ?_, c, by rw [zj (by omega)]; exact v, rfl, rfl, fun _ => hl, fun _ => ?_⟩)⟩
      · rw [updN_ne (by omega)]; exact t0
      · intro j hj
        rw [updN_ne (p := 8) (by omega), updN_ne (ne j hj)]; exact D.v j hj
      · refine I.oth (Oth.rfl.upz) (fun _ _ _ h => ?_)
        rw [updN_ne (by omega)]; exact h
      · rw [updN_ne (by omega), updN_ne (by omega)]; exact b
      · rw [updN_ne (p := 9) (by omega), updN_same, zj (by omega)]
    · rw [dE3 a] at he
      cases he
      have hl := l (by omega)
      have e8 : updN f 9 (f 9 + 1) 8 = f 8 := updN_ne (by omega)
      have D2 := (D.push hl (by rw [← b, ← v]; exact m a)).f9 (f' := updN f 9 (f 9 + 1)) (fun k hk => updN_ne hk)
      refine .inr (.inl ⟨rfl, rfl, rfl, rfl, .inr ⟨by decide, In ++ [pushed], [], D2, ?_, .inl ⟨dDone_at, ?_, by omega, rfl⟩⟩⟩)
      · refine I.oth (Oth.rfl.done) (fun _ _ _ h => h.same e8 fun hne => ⟨by simp, ?_⟩)
        rw [gI_app_l (List.length_pos_iff.2 hne)]
      · rw [e8, updN_same]; simp; omega
  · subst k
    rw [dE4 a] at he
    cases he
    have e8 : updN f 9 (f 9 - 1) 8 = f 8 := updN_ne (by omega)
    refine .inl ⟨rfl, In, [], D.f9 (fun k hk => updN_ne hk), I.oth (Oth.upz (Oth.upd Oth.rfl (by omega))) (fun _ _ _ h => h.same e8 fun hne => ⟨hne, rfl⟩), .inr (.inr (.inr (.inl ⟨z0, ?_, ?_, c, rfl, rfl⟩)))⟩
    · rw [e8, updN_same]; omega
    · rw [zj (by omega), updN_same, updN_same]
  · subst k
    have t0 := D.t
    by_cases h1 : h (0 * 4 + 3) > f 8
    · rw [dE5a a h1] at he
      cases he
      obtain ⟨In', x, rfl⟩ := snoc_of (l := In) (by rintro rfl; simp at b; omega)
      rw [List.length_append, List.length_singleton] at b
      have ev : f ((h (0 * 4 + 3)).toNat % 8) = x := by
        have := D.v In'.length (by simp)
        rw [gI_app_one] at this
        rw [← this]
        congr 3; omega
      rw [ev]
      have hx := D.rng (x := x) (by simp)
      have hne : In' ≠ [] := by rintro rfl; simp at b; omega
      refine .inr (.inr (.inl ⟨rfl, rfl, rfl, rfl, .inl ⟨hx.1, In', [], D.pop, I.oth (Oth.rfl.done) (fun _ _ _ h => h.same rfl fun _ => ⟨hne, ?_⟩), .inl ⟨dDone_at, by omega, c, rfl⟩⟩⟩))
      rw [gI_app_l (List.length_pos_iff.2 hne)]
    · by_cases h2 : h (0 * 4 + 3) = f 8
      · rw [dE5b a h2] at he
        cases he
        refine .inl ⟨rfl, In, [], D, I.oth (Oth.upz (Oth.upd Oth.rfl (by omega))) (fun _ _ _ h => h), .inr (.inr (.inr (.inr (.inr (.inl ⟨z0, ?_, ?_, ?_, .inl ⟨by omega, by omega⟩, c, rfl, rfl⟩)))))⟩
        · rw [zj (by omega), updN_same]; omega
        · rw [zj (by omega), updN_same]; omega
        · rw [zj (by omega), updN_ne (by omega)]; omega
      · rw [dE5c a (by omega)] at he
        cases he
        refine .inl ⟨rfl, In, [], D, I.oth (Oth.upz (Oth.upd Oth.rfl (by omega))) (fun _ _ _ h => h), .inr (.inr (.inr (.inr (.inl ⟨z0, ?_, ?_, ?_, c, rfl, rfl⟩))))⟩
        · exact List.eq_nil_of_length_eq_zero (by omega)
        · omega
        · rw [zj (by omega), updN_same]
  · subst k
    rw [dE6 a] at he
    cases he
    have e8 : updN f 9 (h (0 * 4 + 2)) 8 = f 8 := updN_ne (by omega)
    refine .inr (.inr (.inl ⟨rfl, rfl, rfl, rfl, .inr ⟨by decide, [], [], D.f9 (fun k hk => updN_ne hk), I.oth (Oth.rfl.done) (fun _ _ _ h => h.same e8 fun hne => ⟨hne, rfl⟩), .inl ⟨dDone_at, ?_, c, rfl⟩⟩⟩))
    rw [e8, updN_same, t]; simp
  · subst k
    by_cases h1 : f 8 = h (0 * 4 + 2)
    · rw [dE7a a h1] at he
      cases he
      have hl : In.length = 1 := by rcases w with w | w <;> omega
      obtain ⟨x, rfl⟩ := List.length_eq_one_iff.1 hl
      have ev : f ((h (0 * 4 + 3)).toNat % 8) = x := by
        have := D.v 0 (by simp)
        rw [gI_cons_z] at this
        rw [← this]
        congr 3; omega
      rw [ev]
      have hx := D.rng (x := x) (by simp)
      have e8 : updN f 8 (h (0 * 4 + 2) + 1) 8 = f 8 + 1 := by rw [updN_same]; omega
      refine .inl ⟨rfl, [], [x], D.cas e8, I.oth (Oth.upz (Oth.upd Oth.rfl (by omega))) (fun _ _ _ h => h.up e8), .inr (.inr (.inr (.inr (.inr (.inr ⟨z0, ?_, rfl, ?_, ?_, c, rfl⟩)))))⟩
      · rw [updN_same, zj (by omega), updN_ne (by omega)]
      · rw [updN_ne (by omega), zj (by omega), updN_ne (by omega)]; omega
      · rw [zj (by omega), updN_same]; exact .inr ⟨hx.1, rfl⟩
    · rw [dE7b a h1] at he
      cases he
      have hw : f 8 = f 9 + 1 ∧ In = [] := by rcases w with w | w; omega; exact w
      obtain ⟨w1, rfl⟩ := hw
      refine .inl ⟨rfl, [], [], D, I.oth (Oth.upz (Oth.upd Oth.rfl (by omega))) (fun _ _ _ h => h), .inr (.inr (.inr (.inr (.inr (.inr ⟨z0, ?_, rfl, ?_, ?_, c, rfl⟩)))))⟩
      · rw [zj (by omega), updN_ne (by omega)]; omega
      · rw [zj (by omega), updN_ne (by omega)]; omega
      · rw [zj (by omega), updN_same]; exact .inl ⟨rfl, rfl⟩
  · rw [dE8 a] at he
    cases he
    have e8 : updN f 9 (h (0 * 4 + 2) + 1) 8 = f 8 := updN_ne (by omega)
    have D2 := D.f9 (f' := updN f 9 (h (0 * 4 + 2) + 1)) (fun k hk => updN_ne hk)
    rcases w with ⟨w, rfl⟩ | ⟨w, rfl⟩
    · rw [w]
      refine .inr (.inr (.inl ⟨rfl, rfl, rfl, rfl, .inr ⟨by decide, [], [], D2, I.oth (Oth.rfl.done) (fun _ _ _ h => h.same e8 fun hne => ⟨hne, rfl⟩), .inl ⟨dDone_at, ?_, c, rfl⟩⟩⟩))
      rw [e8, updN_same, List.length_nil]; omega
    · refine .inr (.inr (.inl ⟨rfl, rfl, rfl, rfl, .inl ⟨w, [], [], D2.give, I.oth (Oth.rfl.done) (fun _ _ _ h => h.same e8 fun hne => ⟨hne, rfl⟩), .inl ⟨dDone_at, ?_, c, rfl⟩⟩⟩))
      rw [e8, updN_same, List.length_nil]; omega
end Go.Proofs.YtiaopgnnibidlaaDoor
