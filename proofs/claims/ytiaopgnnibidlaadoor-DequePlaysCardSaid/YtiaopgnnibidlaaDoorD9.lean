import Derived.Test.YtiaopgnnibidlaaDoorD8
namespace Go.Proofs.YtiaopgnnibidlaaDoor
open Go.Eng
set_option maxRecDepth 20000
theorem DI.h0_oth {q : Nat} {f h h' : Nat → Int} {In hold : List Int} {pushed next : Int} {ps : Bool} (hq : q ≠ 0) (o : Oth q h h') (H : H0 f In hold pushed next ps (h (0 * 4)) (h (0 * 4 + 1)) (h (0 * 4 + 2)) (h (0 * 4 + 3))) :
    H0 f In hold pushed next ps (h' (0 * 4)) (h' (0 * 4 + 1)) (h' (0 * 4 + 2)) (h' (0 * 4 + 3)) := by
  have e0 : h' (0 * 4) = h (0 * 4) := o 0 (fun h => hq h.symm) 0 (by omega)
  rw [e0, o 0 (fun h => hq h.symm) 1 (by omega), o 0 (fun h => hq h.symm) 2 (by omega), o 0 (fun h => hq h.symm) 3 (by omega)]
  exact H
theorem DI.th_oth {n q : Nat} {f f' h h' : Nat → Int} {In In' hold pops stls : List Int} {pushed next : Int} {ps : Bool} (I : DI n f h In hold pops stls pushed next ps) (o : Oth q h h') (k : ∀ a v t, Th (f 8) In a v t → Th (f' 8) In' a v t)
    (hq : Th (f' 8) In' (h' (q * 4)) (h' (q * 4 + 1)) (h' (q * 4 + 2))) : ∀ r, 1 ≤ r → r < n → Th (f' 8) In' (h' (r * 4)) (h' (r * 4 + 1)) (h' (r * 4 + 2)) := fun r h1 hn => by
  by_cases hr : r = q
  · subst hr; exact hq
  · have e0 : h' (r * 4) = h (r * 4) := o r hr 0 (by omega)
    rw [e0, o r hr 1 (by omega), o r hr 2 (by omega)]
    exact k _ _ _ (I.th r h1 hn)
theorem di_stepT {n q : Nat} {f h f' h' : Nat → Int} {In hold pops stls : List Int} {pushed next g e : Int} {ps d : Bool} (hq1 : 1 ≤ q) (hqn : q < n) (I : DI n f h In hold pops stls pushed next ps) (he : dStepE f h q = (f', h', d, g, e)) : Out n q f' h' d g e pops stls pushed next ps := by
  have D := I.c
  have q0 : q ≠ 0 := by omega
  have z0 : ∀ {h : Nat → Int} {v : Int}, updN h (q * 4) v (q * 4) = v := updN_same _ _ _
  have zj : ∀ {h : Nat → Int} {v : Int} {j : Nat}, 1 ≤ j → updN h (q * 4) v (q * 4 + j) = h (q * 4 + j) := fun hj => updN_ne (by omega)
  have id : ∀ a v t, Th (f 8) In a v t → Th (f 8) In a v t := fun _ _ _ h => h
  have td : ∀ {T : Int} {In : List Int} {h : Nat → Int}, Th T In (dDone h q (q * 4)) (dDone h q (q * 4 + 1)) (dDone h q (q * 4 + 2)) := .inl dDone_at
  rcases I.th q hq1 hqn with a | a | ⟨a | a | a, t0, tT, ne, vl⟩
  · rw [dE0 a] at he
    cases he
    exact .inl ⟨rfl, In, hold, I⟩
  · rw [dE9 a] at he
    cases he
    have o : Oth q h (updN (updN h (q * 4 + 2) (f 8)) (q * 4) 10) := Oth.upz (Oth.upd Oth.rfl (by omega))
    refine .inl ⟨rfl, In, hold, D, I.th_oth o id (.inr (.inr ⟨.inl z0, ?_, ?_, fun h => absurd z0 h, fun h => absurd (z0.symm.trans h) (by decide)⟩)), DI.h0_oth q0 o I.h0⟩
    · rw [zj (by omega), updN_same]; exact D.t
    · rw [zj (by omega), updN_same]; omega
  · by_cases hb : f 9 ≤ h (q * 4 + 2)
    · rw [dE10a a hb] at he
      cases he
      exact .inr (.inr (.inr ⟨rfl, rfl, q0, .inr ⟨by decide, In, hold, D, I.th_oth (Oth.rfl.done) id td, DI.h0_oth q0 (Oth.rfl.done) I.h0⟩⟩))
    · rw [dE10b a hb] at he
      cases he
      have o : Oth q h (updN h (q * 4) 11) := Oth.upz Oth.rfl
      refine .inl ⟨rfl, In, hold, D, I.th_oth o id (.inr (.inr ⟨.inr (.inl z0), ?_, ?_, fun _ h => ?_, fun h => absurd (z0.symm.trans h) (by decide)⟩)), DI.h0_oth q0 o I.h0⟩
      · rw [zj (by omega)]; exact t0
      · rw [zj (by omega)]; exact tT
      · rw [zj (by omega)] at h
        exact I.h0.ne (by omega)
  · rw [dE11 a] at he
    cases he
    have o : Oth q h (updN (updN h (q * 4 + 1) (f ((h (q * 4 + 2)).toNat % 8))) (q * 4) 12) := Oth.upz (Oth.upd Oth.rfl (by omega))
    have e2 : updN (updN h (q * 4 + 1) (f ((h (q * 4 + 2)).toNat % 8))) (q * 4) 12 (q * 4 + 2) = h (q * 4 + 2) := by rw [zj (by omega), updN_ne (by omega)]
    refine .inl ⟨rfl, In, hold, D, I.th_oth o id (.inr (.inr ⟨.inr (.inr z0), ?_, ?_, fun _ h => ?_, fun _ h => ?_⟩)), DI.h0_oth q0 o I.h0⟩
    · rw [e2]; exact t0
    · rw [e2]; exact tT
    · rw [e2] at h; exact ne (by omega) h
    · rw [e2] at h
      rw [zj (by omega), updN_same, h, ← D.v 0 (List.length_pos_iff.2 (ne (by omega) h))]
      congr 3; omega
  · by_cases hb : f 8 = h (q * 4 + 2)
    · rw [dE12a a hb] at he
      cases he
      have hne := ne (by omega) hb.symm
      have hv := vl a hb.symm
      cases In with
      | nil => exact absurd rfl hne
      | cons x In =>
        rw [gI_cons_z] at hv
        rw [hv]
        have hx := D.rng (x := x) (by simp)
        have e8 : updN f 8 (h (q * 4 + 2) + 1) 8 = f 8 + 1 := by rw [updN_same]; omega
        exact .inr (.inr (.inr ⟨rfl, rfl, q0, .inl ⟨hx.1, In, hold, D.steal e8 (fun k hk => updN_ne (by omega)), I.th_oth (Oth.rfl.done) (fun _ _ _ h => h.up e8) td, DI.h0_oth q0 (Oth.rfl.done) (I.h0.steal e8 (fun k hk => updN_ne hk))⟩⟩))
    · rw [dE12b a hb] at he
      cases he
      exact .inr (.inr (.inr ⟨rfl, rfl, q0, .inr ⟨by decide, In, hold, D, I.th_oth (Oth.rfl.done) id td, DI.h0_oth q0 (Oth.rfl.done) I.h0⟩⟩))
theorem ds_step {n q : Nat} {f h f' h' : Nat → Int} {pops stls : List Int} {pushed next g e : Int} {ps d : Bool} (hqn : q < n) (I : DS n f h pops stls pushed next ps) (he : dStepE f h q = (f', h', d, g, e)) : Out n q f' h' d g e pops stls pushed next ps := by
  obtain ⟨In, hold, I⟩ := I
  by_cases hq : q = 0
  · subst hq; exact di_step0 I he
  · exact di_stepT (by omega) hqn I he
def rk (a : Int) : Nat := if a = 0 then 0 else if a = 1 ∨ a = 5 ∨ a = 10 then 3 else if a = 2 ∨ a = 7 ∨ a = 11 then 2 else if a = 4 ∨ a = 9 then 4 else 1
theorem rk_le (a : Int) : rk a ≤ 4 := by
  unfold rk
  repeat' (split; omega)
  omega
theorem rk_step {q : Nat} {f h f' h' : Nat → Int} {g e : Int} {d : Bool} (ha : 0 ≤ h (q * 4) ∧ h (q * 4) ≤ 12) (he : dStepE f h q = (f', h', d, g, e)) : Oth q h h' ∧ (h' (q * 4) = 0 ∨ rk (h' (q * 4)) + 1 ≤ rk (h (q * 4))) := by
  have z0 : ∀ {h : Nat → Int} {v : Int}, updN h (q * 4) v (q * 4) = v := updN_same _ _ _
  obtain a | a | a | a | a | a | a | a | a | a | a | a | a : h (q * 4) = 0 ∨ h (q * 4) = 1 ∨ h (q * 4) = 2 ∨ h (q * 4) = 3 ∨ h (q * 4) = 4 ∨ h (q * 4) = 5 ∨ h (q * 4) = 6 ∨ h (q * 4) = 7 ∨ h (q * 4) = 8 ∨ h (q * 4) = 9 ∨ h (q * 4) = 10 ∨ h (q * 4) = 11 ∨ h (q * 4) = 12 := by omega
  · rw [dE0 a] at he; cases he; exact ⟨Oth.rfl, .inl a⟩
  · by_cases c : f 9 - f 8 ≥ 8
    · rw [dE1f a c] at he; cases he; exact ⟨Oth.rfl.done, .inl dDone_at⟩
    · rw [dE1 a c] at he; cases he; exact ⟨Oth.rfl.upz, .inr (by rw [z0, a]; decide)⟩
  · rw [dE2 a] at he; cases he; exact ⟨Oth.rfl.upz, .inr (by rw [z0, a]; decide)⟩
  · rw [dE3 a] at he; cases he; exact ⟨Oth.rfl.done, .inl dDone_at⟩
  · rw [dE4 a] at he; cases he; exact ⟨Oth.upz (Oth.upd Oth.rfl (by omega)), .inr (by rw [z0, a]; decide)⟩
  · by_cases c : h (q * 4 + 3) > f 8
    · rw [dE5a a c] at he; cases he; exact ⟨Oth.rfl.done, .inl dDone_at⟩
    · by_cases c2 : h (q * 4 + 3) = f 8
      · rw [dE5b a c2] at he; cases he; exact ⟨Oth.upz (Oth.upd Oth.rfl (by omega)), .inr (by rw [z0, a]; decide)⟩
      · rw [dE5c a (by omega)] at he; cases he; exact ⟨Oth.upz (Oth.upd Oth.rfl (by omega)), .inr (by rw [z0, a]; decide)⟩
  · rw [dE6 a] at he; cases he; exact ⟨Oth.rfl.done, .inl dDone_at⟩
  · by_cases c : f 8 = h (q * 4 + 2)
    · rw [dE7a a c] at he; cases he; exact ⟨Oth.upz (Oth.upd Oth.rfl (by omega)), .inr (by rw [z0, a]; decide)⟩
    · rw [dE7b a c] at he; cases he; exact ⟨Oth.upz (Oth.upd Oth.rfl (by omega)), .inr (by rw [z0, a]; decide)⟩
  · rw [dE8 a] at he; cases he; exact ⟨Oth.rfl.done, .inl dDone_at⟩
  · rw [dE9 a] at he; cases he; exact ⟨Oth.upz (Oth.upd Oth.rfl (by omega)), .inr (by rw [z0, a]; decide)⟩
  · by_cases c : f 9 ≤ h (q * 4 + 2)
    · rw [dE10a a c] at he; cases he; exact ⟨Oth.rfl.done, .inl dDone_at⟩
    · rw [dE10b a c] at he; cases he; exact ⟨Oth.rfl.upz, .inr (by rw [z0, a]; decide)⟩
  · rw [dE11 a] at he; cases he; exact ⟨Oth.upz (Oth.upd Oth.rfl (by omega)), .inr (by rw [z0, a]; decide)⟩
  · by_cases c : f 8 = h (q * 4 + 2)
    · rw [dE12a a c] at he; cases he; exact ⟨Oth.rfl.done, .inl dDone_at⟩
    · rw [dE12b a c] at he; cases he; exact ⟨Oth.rfl.done, .inl dDone_at⟩
theorem DS.at {n q : Nat} {f h : Nat → Int} {pops stls : List Int} {pushed next : Int} {ps : Bool} (I : DS n f h pops stls pushed next ps) (hqn : q < n) : 0 ≤ h (q * 4) ∧ h (q * 4) ≤ 12 := by
  obtain ⟨In, hold, I⟩ := I
  by_cases hq : q = 0
  · subst hq
    rcases I.h0 with ⟨a, _⟩ | ⟨a, _⟩ | ⟨a, _⟩ | ⟨a, _⟩ | ⟨a, _⟩ | ⟨a, _⟩ | ⟨a, _⟩ <;> omega
  · rcases I.th q (by omega) hqn with a | a | ⟨a, _⟩ <;> omega
theorem DS.ok {n q : Nat} {B : Int} {f h : Nat → Int} {pops stls : List Int} {pushed next : Int} {ps : Bool} (I : DS n f h pops stls pushed next ps) (hqn : q < n) (bf : Bnd B f) (bh : Bnd B h) (hB : B ≤ 1000000) : DOk f h q := by
  obtain ⟨In, hold, I⟩ := I
  have t := I.c.t
  by_cases hq : q = 0
  · subst hq
    have H := I.h0
    refine bf.ok bh hB t (fun a2 => ?_) (fun a7 => ?_) (fun a11 => ?_)
    · rcases H with ⟨a, _⟩ | ⟨a, b, _⟩ | ⟨a, _⟩ | ⟨a, _⟩ | ⟨a, _⟩ | ⟨a, _⟩ | ⟨a, _⟩ <;> omega
    · rcases H with ⟨a, _⟩ | ⟨a, b, _⟩ | ⟨a, _⟩ | ⟨a, _⟩ | ⟨a, _⟩ | ⟨a, t0, tb, b, _⟩ | ⟨a, _⟩ <;> omega
    · rcases H with ⟨a, _⟩ | ⟨a, b, _⟩ | ⟨a, _⟩ | ⟨a, _⟩ | ⟨a, _⟩ | ⟨a, _⟩ | ⟨a, _⟩ <;> omega
  · have H := I.th q (by omega) hqn
    refine bf.ok bh hB t (fun a2 => ?_) (fun a7 => ?_) (fun a11 => ?_)
    · rcases H with a | a | ⟨a, _⟩ <;> omega
    · rcases H with a | a | ⟨a, _⟩ <;> omega
    · rcases H with a | a | ⟨a, t, _⟩ <;> omega
theorem dBegin_at {h : Nat → Int} {q : Nat} {a v : Int} : dBegin h q a v (q * 4) = a := by unfold dBegin; rw [if_pos (by omega), Nat.sub_self]; rfl
theorem DS.push {n : Nat} {f h : Nat → Int} {pops stls : List Int} {pushed next : Int} {ps : Bool} (I : DS n f h pops stls pushed next ps) (h0 : h (0 * 4) = 0) : DS n f (dBegin h 0 1 next) pops stls pushed (next + 1) true := by
  obtain ⟨In, hold, I⟩ := I
  rcases I.h0 with ⟨a, b, c, k⟩ | ⟨a, _⟩ | ⟨a, _⟩ | ⟨a, _⟩ | ⟨a, _⟩ | ⟨a, _⟩ | ⟨a, _⟩
  · subst k
    exact ⟨In, [], I.c, I.oth Oth.begin (fun _ _ _ h => h), .inr (.inl ⟨.inl rfl, b, by omega, c, rfl, rfl, fun h => absurd rfl h, fun h => absurd (show (1 : Int) = 3 from h) (by decide)⟩)⟩
  all_goals omega
theorem DS.pop {n : Nat} {f h : Nat → Int} {pops stls : List Int} {pushed next : Int} {ps : Bool} (I : DS n f h pops stls pushed next ps) (h0 : h (0 * 4) = 0) : DS n f (dBegin h 0 4 0) pops stls pushed next false := by
  obtain ⟨In, hold, I⟩ := I
  rcases I.h0 with ⟨a, b, c, k⟩ | ⟨a, _⟩ | ⟨a, _⟩ | ⟨a, _⟩ | ⟨a, _⟩ | ⟨a, _⟩ | ⟨a, _⟩
  · subst k
    exact ⟨In, [], I.c, I.oth Oth.begin (fun _ _ _ h => h), .inr (.inr (.inl ⟨rfl, b, c, rfl, rfl⟩))⟩
  all_goals omega
theorem DS.steals {n q : Nat} {f h : Nat → Int} {pops stls : List Int} {pushed next : Int} {ps : Bool} (I : DS n f h pops stls pushed next ps) (hq : 1 ≤ q) : DS n f (dBegin h q 9 0) pops stls pushed next ps := by
  obtain ⟨In, hold, I⟩ := I
  exact ⟨In, hold, I.c, I.th_oth Oth.begin (fun _ _ _ h => h) (.inr (.inl dBegin_at)), DI.h0_oth (by omega) Oth.begin I.h0⟩
theorem DS.next {n : Nat} {f h : Nat → Int} {pops stls : List Int} {pushed next : Int} {ps : Bool} (I : DS n f h pops stls pushed next ps) : 0 ≤ pushed ∧ pushed ≤ next := by
  obtain ⟨In, hold, I⟩ := I
  have := I.c.len
  refine ⟨by omega, ?_⟩
  rcases I.h0 with ⟨a, b, c, k⟩ | ⟨a, b, c, _⟩ | ⟨a, b, c, _⟩ | ⟨a, b, b2, c, _⟩ | ⟨a, _, _, _, c, _⟩ | ⟨a, _, _, _, _, c, _⟩ | ⟨a, _, _, _, _, c, _⟩ <;> omega
/-- what is waited for: who is at work in turn comes to an end -/
def Qt (n i : Nat) (h : Nat → Int) : Prop := ∀ q, q < n → h (q * 4) = 0 ∨ rk (h (q * 4)) * n + (q + n - i % n) % n + i ≤ 299
theorem Qt.start {n : Nat} {h : Nat → Int} (hn : 1 ≤ n) (h4 : n ≤ 4) : Qt n 280 h := fun q hq => by
  have := rk_le (h (q * 4))
  have h2 := Nat.mul_le_mul this h4
  have : (q + n - 280 % n) % n < n := Nat.mod_lt _ hn
  omega
theorem Qt.next {n i : Nat} {h h' : Nat → Int} (Q : Qt n i h) (hn : 1 ≤ n) (h4 : n ≤ 4) (o : Oth (i % n) h h') (hr : h' ((i % n) * 4) = 0 ∨ rk (h' ((i % n) * 4)) + 1 ≤ rk (h ((i % n) * 4))) : Qt n (i + 1) h' := fun q hq => by
  by_cases e : q = i % n
  · rcases hr with hr | hr
    · left; rw [e]; exact hr
    · right
      have hQ := (Q q hq).resolve_left (fun h0 => by rw [e] at h0; rw [h0] at hr; simp [rk] at hr)
      rw [← e] at hr
      have h1 : (rk (h' (q * 4)) + 1) * n ≤ rk (h (q * 4)) * n := Nat.mul_le_mul_right _ hr
      rw [Nat.add_mul, Nat.one_mul] at h1
      generalize rk (h' (q * 4)) * n = X at *
      generalize rk (h (q * 4)) * n = Y at *
      obtain rfl | rfl | rfl | rfl : n = 1 ∨ n = 2 ∨ n = 3 ∨ n = 4 := by omega
      all_goals omega
  · have e0 : h' (q * 4) = h (q * 4) := o q e 0 (by omega)
    rw [e0]
    refine (Q q hq).imp id fun hQ => ?_
    generalize rk (h (q * 4)) * n = Y at *
    obtain rfl | rfl | rfl | rfl : n = 1 ∨ n = 2 ∨ n = 3 ∨ n = 4 := by omega
    all_goals omega
theorem Qt.end {n : Nat} {h : Nat → Int} (Q : Qt n 360 h) (q : Nat) (hq : q < n) : h (q * 4) = 0 := (Q q hq).resolve_right (by omega)
end Go.Proofs.YtiaopgnnibidlaaDoor
