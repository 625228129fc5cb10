
import Derived.Test.YtnppmcgmmdcpiaaGreatDoorLa0
namespace Go.Proofs.YtnppmcgmmdcpiaaGreatDoor
open Go.Eng
set_option maxRecDepth 20000
/-- how many lines there are -/
def nlines (t : List UInt8) : Nat := t.count 10 + if t ≠ [] ∧ t.getLast? ≠ some 10 then 1 else 0
theorem nlines_line {s l : List UInt8} (h : 10 ∉ s) : nlines (s ++ 10 :: l) = 1 + nlines l := by
  unfold nlines
  rw [List.count_append, List.count_cons_self, List.count_eq_zero.2 h, List.getLast?_append, List.getLast?_cons]
  cases hg : l.getLast? with
  | none =>
    rw [List.getLast?_eq_none_iff] at hg
    subst hg
    simp
  | some c =>
    have h0 : l ≠ [] := by intro hc; rw [hc] at hg; cases hg
    simp [h0]
    omega
theorem dsess_count : ∀ (n : Nat) (x : Bo) (t : List UInt8), t.length ≤ n → DI x → (dsess x t).count 10 = nlines t
  | 0, x, t, h, _ => by
    have : t = [] := List.eq_nil_of_length_eq_zero (by omega)
    rw [this, dsess_nil]; rfl
  | n + 1, x, t, h, hd => by
    rcases text_cases t with rfl | ⟨h0, hn⟩ | ⟨s, l, hs, rfl⟩
    · rw [dsess_nil]; rfl
    · rw [(dsess_last h0 hn).1, List.count_append, List.count_eq_zero.2 (ans_ok hd).1]
      unfold nlines
      rw [List.count_eq_zero.2 hn, if_pos ⟨h0, fun hc => hn (List.mem_of_getLast? hc)⟩]
      rfl
    · simp only [List.length_append, List.length_cons] at h
      have := dsess_count n (dans x s).1 l (by omega) hd.ans
      rw [(dsess_line hs).1, List.count_append, List.count_cons_self, List.count_eq_zero.2 (ans_ok hd).1, nlines_line hs, this]
      omega
theorem count_take {t : List UInt8} {j : Nat} (hj : j < t.length) : (t.take (j + 1)).count 10 = (t.take j).count 10 + if t[j] = 10 then 1 else 0 := by
  rw [List.take_succ_eq_append_getElem hj, List.count_append]
  by_cases h : t[j] = 10
  · rw [if_pos h, h]; rfl
  · have : [t[j]].count (10 : UInt8) = 0 := List.count_eq_zero.2 (by simp only [List.mem_singleton]; exact fun h2 => h h2.symm)
    rw [if_neg h, this]
/-- how many lines are begun in a beginning -/
def nl (t : List UInt8) (j : Nat) : Nat := (t.take j).count 10 + if j = t.length ∧ t ≠ [] ∧ t.getLast? ≠ some 10 then 1 else 0
theorem nl_step {t : List UInt8} {j : Nat} (hj : j < t.length) : nl t (j + 1) = nl t j + if t[j] = 10 ∨ j + 1 = t.length then 1 else 0 := by
  unfold nl
  rw [count_take hj, if_neg (c := j = t.length ∧ t ≠ [] ∧ t.getLast? ≠ some 10) (by omega)]
  have h0 : t ≠ [] := by intro h; subst h; simp at hj
  by_cases hl : j + 1 = t.length
  · have hg : t.getLast? = some t[j] := by
      rw [List.getLast?_eq_getElem?, show t.length - 1 = j by omega, List.getElem?_eq_getElem hj]
    rw [if_pos (c := t[j] = 10 ∨ j + 1 = t.length) (.inr hl)]
    by_cases hc : t[j] = 10
    · rw [if_pos hc, if_neg (by rw [hg, hc]; simp)]
    · rw [if_neg hc, if_pos ⟨hl, h0, by rw [hg]; simpa using hc⟩]
  · rw [if_neg (c := j + 1 = t.length ∧ t ≠ [] ∧ t.getLast? ≠ some 10) (fun h => hl h.1)]
    by_cases hc : t[j] = 10
    · rw [if_pos hc, if_pos (.inl hc)]
    · rw [if_neg hc, if_neg (fun h => h.elim hc hl)]
theorem nl_all {t : List UInt8} : nl t t.length = nlines t := by
  unfold nl nlines
  rw [List.take_length]
  simp
set_option maxHeartbeats 1000000 in
theorem deskLines_c {s : ByteArray} {ro : Addr → Option Value} {T : Nat} (hG : HasErrT ro) (hTab : HasTab ro) (hN : HasNum ro) (hM : HasMax ro) :
    SemCall Tryz.prog 8 #[.string s] ⟨[shE 4 T 20], ro⟩ (fun v _ => v = .bool true) := by
  rw [bs_of s]
  generalize s.data.toList = t
  refine f8_call _ _ _ ?_
  unfold f8_sem
  refine drun_c (t := [114, 111, 119, 10, 10, 98]) (T := T) (by simp) hG hTab hN hM (fun ro1 m1 => ⟨_, rfl, ?_⟩)
  rw [show ByteArray.mk (List.toArray [(114 : UInt8), (111 : UInt8), (119 : UInt8), (32 : UInt8), (48 : UInt8), (32 : UInt8), (49 : UInt8), (32 : UInt8), (50 : UInt8), (10 : UInt8), (98 : UInt8), (97 : UInt8), (100 : UInt8), (10 : UInt8), (98 : UInt8), (97 : UInt8), (100 : UInt8), (10 : UInt8)]) = bs [114, 111, 119, 32, 48, 32, 49, 32, 50, 10, 98, 97, 100, 10, 98, 97, 100, 10] from rfl, bs_lit fact_row, VIf_false]
  refine drun_c (T := T) (by simp) (hG.up m1) (hTab.up m1) (hN.up m1) (hM.up m1) (fun ro2 m2 => ⟨_, rfl, ?_⟩)
  rw [bs_size]
  refine VIf_dec (fun h => ret ?_) (fun h => ?_)
  · rw [show ByteArray.mk (List.toArray [(116 : UInt8), (111 : UInt8), (111 : UInt8), (32 : UInt8), (108 : UInt8), (111 : UInt8), (110 : UInt8), (103 : UInt8), (10 : UInt8)]) = bs sLong from rfl, bs_beq]
    unfold drun
    rw [if_pos (by omega)]
    simp
  have hl : t.length ≤ 3000 := by omega
  rw [drun_small hl]
  have hcnt := dsess_count t.length x0 t (Nat.le_refl _) x0_DI
  have hend := dsess_ends t.length x0 t (Nat.le_refl _)
  have hsh := dsess_short t.length x0 t (Nat.le_refl _) x0_DI
  generalize dsess x0 t = u at hcnt hend hsh ⊢
  have hbnd : ∀ j, nl t j ≤ t.length + 1 := fun j => by
    unfold nl
    have h1 := List.count_le_length (a := (10 : UInt8)) (l := t.take j)
    rw [List.length_take] at h1
    split <;> omega
  refine ⟨fun i h => i = ((nlines t : Nat) : Int) ∧ h = (⟨[shE 4 T 20], ro2⟩ : H), ⟨fun n a i h => ∃ j : Nat, i = (j : Int) ∧ j ≤ t.length ∧ n = t.length - j ∧ a = ((nl t j : Nat) : Int) ∧ h = (⟨[shE 4 T 20], ro2⟩ : H), ⟨_, gi ⟨0, rfl, Nat.zero_le _, rfl, ?_, rfl⟩⟩, ?_⟩, ?_⟩
  · unfold nl
    rw [List.take_zero, if_neg (by rintro ⟨h1, h2, _⟩; exact h2 (List.eq_nil_of_length_eq_zero h1.symm))]
    rfl
  · rintro n _ a i h7 ⟨j, rfl, hj, rfl, rfl, rfl⟩
    unfold f8_L1
    rw [bs_size]
    have hb := hbnd j
    have hb2 := hbnd (j + 1)
    refine VIf_dec (fun hi => ?_) (fun hi => gi ⟨by rw [← nl_all, show j = t.length by omega], rfl⟩)
    have hjl : j < t.length := by omega
    have hst := nl_step hjl
    refine ⟨fun c h => c = decide (t[j] = 10 ∨ j + 1 = t.length) ∧ h = (⟨[shE 4 T 20], ro2⟩ : H), ⟨by omega, by omega, ?_⟩, ?_⟩
    · rw [byte_at t j hjl]
      refine VIf_eq (fun hc => gi ⟨?_, rfl⟩) (fun hc => ⟨⟨by omega, by omega⟩, gi ⟨?_, rfl⟩⟩)
      · exact (decide_eq_true (.inl (byte_eq.1 hc))).symm
      · have hc : ¬ t[j] = 10 := fun h => hc (by rw [h]; rfl)
        by_cases he : j + 1 = t.length
        · rw [decide_eq_true (.inr he), beq_iff_eq]; omega
        · rw [decide_eq_false (fun h => h.elim hc he), beq_eq_false_iff_ne]; omega
    · rintro _ c h8 ⟨rfl, rfl⟩
      refine VIf_dec (fun hc => ?_) (fun hc => ?_)
      · rw [if_pos hc] at hst
        exact ⟨⟨by omega, by omega⟩, ⟨by omega, by omega⟩, t.length - (j + 1), by omega, gi ⟨j + 1, by omega, by omega, rfl, by omega, rfl⟩⟩
      · rw [if_neg hc] at hst
        exact ⟨⟨by omega, by omega⟩, t.length - (j + 1), by omega, gi ⟨j + 1, by omega, by omega, rfl, by omega, rfl⟩⟩
  rintro _ a h8 ⟨rfl, rfl⟩
  refine ⟨fun i h => i = ((u.count 10 : Nat) : Int) ∧ h = (⟨[shE 4 T 20], ro2⟩ : H), ⟨fun n a i h => ∃ j : Nat, i = (j : Int) ∧ j ≤ u.length ∧ n = u.length - j ∧ a = (((u.take j).count 10 : Nat) : Int) ∧ h = (⟨[shE 4 T 20], ro2⟩ : H), ⟨_, gi ⟨0, rfl, Nat.zero_le _, rfl, rfl, rfl⟩⟩, ?_⟩, ?_⟩
  · rintro n _ a i h7 ⟨j, rfl, hj, rfl, rfl, rfl⟩
    unfold f8_L2
    rw [bs_size]
    have hb := List.count_le_length (a := (10 : UInt8)) (l := u.take j)
    rw [List.length_take] at hb
    refine VIf_dec (fun hi => ?_) (fun hi => gi ⟨by rw [List.take_of_length_le (by omega)], rfl⟩)
    have hjl : j < u.length := by omega
    have hst := count_take hjl
    refine ⟨by omega, by omega, ?_⟩
    rw [byte_at u j hjl]
    refine VIf_eq (fun hc => ?_) (fun hc => ?_)
    · rw [if_pos (byte_eq.1 hc)] at hst
      exact ⟨⟨by omega, by omega⟩, ⟨by omega, by omega⟩, u.length - (j + 1), by omega, gi ⟨j + 1, by omega, by omega, rfl, by omega, rfl⟩⟩
    · rw [if_neg (fun h => hc (by rw [h]; rfl))] at hst
      exact ⟨⟨by omega, by omega⟩, u.length - (j + 1), by omega, gi ⟨j + 1, by omega, by omega, rfl, by omega, rfl⟩⟩
  rintro _ a h8 ⟨rfl, rfl⟩
  unfold f8_J3
  refine ⟨fun c _ => c = true, VIf_eq (fun _ => VIf_eq (fun _ => gi rfl) (fun h0 => ?_)) (fun h => absurd (by rw [hcnt]) h), fun _ c _ h => ret (by rw [h])⟩
  rw [bs_size] at h0 ⊢
  have h0' : u ≠ [] := fun hc => h0 (by rw [hc]; rfl)
  have hp := List.length_pos_iff.2 h0'
  have hlast := hend h0'
  rw [List.getLast?_eq_getElem?, List.getElem?_eq_getElem (by omega)] at hlast
  refine ⟨⟨by omega, by omega⟩, by omega, by omega, gi ?_⟩
  rw [show ((u.length : Nat) : Int) - 1 = ((u.length - 1 : Nat) : Int) by omega, byte_at u (u.length - 1) (by omega), Option.some.inj hlast]
  rfl
end Go.Proofs.YtnppmcgmmdcpiaaGreatDoor
