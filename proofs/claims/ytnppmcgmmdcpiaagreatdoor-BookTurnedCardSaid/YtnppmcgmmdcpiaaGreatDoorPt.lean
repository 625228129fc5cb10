import Derived.Test.YtnppmcgmmdcpiaaGreatDoorPg
namespace Go.Proofs.YtnppmcgmmdcpiaaGreatDoor
open Go.Eng
set_option maxRecDepth 20000
/-! ### a byte that was turned: the plain law -/
theorem cutB_count (c : UInt8) : ∀ l, (cutB c l).length = l.count c + 1
  | [] => rfl
  | b :: l => by
    have ih := cutB_count c l
    unfold cutB
    by_cases h : b = c
    · rw [if_pos h, List.length_cons, ih, h, List.count_cons_self]
    · rw [if_neg h, List.count_cons_of_ne h]
      cases hc : cutB c l with
      | nil => rw [hc] at ih; simp at ih
      | cons y ys => rw [hc] at ih; exact ih
theorem bpre_count {l : List UInt8} {ws : List (List UInt8)} {vs : List Nat} (h : bpre l = .inr (ws, vs)) : vs.length + 1 = l.count 32 := by
  unfold bpre at h
  split at h
  · cases h
  · rename_i k hk
    split at h
    · cases h
    · rename_i n hn
      split at h
      · cases h
      · unfold btail at h
        split at h
        · cases h
        · rename_i us hu
          cases h
          obtain ⟨hkl, hkc⟩ := lastB_lt hk
          have h1 := nums_len hu
          rw [List.length_tail, cutB_count] at h1
          have h2 : (l.drop (k + 1)).count 32 = 0 := List.count_eq_zero.2 (by
            rw [(numV_iff.1 hn).2]
            exact dec_no (by decide))
          have h3 : l = l.take k ++ 32 :: l.drop (k + 1) := by
            have : l[k] = 32 := by rw [List.getElem?_eq_getElem hkl] at hkc; exact Option.some.inj hkc
            conv => lhs; rw [← List.take_append_drop k l]
            rw [← this, List.getElem_cons_drop]
          conv => rhs; rw [h3]
          rw [List.count_append, List.count_cons_self, h2]
          omega
theorem bline_count {x : Bo} {l : List UInt8} (h : l.count 32 ≠ 2 + x.b.free.length) : (bline x l).2 = 2 ∨ (bline x l).2 = 6 := by
  cases hb : bpre l with
  | inl e => rw [bline_inl hb]; exact bpre_code hb
  | inr p =>
    obtain ⟨ws, vs⟩ := p
    have := bpre_count hb
    rw [bline_inr hb, if_neg (by rintro ⟨_, hv⟩; omega)]
    exact .inl rfl
theorem sumT_set {l : List UInt8} {j : Nat} {c : UInt8} (hj : j < l.length) : ∀ k, k ≤ l.length → sumT (l.set j c) k + (if j < k then (j + 1) * l[j].toNat else 0) = sumT l k + (if j < k then (j + 1) * c.toNat else 0)
  | 0, _ => by simp [sumT]
  | k + 1, hk => by
    have ih := sumT_set (c := c) hj k (by omega)
    have hkl : k < l.length := by omega
    unfold sumT
    by_cases h : j = k
    · subst h
      rw [if_neg (by omega), if_neg (by omega)] at ih
      rw [if_pos (by omega), if_pos (by omega)]
      simp [hkl]
      omega
    · have e : (l.set j c).getD k 0 = l.getD k 0 := by rw [List.getD_eq_getElem?_getD, List.getD_eq_getElem?_getD, List.getElem?_set_ne h]
      rw [e]
      by_cases h2 : j < k
      · rw [if_pos h2, if_pos h2] at ih
        rw [if_pos (by omega), if_pos (by omega)]
        omega
      · rw [if_neg h2, if_neg h2] at ih
        rw [if_neg (by omega), if_neg (by omega)]
        omega
theorem sumB_set {l : List UInt8} {j : Nat} {c : UInt8} (hj : j < l.length) (hl : l.length ≤ 18) (hc : c ≠ l[j]) : sumB (l.set j c) ≠ sumB l := by
  have h := sumT_set (c := c) hj l.length (Nat.le_refl _)
  rw [if_pos hj, if_pos hj] at h
  have h1 : l[j].toNat < 256 := l[j].toNat_lt
  have h2 : c.toNat < 256 := c.toNat_lt
  have h3 : c.toNat ≠ l[j].toNat := fun e => hc (UInt8.toNat_inj.1 e)
  have b1 : (j + 1) * l[j].toNat ≤ 18 * 255 := Nat.mul_le_mul (by omega) (by omega)
  have b2 : (j + 1) * c.toNat ≤ 18 * 255 := Nat.mul_le_mul (by omega) (by omega)
  have b3 : (j + 1) * c.toNat ≠ (j + 1) * l[j].toNat := fun e => h3 (Nat.eq_of_mul_eq_mul_left (Nat.succ_pos j) e)
  unfold sumB
  rw [List.length_set]
  generalize (j + 1) * c.toNat = B at h b2 b3
  generalize (j + 1) * l[j].toNat = A at h b1 b3
  omega
theorem turned {x : Bo} {L : List UInt8} {j : Nat} {c : UInt8} (hL : L.length ≤ 18) (hn : (lineS L).count 32 = 2 + x.b.free.length) (hj : j < (lineS L).length) (hc : c ≠ (lineS L)[j]) : (bline x ((lineS L).set j c)).2 = 2 ∨ (bline x ((lineS L).set j c)).2 = 6 := by
  by_cases h32 : (lineS L)[j] = 32
  · refine bline_count ?_
    rw [List.count_set hj, h32]
    have : 0 < (lineS L).count 32 := List.count_pos_iff.2 (h32 ▸ List.getElem_mem hj)
    have hcn : (c == 32) = false := by simpa [h32] using hc
    simp [hcn]
    omega
  by_cases hc32 : c = 32
  · refine bline_count ?_
    rw [List.count_set hj, hc32]
    have hn32 : ((lineS L)[j] == 32) = false := by simpa using h32
    simp [hn32]
    omega
  have hs := sumB_lt L
  rcases Nat.lt_trichotomy j L.length with hjl | hjl | hjl
  · have e : (lineS L).set j c = L.set j c ++ 32 :: Lib.decDigits (sumB L) := by
      unfold lineS
      rw [List.set_append_left _ _ hjl]
    have hcj : c ≠ L[j] := by
      intro h
      apply hc
      rw [h]
      simp only [lineS]
      rw [List.getElem_append_left hjl]
    have hb : bpre ((lineS L).set j c) = .inl 6 := by
      rw [e, bpre_app (dec_no (by decide)), numV_dec (by omega)]
      simp only []
      rw [if_pos (fun h => sumB_set hjl hL hcj h.symm)]
    rw [bline_inl hb]
    exact .inr rfl
  · exfalso
    apply h32
    subst hjl
    simp [lineS]
  · obtain ⟨i, rfl⟩ : ∃ i, j = L.length + 1 + i := ⟨j - L.length - 1, by omega⟩
    have hid : i < (Lib.decDigits (sumB L)).length := by simp [lineS] at hj; omega
    have e : (lineS L).set (L.length + 1 + i) c = L ++ 32 :: (Lib.decDigits (sumB L)).set i c := by
      unfold lineS
      rw [List.set_append_right _ _ (by omega), show L.length + 1 + i - L.length = i + 1 by omega, List.set_cons_succ]
    have hcd : c ≠ (Lib.decDigits (sumB L))[i] := by
      intro h
      apply hc
      rw [h]
      simp only [lineS]
      rw [List.getElem_append_right (by omega)]
      simp only [show L.length + 1 + i - L.length = i + 1 by omega, List.getElem_cons_succ]
    have hno : 32 ∉ (Lib.decDigits (sumB L)).set i c := by
      intro hm
      rcases List.mem_or_eq_of_mem_set hm with h | h
      · exact dec_no (by decide) h
      · exact hc32 h.symm
    have hb : bpre ((lineS L).set (L.length + 1 + i) c) = .inl 2 ∨ bpre ((lineS L).set (L.length + 1 + i) c) = .inl 6 := by
      rw [e, bpre_app hno]
      cases hv : numV ((Lib.decDigits (sumB L)).set i c) with
      | none => exact .inl rfl
      | some n =>
        right
        simp only []
        rw [if_pos]
        rintro rfl
        have h1 := (numV_iff.1 hv).2
        apply hcd
        have h2 := congrArg (fun l => l[i]?) h1
        simp only [List.getElem?_set_self hid, List.getElem?_eq_getElem hid] at h2
        exact Option.some.inj h2
    rcases hb with hb | hb
    · rw [bline_inl hb]; exact .inl rfl
    · rw [bline_inl hb]; exact .inr rfl
/-- what was put down, line by line -/
inductive Puts (b : Bk) : List UInt8 → Bo → Prop
  | nil : Puts b [] ⟨b, [], 0⟩
  | snoc {l : List UInt8} {x : Bo} {back : Bool} {t : Int} {want : List Int} : Puts b l x → bcode x back t want = 0 → Puts b (l ++ (lineS (lineB (if back = true then 98 else 97) t want) ++ [10])) (bput x back t want)
theorem lineS_count {b : Bk} {w : UInt8} {t : Int} {want : List Int} (h : BAsk b t want) (hw : w ≠ 32) : (lineS (lineB w t want)).count 32 = 2 + b.free.length := by
  have hf : ∀ want : List Int, (want.flatMap fun n => 32 :: Lib.decDigits n.toNat).count 32 = want.length := by
    intro want
    induction want with
    | nil => rfl
    | cons n want ih =>
      rw [List.flatMap_cons, List.count_append, List.count_cons_self, ih, List.count_eq_zero.2 (dec_no (by decide))]
      simp; omega
  unfold lineS lineB
  rw [List.count_append, List.count_cons_self, List.count_cons_of_ne hw, List.count_cons_self, List.count_append, hf, List.count_eq_zero.2 (dec_no (by decide)), List.count_eq_zero.2 (dec_no (by decide)), h.l]
  omega
theorem Puts.told (b : Bk) (rows : List (List Int)) : Puts b (btold b rows).l (btold b rows) := by
  unfold btold
  have key : ∀ (l : List (List Int)) (x : Bo), Puts b x.l x → Puts b (l.foldl bstep x).l (l.foldl bstep x) := by
    intro l
    induction l with
    | nil => intro x h; exact h
    | cons a l ih =>
      intro x h
      refine ih _ ?_
      unfold bstep
      split
      · rename_i a t want
        by_cases h0 : bcode x (a != 0) t want = 0
        · have := Puts.snoc h h0
          rw [← lineF_S] at this
          rw [show (bput x (a != 0) t want).l = x.l ++ lineF (lineB (if (a != 0) = true then 98 else 97) t want) by rw [bput_ok h0]]
          exact this
        · rw [bput_err h0]; exact h
      · exact h
  exact key _ _ Puts.nil
theorem Puts.runs {b : Bk} {l : List UInt8} {x : Bo} (h : Puts b l x) : Runs ⟨b, [], 0⟩ l x ∧ x.n = l.count 10 ∧ x.b.free.length = b.free.length := by
  induction h with
  | nil => exact ⟨.nil, rfl, rfl⟩
  | @snoc l x back t want h h0 ih =>
    obtain ⟨i1, i2, i3⟩ := ih
    have hno := lineS_no10 (w := if back = true then 98 else 97) (t := t) (want := want) (by cases back <;> decide)
    refine ⟨.snoc i1 hno (bline_put h0), ?_, ?_⟩
    · rw [List.count_append, List.count_append, List.count_eq_zero.2 hno, bput_ok h0, ← i2]
      rfl
    · rw [bput_ok h0]; simp only [bmv_fl]; exact i3
theorem Puts.find {b : Bk} {l : List UInt8} {x : Bo} (h : Puts b l x) : ∀ (i : Nat) (hi : i < l.length), l[i] ≠ 10 → ∃ l1 y L l2 j, l = l1 ++ (lineS L ++ 10 :: l2) ∧ i = l1.length + j ∧ j < (lineS L).length ∧ Runs ⟨b, [], 0⟩ l1 y ∧ y.n = l1.count 10 ∧ L.length ≤ 18 ∧ 10 ∉ lineS L ∧ (lineS L).count 32 = 2 + y.b.free.length := by
  induction h with
  | nil => intro i hi; simp at hi
  | @snoc l x back t want h h0 ih =>
    intro i hi hne
    obtain ⟨_, hA⟩ := bcode_ask h0
    obtain ⟨r1, r2, _⟩ := h.runs
    by_cases hil : i < l.length
    · rw [List.getElem_append_left hil] at hne
      obtain ⟨l1, y, L, l2, j, e, h1, h2, h3, h4, h5, h6, h7⟩ := ih i hil hne
      refine ⟨l1, y, L, l2 ++ (lineS (lineB (if back = true then 98 else 97) t want) ++ [10]), j, ?_, h1, h2, h3, h4, h5, h6, h7⟩
      rw [e]; simp
    · have hno := lineS_no10 (w := if back = true then 98 else 97) (t := t) (want := want) (by cases back <;> decide)
      refine ⟨l, x, lineB (if back = true then 98 else 97) t want, [], i - l.length, rfl, by omega, ?_, r1, r2, lineB_short hA, hno, lineS_count hA (by cases back <;> decide)⟩
      by_cases hlast : i - l.length = (lineS (lineB (if back = true then 98 else 97) t want)).length
      · exfalso
        apply hne
        rw [List.getElem_append_right (by omega), List.getElem_append_right (by omega)]
        simp [hlast]
      · simp at hi
        omega
theorem bopen_turned {b : Bk} {l : List UInt8} {x : Bo} (h : Puts b l x) {i : Nat} (hi : i < l.length) (hne : l[i] ≠ 10) {c : UInt8} (hc : c ≠ l[i]) (hc10 : c ≠ 10) :
    ∃ e, bopen ⟨b, [], 0⟩ (l.set i c) = .inl ((((l.take i).count 10 : Nat) : Int) + 1, e) ∧ (e = 2 ∨ e = 6) := by
  obtain ⟨l1, y, L, l2, j, rfl, rfl, hj, hr, hyn, hL, hno, hct⟩ := h.find i hi hne
  have e1 : (l1 ++ (lineS L ++ 10 :: l2)).set (l1.length + j) c = l1 ++ ((lineS L).set j c ++ 10 :: l2) := by
    rw [List.set_append_right _ _ (by omega), show l1.length + j - l1.length = j by omega, List.set_append_left _ _ hj]
  have e2 : (l1 ++ (lineS L ++ 10 :: l2))[l1.length + j] = (lineS L)[j] := by
    rw [List.getElem_append_right (by omega)]
    simp only [show l1.length + j - l1.length = j by omega]
    rw [List.getElem_append_left hj]
  rw [e2] at hc
  have ht := turned hL hct hj hc
  have hno' : 10 ∉ (lineS L).set j c := by
    intro hm
    rcases List.mem_or_eq_of_mem_set hm with h | h
    · exact hno h
    · exact hc10 h.symm
  have e3 : ((l1 ++ (lineS L ++ 10 :: l2)).take (l1.length + j)).count 10 = l1.count 10 := by
    rw [List.take_length_add_append, List.count_append, List.take_append_of_le_length (by omega), List.count_eq_zero.2 (fun hm => hno (List.mem_of_mem_take hm))]
    rfl
  refine ⟨(bline y ((lineS L).set j c)).2, ?_, ht⟩
  rw [e1, hr.app, bopen_line hno', if_pos (by rcases ht with h | h <;> rw [h] <;> decide), e3, hyn]
end Go.Proofs.YtnppmcgmmdcpiaaGreatDoor
