import Derived.Test.YtnppmcgmmdcpiaaGreatDoorKG
namespace Go.Proofs.YtnppmcgmmdcpiaaGreatDoor
open Go.Eng
set_option maxRecDepth 20000
/-! ### what was put down, read again: the plain law -/
theorem bopenF_fuel : ∀ (k k' : Nat) (x : Bo) (t : List UInt8), t.length ≤ k → t.length ≤ k' → bopenF k x t = bopenF k' x t
  | 0, k', x, t, h, _ => by
    have : t = [] := List.eq_nil_of_length_eq_zero (by omega)
    rw [this, bopenF_nil, bopenF_nil]
  | k + 1, 0, x, t, _, h => by
    have : t = [] := List.eq_nil_of_length_eq_zero (by omega)
    rw [this, bopenF_nil, bopenF_nil]
  | k + 1, k' + 1, x, t, h, h' => by
    by_cases hi : Lib.indexByte t 10 < 0
    · rw [bopenF_none hi, bopenF_none hi]
    · obtain ⟨i, hi'⟩ : ∃ i : Nat, Lib.indexByte t 10 = i := ⟨(Lib.indexByte t 10).toNat, by omega⟩
      have := (idx_split hi').2.2
      rw [bopenF_some hi', bopenF_some hi', bopenF_fuel k k' _ (t.drop (i + 1)) (by simp; omega) (by simp; omega)]
noncomputable def bopen (x : Bo) (t : List UInt8) : (Int × Int) ⊕ Bo := bopenF t.length x t
theorem idx_app {s l : List UInt8} {c : UInt8} (h : c ∉ s) : Lib.indexByte (s ++ c :: l) c = (s.length : Int) := by
  have hge := Lib.indexByte_ge (s ++ c :: l) c
  by_cases hn : Lib.indexByte (s ++ c :: l) c = -1
  · exact absurd (by simp) (idx_none hn)
  · obtain ⟨o, ho⟩ : ∃ o : Nat, Lib.indexByte (s ++ c :: l) c = o := ⟨(Lib.indexByte (s ++ c :: l) c).toNat, by omega⟩
    obtain ⟨h1, h2⟩ := Lib.indexByte_some ho
    rw [ho]
    congr 1
    by_cases hlt : o < s.length
    · rw [List.getElem?_append_left hlt] at h1
      exact absurd (List.mem_of_getElem? h1) h
    · by_cases hgt : s.length < o
      · exact absurd (by simp) (h2 s.length hgt)
      · omega
theorem bopen_line {x : Bo} {s l : List UInt8} (h : 10 ∉ s) : bopen x (s ++ 10 :: l) = if (bline x s).2 ≠ 0 then .inl ((x.n : Int) + 1, (bline x s).2) else bopen (bline x s).1 l := by
  unfold bopen
  rw [show (s ++ 10 :: l).length = (s.length + l.length) + 1 by simp; omega, bopenF_some (idx_app h), List.take_left]
  have e : (s ++ 10 :: l).drop (s.length + 1) = l := by
    rw [← List.drop_drop, List.drop_left]
    rfl
  rw [e, bopenF_fuel (s.length + l.length) l.length _ l (by omega) (Nat.le_refl _)]
/-- whole lines that lead from one book to another -/
inductive Runs (x0 : Bo) : List UInt8 → Bo → Prop
  | nil : Runs x0 [] x0
  | snoc {l : List UInt8} {x x' : Bo} {s : List UInt8} : Runs x0 l x → 10 ∉ s → bline x s = (x', 0) → Runs x0 (l ++ (s ++ [10])) x'
theorem Runs.app {x0 x : Bo} {l : List UInt8} (h : Runs x0 l x) : ∀ l2, bopen x0 (l ++ l2) = bopen x l2 := by
  induction h with
  | nil => intro l2; rfl
  | snoc h hs hb ih =>
    intro l2
    rw [List.append_assoc, ih, List.append_assoc, show ([10] : List UInt8) ++ l2 = 10 :: l2 from rfl, bopen_line hs, hb]
    simp
theorem bopen_nil (x : Bo) : bopen x [] = .inr x := bopenF_nil _ _
theorem Runs.opens {x0 x : Bo} {l : List UInt8} (h : Runs x0 l x) : bopen x0 l = .inr x := by
  have := h.app []
  rw [List.append_nil, bopen_nil] at this
  exact this
/-! a line -/
theorem dec_no {n : Nat} {c : UInt8} (h : c.toNat < 48) : c ∉ Lib.decDigits n := fun hm => by
  have := dec_byte n c hm
  omega
theorem lastB_app {a d : List UInt8} {c : UInt8} (h : c ∉ d) : lastB (a ++ c :: d) c (a ++ c :: d).length = some a.length := by
  have key : ∀ k, k ≤ d.length → lastB (a ++ c :: d) c (a.length + 1 + k) = some a.length := by
    intro k
    induction k with
    | zero =>
      intro _
      unfold lastB
      rw [if_pos (by simp)]
    | succ k ih =>
      intro hk
      rw [show a.length + 1 + (k + 1) = (a.length + 1 + k) + 1 by omega, lastB_skip, ih (by omega)]
      rw [List.getElem?_append_right (by omega), show a.length + 1 + k - a.length = k + 1 by omega, List.getElem?_cons_succ]
      intro hm
      exact h (List.mem_of_getElem? hm)
  have := key d.length (Nat.le_refl _)
  rw [show (a ++ c :: d).length = a.length + 1 + d.length by simp; omega]
  exact this
theorem bpre_app {L : List UInt8} {d : List UInt8} (h : 32 ∉ d) : bpre (L ++ 32 :: d) = match numV d with | none => .inl 2 | some n => if n ≠ sumB L then .inl 6 else btail (cutB 32 L) := by
  unfold bpre
  rw [lastB_app h]
  simp only [List.take_left]
  rw [show (L ++ 32 :: d).drop (L.length + 1) = d by rw [← List.drop_drop, List.drop_left]; rfl]
  rfl
theorem numV_dec {n : Nat} (h : n ≤ 9223372036854775807) : numV (Lib.decDigits n) = some n := numV_iff.2 ⟨h, rfl⟩
theorem cut_flat : ∀ (want : List Int) (p : List UInt8), 32 ∉ p → cutB 32 (p ++ want.flatMap fun n => 32 :: Lib.decDigits n.toNat) = p :: want.map fun n => Lib.decDigits n.toNat
  | [], p, h => by simp [cutB_none h]
  | n :: want, p, h => by
    rw [List.flatMap_cons, List.cons_append, cutB_app h, cut_flat want _ (dec_no (by decide))]
    rfl
theorem nums_dec : ∀ (want : List Int), (∀ x ∈ want, 0 ≤ x ∧ x ≤ 1000) → nums (want.map fun n => Lib.decDigits n.toNat) = some (want.map fun n => n.toNat)
  | [], _ => rfl
  | n :: want, h => by
    have h1 := h n (by simp)
    simp only [List.map_cons, nums, nums_dec want (fun x hx => h x (by simp [hx])), numV_dec (n := n.toNat) (by omega)]
theorem back_int : ∀ (want : List Int), (∀ x ∈ want, 0 ≤ x ∧ x ≤ 1000) → (want.map fun n => n.toNat).map (fun v : Nat => (v : Int)) = want
  | [], _ => rfl
  | n :: want, h => by
    have h1 := h n (by simp)
    simp only [List.map_cons, back_int want (fun x hx => h x (by simp [hx]))]
    rw [Int.toNat_of_nonneg h1.1]
/-- the line without its end -/
def lineS (l : List UInt8) : List UInt8 := l ++ 32 :: Lib.decDigits (sumB l)
theorem lineF_S (l : List UInt8) : lineF l = lineS l ++ [10] := by simp [lineF, lineS]
theorem flat_no10 (want : List Int) : 10 ∉ want.flatMap fun n => 32 :: Lib.decDigits n.toNat := by
  intro hm
  obtain ⟨n, _, h⟩ := List.mem_flatMap.1 hm
  simp only [List.mem_cons] at h
  rcases h with h | h
  · exact absurd h (by decide)
  · exact dec_no (by decide) h
theorem lineB_no10 {w : UInt8} {t : Int} {want : List Int} (hw : w ≠ 10) : 10 ∉ lineB w t want := by
  unfold lineB
  simp only [List.mem_cons, List.mem_append, not_or]
  exact ⟨fun h => hw h.symm, by decide, dec_no (by decide), flat_no10 want⟩
theorem lineS_no10 {w : UInt8} {t : Int} {want : List Int} (hw : w ≠ 10) : 10 ∉ lineS (lineB w t want) := by
  unfold lineS
  simp only [List.mem_cons, List.mem_append, not_or]
  exact ⟨lineB_no10 hw, by decide, dec_no (by decide)⟩
/-- a line that was put down is read as it was put -/
theorem bline_put {x : Bo} {back : Bool} {t : Int} {want : List Int} (h : bcode x back t want = 0) : bline x (lineS (lineB (if back = true then 98 else 97) t want)) = (bput x back t want, 0) := by
  obtain ⟨_, hA⟩ := bcode_ask h
  obtain ⟨hwa, hw3, ht0, ht1⟩ := want_all hA
  have hs := sumB_lt (lineB (if back = true then 98 else 97) t want)
  have e : bpre (lineS (lineB (if back = true then 98 else 97) t want)) = .inr ([if back = true then 98 else 97] :: Lib.decDigits t.toNat :: want.map (fun n => Lib.decDigits n.toNat), t.toNat :: want.map fun n => n.toNat) := by
    unfold lineS
    rw [bpre_app (dec_no (by decide)), numV_dec (by omega)]
    simp only [ne_eq, not_true_eq_false, if_false]
    have ec : cutB 32 (lineB (if back = true then 98 else 97) t want) = [if back = true then 98 else 97] :: Lib.decDigits t.toNat :: want.map fun n => Lib.decDigits n.toNat := by
      rw [show lineB (if back = true then 98 else 97) t want = [if back = true then 98 else 97] ++ 32 :: (Lib.decDigits t.toNat ++ want.flatMap fun n => 32 :: Lib.decDigits n.toNat) from rfl, cutB_app (by cases back <;> decide), cut_flat want _ (dec_no (by decide))]
    rw [ec, btail]
    simp only [List.tail_cons, nums, numV_dec (n := t.toNat) (by omega), nums_dec want hwa]
  rw [bline_inr e, if_pos ⟨by cases back <;> simp, by simp [hA.l]; omega⟩]
  have hd : decide (([if back = true then (98 : UInt8) else 97] :: Lib.decDigits t.toNat :: want.map (fun n => Lib.decDigits n.toNat)).headD [] = [98]) = back := by cases back <;> rfl
  rw [hd]
  simp only [List.headD_cons, List.tail_cons, back_int want hwa, Int.toNat_of_nonneg ht0, h]
/-- how long a book's text may be -/
theorem dec_short {n m : Nat} (h : n < 10 ^ m) (hm : 0 < m) : (Lib.decDigits n).length ≤ m := by
  obtain ⟨k, rfl⟩ : ∃ k, m = k + 1 := ⟨m - 1, by omega⟩
  rw [Lib.decDigits_length]
  revert n
  induction k with
  | zero => intro n hv; rw [Lib.nDigits_small (by simpa using hv)]; exact Nat.le_refl _
  | succ k ih =>
    intro v hv
    by_cases hs : v < 10
    · rw [Lib.nDigits_small hs]; omega
    · rw [Lib.nDigits_big hs]
      have := ih (n := v / 10) (by rw [Nat.pow_succ] at hv; omega) (by omega)
      omega
theorem flat_short : ∀ {want : List Int}, (∀ x ∈ want, 0 ≤ x ∧ x ≤ 1000) → (want.flatMap fun n => 32 :: Lib.decDigits n.toNat).length ≤ 5 * want.length
  | [], _ => by simp
  | n :: want, h => by
    have h1 := h n (by simp)
    have h2 := flat_short (want := want) (fun x hx => h x (by simp [hx]))
    have h3 := dec_short (n := n.toNat) (m := 4) (by omega) (by decide)
    simp only [List.flatMap_cons, List.length_append, List.length_cons]
    omega
theorem lineB_short {b : Bk} {w : UInt8} {t : Int} {want : List Int} (h : BAsk b t want) : (lineB w t want).length ≤ 18 := by
  obtain ⟨hwa, hw3, ht0, ht1⟩ := want_all h
  have h1 := flat_short hwa
  have h5 := h.ok.m5; have h6 := h.t1
  have h2 := dec_short (n := t.toNat) (m := 1) (by omega) (by decide)
  unfold lineB
  simp only [List.length_cons, List.length_append]
  omega
theorem lineS_short {b : Bk} {w : UInt8} {t : Int} {want : List Int} (h : BAsk b t want) : (lineS (lineB w t want)).length ≤ 23 := by
  have h1 := lineB_short (w := w) h
  have h2 := sumB_lt (lineB w t want)
  have h3 := dec_short (n := sumB (lineB w t want)) (m := 4) (by omega) (by decide)
  unfold lineS
  simp only [List.length_cons, List.length_append]
  omega
/-- a book's text leads to the book -/
structure BR (b : Bk) (x : Bo) : Prop where
  runs : Runs ⟨b, [], 0⟩ x.l x
  n60 : x.n ≤ 60
  len : x.l.length ≤ 24 * x.n
theorem BR.put {b : Bk} {x : Bo} {back : Bool} {t : Int} {want : List Int} (h : BR b x) : BR b (bput x back t want) := by
  by_cases h0 : bcode x back t want = 0
  · obtain ⟨h1, h2⟩ := bcode_ask h0
    have h3 := lineS_short (w := if back = true then 98 else 97) h2
    have h4 := bline_put h0
    have e := bput_ok h0
    rw [lineF_S] at e
    refine ⟨?_, by rw [e]; simp only []; omega, ?_⟩
    · have := Runs.snoc h.runs (lineS_no10 (by cases back <;> decide)) h4
      rw [show x.l ++ (lineS (lineB (if back = true then 98 else 97) t want) ++ [10]) = (bput x back t want).l by rw [e]] at this
      exact this
    · have := h.len
      rw [e]
      simp only [List.length_append, List.length_cons, List.length_nil]
      omega
  · rw [bput_err h0]; exact h
theorem BR.nil (b : Bk) : BR b ⟨b, [], 0⟩ := ⟨.nil, Nat.zero_le _, Nat.zero_le _⟩
theorem BR.told (b : Bk) (rows : List (List Int)) : BR b (btold b rows) := by
  unfold btold
  have key : ∀ (l : List (List Int)) (x : Bo), BR b x → BR b (l.foldl bstep x) := by
    intro l
    induction l with
    | nil => intro x h; exact h
    | cons a l ih =>
      intro x h
      refine ih _ ?_
      unfold bstep
      split
      · exact h.put
      · exact h
  exact key _ _ (BR.nil b)
theorem BR.le {b : Bk} {x : Bo} (h : BR b x) : x.l.length ≤ 2000 := by have := h.len; have := h.n60; omega
end Go.Proofs.YtnppmcgmmdcpiaaGreatDoor
