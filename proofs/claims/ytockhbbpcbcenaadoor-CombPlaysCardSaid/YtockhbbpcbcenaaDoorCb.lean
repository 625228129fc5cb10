import Derived.Test.YtockhbbpcbcenaaDoorHd
import Derived.Test.YtockhbbpcbcenaaDoorEngK
namespace Go.Proofs.YtockhbbpcbcenaaDoor
open Go.Eng
set_option maxRecDepth 20000
/-! ### a comb -/
/-- the comb as it lies: 59 numbers -/
def CombAt (p : Nat) (m : List Int) (L : List Ent) : Prop := m.length = 59 ∧ ∃ c, L = [⟨some p, ints m, c⟩]
structure COk (m : List Int) : Prop where
  b : ∀ k, -100000000 ≤ gI m k ∧ gI m k ≤ 100000000
  n0 : 1 ≤ gI m 0
  n4 : gI m 0 ≤ 4
  w : gI m 37 = 0 ∨ gI m 37 = 1
/-- the half that counts -/
def cHalf (m : List Int) (w : Int) : List Int := (List.range 9).map fun j => gI m (1 + w.toNat * 9 + j)
theorem cHalf_len (m : List Int) (w : Int) : (cHalf m w).length = 9 := rfl
theorem cHalf_get (m : List Int) (w : Int) (j : Nat) (h : j < 9) : gI (cHalf m w) j = gI m (1 + w.toNat * 9 + j) := by
  unfold cHalf
  conv => lhs; unfold gI
  rw [List.getElem?_map, List.getElem?_range h]; rfl
def comb0 (n : Int) : List Int := n :: List.replicate 58 0
theorem comb_new_c {n : Int} {own : List Ent} {ro : Addr → Option Value} {post : Value → H → Prop}
    (h1 : ¬ (1 ≤ n ∧ n ≤ 4) → post (.tuple (List.toArray [.pointer none, errV (eno 63 1)])) ⟨own, ro⟩)
    (h2 : ∀ p L, CombAt p (comb0 n) L → 1 ≤ n → n ≤ 4 → post (.tuple (List.toArray [.pointer (some (Addr.mk p 0 none)), errV none])) ⟨own ++ L, ro⟩) : SemCall Tryd.prog 4 (List.toArray [.int .i64 n]) ⟨own, ro⟩ post := by
  refine f4_call n _ post (hands_c (fun hc => ⟨_, rfl, VIf_nerr (fun _ => ret (h1 hc)) (nomatch ·)⟩) (fun n1 n2 => ⟨none, rfl, VIf_nnil ?_⟩))
  intro r _
  exact ret (h2 r _ ⟨rfl, _, rfl⟩ n1 n2)
/-- what Begin does -/
def combBegin (m : List Int) (q add : Int) : List Int × Int :=
  if ¬ (0 ≤ q ∧ q ≤ gI m 0 - 1) ∨ ¬ (0 ≤ add ∧ add ≤ 1000) then (m, 1)
  else if gI m (47 + q.toNat * 3) ≠ 0 then (m, 7)
  else (splI m (47 + q.toNat * 3) [1, add, gI m (1 + (gI m 37).toNat * 9 + 1 + q.toNat) + 1], 0)
theorem comb_begin_c {p : Nat} {m : List Int} {q add : Int} {L own : List Ent} {ro : Addr → Option Value} {post : Value → H → Prop} (A C : List Ent) (hown : own = A ++ (L ++ C)) (hs : CombAt p m L) (hm : COk m)
    (hk : ∀ L', CombAt p (combBegin m q add).1 L' → post (errV (eno 63 (combBegin m q add).2)) ⟨A ++ (L' ++ C), ro⟩) :
    SemCall Tryd.prog 8 (List.toArray [.pointer (some (Addr.mk p 0 none)), .int .i64 q, .int .i64 add]) ⟨own, ro⟩ post := by
  refine lift A C hown (Q := fun L' => CombAt p (combBegin m q add).1 L') ?_ hk
  clear hk hown post
  intro post hk
  refine f8_call _ _ _ _ post ?_
  obtain ⟨hb, n0, n4, hw⟩ := hm
  obtain ⟨hl, c, rfl⟩ := hs
  simp only [f8_sem, f8_J1, add_mk', Option.some.injEq, exists_eq_left', Nat.zero_add, Nat.add_zero, Nat.mul_one]
  have rI : ∀ (k : Nat), k < 59 → H.rd ⟨[⟨some p, ints m, c⟩], ro⟩ (Addr.mk p k none) (.int .i64 (gI m k)) := fun k hk => rd_gI ⟨some p, ints m, c⟩ (by simp) rfl rfl (by omega)
  refine join_b (h := ⟨[⟨some p, ints m, c⟩], ro⟩) (decide (¬ (0 ≤ q ∧ q ≤ gI m 0 - 1) ∨ ¬ (0 ≤ add ∧ add ≤ 1000))) ?_ ?_
  · refine ⟨_, rI 0 (by omega), ⟨by omega, by omega⟩, within_i (fun hx => ⟨_, rfl, VIf_nb (fun _ => gi ⟨rfl, (decide_eq_true (.inl hx)).symm⟩) (nomatch ·)⟩) (fun x1 x2 => ⟨_, rfl, VIf_nb (nomatch ·) (fun _ => within_c ⟨_, rfl, gi ⟨rfl, ?_⟩⟩)⟩)⟩
    by_cases ha : 0 ≤ add ∧ add ≤ 1000
    · rw [decide_eq_true ha, decide_eq_false (by omega)]; rfl
    · rw [decide_eq_false ha, decide_eq_true (.inr ha)]; rfl
  refine VIf_dec (fun hx => ?_) (fun hx => ?_)
  · rw [combBegin, if_pos hx] at hk
    exact ret (hk _ ⟨hl, c, rfl⟩)
  rw [combBegin, if_neg hx] at hk
  refine ⟨by omega, by omega, _, rI _ (by omega), VIf_ne (fun h0 => ?_) (fun h0 => ?_)⟩
  · rw [if_pos h0] at hk
    exact ret (hk _ ⟨hl, c, rfl⟩)
  rw [if_neg (not_not_intro h0)] at hk
  have b1 := hb (1 + (gI m 37).toNat * 9 + 1 + q.toNat)
  refine ⟨_, rI 37 (by omega), by omega, by omega, by omega, by omega, _, rI (1 + (gI m 37).toNat * 9 + 1 + q.toNat) (by omega), ⟨by omega, by omega⟩, by omega, by omega, rfl, rfl, ?_⟩
  exact wr_gI (vs := [1, add, _]) [] ⟨some p, ints m, c⟩ [] rfl rfl rfl (by simp; omega) (ret (hk _ ⟨by rw [splI_length (by simp; omega)]; exact hl, c, rfl⟩))
theorem comb_at_c {p : Nat} {m : List Int} {q : Int} {L own : List Ent} {ro : Addr → Option Value} {post : Value → H → Prop} (hs : CombAt p m L) (hL : ∀ e ∈ L, e ∈ own) (hm : COk m)
    (hk : post (.int .i64 (if 0 ≤ q ∧ q ≤ gI m 0 - 1 then gI m (47 + q.toNat * 3) else 0)) ⟨own, ro⟩) :
    SemCall Tryd.prog 17 (List.toArray [.pointer (some (Addr.mk p 0 none)), .int .i64 q]) ⟨own, ro⟩ post := by
  refine f17_call _ _ _ post ?_
  obtain ⟨hb, n0, n4, hw⟩ := hm
  obtain ⟨hl, c, rfl⟩ := hs
  simp only [f17_sem, add_mk', Option.some.injEq, exists_eq_left', Nat.zero_add, Nat.add_zero, Nat.mul_one]
  have rI : ∀ (k : Nat), k < 59 → H.rd ⟨own, ro⟩ (Addr.mk p k none) (.int .i64 (gI m k)) := fun k hk => rd_gI ⟨some p, ints m, c⟩ (hL _ (by simp)) rfl rfl (by omega)
  refine ⟨_, rI 0 (by omega), ⟨by omega, by omega⟩, within_i (fun hx => ⟨_, rfl, VIf_nb (fun _ => ?_) (nomatch ·)⟩) (fun x1 x2 => ⟨_, rfl, VIf_nb (nomatch ·) (fun _ => ?_)⟩)⟩
  · rw [if_neg hx] at hk; exact ret hk
  · rw [if_pos ⟨x1, x2⟩] at hk
    exact ⟨by omega, by omega, _, rI _ (by omega), ret hk⟩
theorem comb_sum_c {p : Nat} {m : List Int} {L own : List Ent} {ro : Addr → Option Value} {post : Value → H → Prop} (hs : CombAt p m L) (hL : ∀ e ∈ L, e ∈ own) (hm : COk m)
    (hk : post (.int .i64 (gI m (1 + (gI m 37).toNat * 9))) ⟨own, ro⟩) :
    SemCall Tryd.prog 14 (List.toArray [.pointer (some (Addr.mk p 0 none))]) ⟨own, ro⟩ post := by
  refine f14_call _ _ post ?_
  obtain ⟨hb, n0, n4, hw⟩ := hm
  obtain ⟨hl, c, rfl⟩ := hs
  simp only [f14_sem, add_mk', Option.some.injEq, exists_eq_left', Nat.zero_add, Nat.add_zero, Nat.mul_one]
  have rI : ∀ (k : Nat), k < 59 → H.rd ⟨own, ro⟩ (Addr.mk p k none) (.int .i64 (gI m k)) := fun k hk => rd_gI ⟨some p, ints m, c⟩ (hL _ (by simp)) rfl rfl (by omega)
  exact ⟨_, rI 37 (by omega), by omega, by omega, _, rI _ (by omega), ret hk⟩
theorem comb_done_c {p : Nat} {m : List Int} {q : Int} {L own : List Ent} {ro : Addr → Option Value} {post : Value → H → Prop} (hs : CombAt p m L) (hL : ∀ e ∈ L, e ∈ own) (hm : COk m)
    (hk : post (.tuple (List.toArray [.int .i64 (if 0 ≤ q ∧ q ≤ gI m 0 - 1 then gI m (2 + (gI m 37).toNat * 9 + q.toNat) else 0), .int .i64 (if 0 ≤ q ∧ q ≤ gI m 0 - 1 then gI m (6 + (gI m 37).toNat * 9 + q.toNat) else 0)])) ⟨own, ro⟩) :
    SemCall Tryd.prog 16 (List.toArray [.pointer (some (Addr.mk p 0 none)), .int .i64 q]) ⟨own, ro⟩ post := by
  refine f16_call _ _ _ post ?_
  obtain ⟨hb, n0, n4, hw⟩ := hm
  obtain ⟨hl, c, rfl⟩ := hs
  simp only [f16_sem, add_mk', Option.some.injEq, exists_eq_left', Nat.zero_add, Nat.add_zero, Nat.mul_one]
  have rI : ∀ {X : List Ent} (k : Nat), k < 59 → H.rd ⟨own ++ X, ro⟩ (Addr.mk p k none) (.int .i64 (gI m k)) := fun k hk => rd_gI ⟨some p, ints m, c⟩ (List.mem_append_left _ (hL _ (by simp))) rfl rfl (by omega)
  have rI0 : ∀ (k : Nat), k < 59 → H.rd ⟨own, ro⟩ (Addr.mk p k none) (.int .i64 (gI m k)) := fun k hk => rd_gI ⟨some p, ints m, c⟩ (hL _ (by simp)) rfl rfl (by omega)
  refine ⟨_, rI0 0 (by omega), ⟨by omega, by omega⟩, within_i (fun hx => ⟨_, rfl, VIf_nb (fun _ => ?_) (nomatch ·)⟩) (fun x1 x2 => ⟨_, rfl, VIf_nb (nomatch ·) (fun _ => ?_)⟩)⟩
  · rw [if_neg hx, if_neg hx] at hk; exact ret hk
  rw [if_pos ⟨x1, x2⟩, if_pos ⟨x1, x2⟩] at hk
  have w1 : (gI m 37).toNat ≤ 1 := by omega
  have fin : ∀ {Q : H → Prop} r c', Q ⟨own ++ [⟨some r, ints (cHalf m (gI m 37)), c'⟩], ro⟩ → H.wr ⟨own ++ [⟨some r, [.int .i64 0, .int .i64 0, .int .i64 0, .int .i64 0, .int .i64 0, .int .i64 0, .int .i64 0, .int .i64 0, .int .i64 0], c'⟩], ro⟩ (Addr.mk r 0 none) (ints (cHalf m (gI m 37))) Q := fun r c' gi =>
    wro own ⟨some r, _, c'⟩ [] (allOne_ints _) rfl rfl (by simp [cHalf]) gi
  refine ⟨_, rI0 37 (by omega), by omega, by omega, _, rI0 _ (by omega), _, rI0 _ (by omega), _, rI0 _ (by omega), _, rI0 _ (by omega), _, rI0 _ (by omega), _, rI0 _ (by omega), _, rI0 _ (by omega), _, rI0 _ (by omega), _, rI0 _ (by omega), fun r _ => ⟨rfl, rfl, fin r _ ?_⟩⟩
  have rH : ∀ (k : Nat), k < 9 → H.rd ⟨own ++ [⟨some r, ints (cHalf m (gI m 37)), 9⟩], ro⟩ (Addr.mk r k none) (.int .i64 (gI m (1 + (gI m 37).toNat * 9 + k))) := fun k hk => by
    rw [← cHalf_get m (gI m 37) k hk]
    exact rd_gI ⟨some r, ints (cHalf m (gI m 37)), 9⟩ (by simp) rfl rfl (by rw [cHalf_len]; exact hk)
  refine ⟨by omega, by omega, _, rH (1 + q.toNat) (by omega), by omega, by omega, _, rH (5 + q.toNat) (by omega), ?_⟩
  refine ⟨⟨own, ro⟩, Gh.drop (by simp), ?_⟩
  rw [show 1 + (gI m 37).toNat * 9 + (1 + q.toNat) = 2 + (gI m 37).toNat * 9 + q.toNat by omega, show 1 + (gI m 37).toNat * 9 + (5 + q.toNat) = 6 + (gI m 37).toNat * 9 + q.toNat by omega]
  exact hk
end Go.Proofs.YtockhbbpcbcenaaDoor
