import Derived.Test.YtockhbbpcbcenaaDoorCb
namespace Go.Proofs.YtockhbbpcbcenaaDoor
open Go.Eng
set_option maxRecDepth 20000
/-- what one hand asks, added -/
def combOne (m s : List Int) (q : Nat) : List Int :=
  if gI m (40 + q * 2) = gI s (1 + q) + 1 then splI (splI (splI s (5 + q) [gI s 0]) 0 [gI s 0 + gI m (39 + q * 2)]) (1 + q) [gI m (40 + q * 2)] else s
def combN (m s : List Int) : Nat → List Int
  | 0 => s
  | k + 1 => combOne m (combN m s k) k
theorem combOne_len {m s : List Int} {q : Nat} (hs : s.length = 9) (hq : q < 4) : (combOne m s q).length = 9 := by
  unfold combOne
  split
  · have h1 : (splI s (5 + q) [gI s 0]).length = 9 := by rw [splI_length (by simp; omega)]; exact hs
    have h2 : (splI (splI s (5 + q) [gI s 0]) 0 [gI s 0 + gI m (39 + q * 2)]).length = 9 := by rw [splI_length (by simp; omega)]; exact h1
    rw [splI_length (by simp; omega)]; exact h2
  · exact hs
theorem combN_len {m s : List Int} (hs : s.length = 9) : ∀ k, k ≤ 4 → (combN m s k).length = 9
  | 0, _ => hs
  | k + 1, h => combOne_len (combN_len hs k (by omega)) (by omega)
theorem combOne_get {m s : List Int} {q : Nat} (hs : s.length = 9) (hq : q < 4) (j : Nat) : gI (combOne m s q) j =
    if gI m (40 + q * 2) = gI s (1 + q) + 1 then (if j = 1 + q then gI m (40 + q * 2) else if j = 0 then gI s 0 + gI m (39 + q * 2) else if j = 5 + q then gI s 0 else gI s j) else gI s j := by
  unfold combOne
  split
  · have h1 : (splI s (5 + q) [gI s 0]).length = 9 := by rw [splI_length (by simp; omega)]; exact hs
    have h2 : (splI (splI s (5 + q) [gI s 0]) 0 [gI s 0 + gI m (39 + q * 2)]).length = 9 := by rw [splI_length (by simp; omega)]; exact h1
    rw [gI_spl (by simp; omega), gI_spl (by simp; omega), gI_spl (by simp; omega)]
    simp only [List.length_cons, List.length_nil]
    have e : ∀ (x : Int) (k : Nat), k = 0 → gI [x] k = x := fun x k hk => by subst hk; rfl
    by_cases j1 : j = 1 + q
    · rw [if_pos (by omega), if_pos j1, e _ _ (by omega)]
    · rw [if_neg (by omega), if_neg j1]
      by_cases j0 : j = 0
      · rw [if_pos (by omega), if_pos j0, e _ _ (by omega)]
      · rw [if_neg (by omega), if_neg j0]
        by_cases j5 : j = 5 + q
        · rw [if_pos (by omega), if_pos j5, e _ _ (by omega)]
        · rw [if_neg (by omega), if_neg j5]
  · rfl
/-- what combine does -/
def combAll (m : List Int) : List Int := splI m (1 + (1 - gI m 37).toNat * 9) (combN m (cHalf m (gI m 37)) 4)
theorem comb_combine_c {p : Nat} {m : List Int} {own : List Ent} {ro : Addr → Option Value} {post : Value → H → Prop} {c : Nat} (hown : own = [⟨some p, ints m, c⟩]) (hl : m.length = 59) (hm : COk m)
    (hb9 : ∀ k j, k ≤ 4 → -1000000000 ≤ gI (combN m (cHalf m (gI m 37)) k) j ∧ gI (combN m (cHalf m (gI m 37)) k) j ≤ 1000000000)
    (hk : post (.tuple (List.toArray [])) ⟨[⟨some p, ints (combAll m), c⟩], ro⟩) :
    SemCall Tryd.prog 27 (List.toArray [.pointer (some (Addr.mk p 0 none))]) ⟨own, ro⟩ post := by
  subst hown
  refine f27_call _ _ post ?_
  obtain ⟨hb, n0, n4, hw⟩ := hm
  simp only [f27_sem, f27_J2, f27_L1, add_mk', Option.some.injEq, exists_eq_left', Nat.zero_add, Nat.add_zero, Nat.mul_one]
  have rI : ∀ {X : List Ent} (k : Nat), k < 59 → H.rd ⟨[⟨some p, ints m, c⟩] ++ X, ro⟩ (Addr.mk p k none) (.int .i64 (gI m k)) := fun k hk => rd_gI ⟨some p, ints m, c⟩ (by simp) rfl rfl (by omega)
  have rI0 : ∀ (k : Nat), k < 59 → H.rd ⟨[⟨some p, ints m, c⟩], ro⟩ (Addr.mk p k none) (.int .i64 (gI m k)) := fun k hk => rd_gI ⟨some p, ints m, c⟩ (by simp) rfl rfl (by omega)
  have w1 : (gI m 37).toNat ≤ 1 := by omega
  have fin : ∀ {Q : H → Prop} r c', Q ⟨[⟨some p, ints m, c⟩, ⟨some r, ints (cHalf m (gI m 37)), c'⟩], ro⟩ → H.wr ⟨[⟨some p, ints m, c⟩] ++ [⟨some r, [.int .i64 0, .int .i64 0, .int .i64 0, .int .i64 0, .int .i64 0, .int .i64 0, .int .i64 0, .int .i64 0, .int .i64 0], c'⟩], ro⟩ (Addr.mk r 0 none) (ints (cHalf m (gI m 37))) Q := fun r c' gi =>
    wro [⟨some p, ints m, c⟩] ⟨some r, _, c'⟩ [] (allOne_ints _) rfl rfl (by simp [cHalf]) gi
  refine ⟨_, rI0 37 (by omega), by omega, by omega, _, rI0 _ (by omega), _, rI0 _ (by omega), _, rI0 _ (by omega), _, rI0 _ (by omega), _, rI0 _ (by omega), _, rI0 _ (by omega), _, rI0 _ (by omega), _, rI0 _ (by omega), _, rI0 _ (by omega), fun r _ => ⟨rfl, rfl, fin r _ ?_⟩⟩
  have rJ0 : ∀ {s : List Int} (k : Nat), k < 59 → H.rd ⟨[⟨some p, ints m, c⟩, ⟨some r, ints s, 9⟩], ro⟩ (Addr.mk p k none) (.int .i64 (gI m k)) := fun k hk => rd_gI ⟨some p, ints m, c⟩ (by simp) rfl rfl (by omega)
  refine ⟨_, rJ0 39 (by omega), _, rJ0 40 (by omega), _, rJ0 41 (by omega), _, rJ0 42 (by omega), _, rJ0 43 (by omega), _, rJ0 44 (by omega), _, rJ0 45 (by omega), _, rJ0 46 (by omega), ?_⟩
  have hq4 : ∀ (q : Nat), q < 4 → (q = 0 ∨ q = 1 ∨ q = 2 ∨ q = 3) := fun q h => by omega
  refine ⟨fun h => h = ⟨[⟨some p, ints m, c⟩, ⟨some r, ints (combN m (cHalf m (gI m 37)) 4), 9⟩], ro⟩, ⟨fun n i h => ∃ k : Nat, i = k ∧ k ≤ 4 ∧ n = 4 - k ∧ h = ⟨[⟨some p, ints m, c⟩, ⟨some r, ints (combN m (cHalf m (gI m 37)) k), 9⟩], ro⟩, ⟨4, gi ⟨0, rfl, by omega, rfl, rfl⟩⟩, ?_⟩, ?_⟩
  · rintro n _ i h ⟨k, rfl, hk4, rfl, rfl⟩
    refine VIf_dec (fun hi => ?_) (fun hi => gi (by rw [show k = 4 by omega]))
    simp only [Int.toNat_natCast]
    have hk : k < 4 := by omega
    have hsl := combN_len (m := m) (cHalf_len m (gI m 37)) k hk4
    have hb9k := hb9 k
    have hget : ∀ j, gI (combN m (cHalf m (gI m 37)) (k + 1)) j = _ := fun j => combOne_get (m := m) hsl hk j
    generalize hS : combN m (cHalf m (gI m 37)) k = s at hsl hb9k ⊢
    have e1 : combN m (cHalf m (gI m 37)) (k + 1) = combOne m s k := by rw [combN, hS]
    have ba := hb (39 + k * 2)
    have bn := hb (40 + k * 2)
    refine ⟨by omega, by omega, gI m (39 + k * 2), ?_, gI m (40 + k * 2), ?_, ?_⟩
    · rcases hq4 k hk with rfl | rfl | rfl | rfl <;> rfl
    · rcases hq4 k hk with rfl | rfl | rfl | rfl <;> rfl
    intro r2 _
    refine ⟨rfl, rfl, wro [⟨some p, ints m, c⟩, ⟨some r, ints s, 9⟩] ⟨some r2, _, _⟩ [] ⟨rfl, rfl, trivial⟩ rfl rfl (by simp) ?_⟩
    have rA : ∀ {t : List Int} (j : Nat), j < 2 → H.rd ⟨[⟨some p, ints m, c⟩, ⟨some r, ints t, 9⟩] ++ [⟨some r2, [.int .i64 (gI m (39 + k * 2)), .int .i64 (gI m (40 + k * 2))], 2⟩], ro⟩ (Addr.mk r2 j none) (.int .i64 (gI [gI m (39 + k * 2), gI m (40 + k * 2)] j)) := fun j hj => rd_gI (m := [gI m (39 + k * 2), gI m (40 + k * 2)]) ⟨some r2, _, _⟩ (List.mem_append_right _ (.head _)) rfl rfl (by simpa using hj)
    have rS : ∀ {t : List Int} (j : Nat), t.length = 9 → j < 9 → H.rd ⟨[⟨some p, ints m, c⟩, ⟨some r, ints t, 9⟩] ++ [⟨some r2, [.int .i64 (gI m (39 + k * 2)), .int .i64 (gI m (40 + k * 2))], 2⟩], ro⟩ (Addr.mk r j none) (.int .i64 (gI t j)) := fun j ht hj => rd_gI ⟨some r, _, 9⟩ (.tail _ (.head _)) rfl rfl (by omega)
    have b0 := hb9k 0 (by omega)
    have b1 := hb9k (1 + k) (by omega)
    have l1 : (splI s (5 + k) [gI s 0]).length = 9 := by rw [splI_length (by simp; omega)]; exact hsl
    have l2 : (splI (splI s (5 + k) [gI s 0]) 0 [gI s 0 + gI m (39 + k * 2)]).length = 9 := by rw [splI_length (by simp; omega)]; exact l1
    have g0 : gI (splI s (5 + k) [gI s 0]) 0 = gI s 0 := by rw [gI_spl (by simp; omega), if_neg (by omega)]
    refine ⟨_, rA 1 (by omega), by omega, by omega, _, rS (1 + k) hsl (by omega), ⟨by omega, by omega⟩, VIf_eq (fun he => ?_) (fun he => ?_)⟩
    · have he : gI m (40 + k * 2) = gI s (1 + k) + 1 := he
      refine ⟨_, rS 0 hsl (by omega), by omega, by omega, ?_⟩
      refine wr_gI (vs := [gI s 0]) [⟨some p, ints m, c⟩] ⟨some r, ints s, 9⟩ [_] rfl rfl rfl (by simp; omega) ?_
      refine ⟨_, rS 0 l1 (by omega), _, rA 0 (by omega), ?_⟩
      rw [g0]
      have e0 : gI [gI m (39 + k * 2), gI m (40 + k * 2)] 0 = gI m (39 + k * 2) := rfl
      rw [e0]
      refine ⟨⟨by omega, by omega⟩, wr_gI (vs := [gI s 0 + gI m (39 + k * 2)]) [⟨some p, ints m, c⟩] ⟨some r, ints (splI s (5 + k) [gI s 0]), 9⟩ [_] rfl rfl rfl (by simp; omega) ?_⟩
      refine ⟨_, rA 1 (by omega), by omega, by omega, ?_⟩
      refine wr_gI (vs := [gI m (40 + k * 2)]) [⟨some p, ints m, c⟩] ⟨some r, ints (splI (splI s (5 + k) [gI s 0]) 0 [gI s 0 + gI m (39 + k * 2)]), 9⟩ [_] rfl rfl rfl (by simp; omega) ?_
      refine ⟨⟨by omega, by omega⟩, 4 - (k + 1), by omega, _, Gh.drop (own' := [⟨some p, ints m, c⟩, ⟨some r, ints (splI (splI (splI s (5 + k) [gI s 0]) 0 [gI s 0 + gI m (39 + k * 2)]) (1 + k) [gI m (40 + k * 2)]), 9⟩]) (by simp), k + 1, by omega, by omega, rfl, ?_⟩
      rw [e1, combOne, if_pos he]
    · have he : ¬ gI m (40 + k * 2) = gI s (1 + k) + 1 := he
      refine ⟨⟨by omega, by omega⟩, 4 - (k + 1), by omega, _, Gh.drop (own' := [⟨some p, ints m, c⟩, ⟨some r, ints s, 9⟩]) (by simp), k + 1, by omega, by omega, rfl, ?_⟩
      rw [e1, combOne, if_neg he]
  rintro _ h rfl
  have hsl := combN_len (m := m) (cHalf_len m (gI m 37)) 4 (by omega)
  have hall : combAll m = splI m (1 + (1 - gI m 37).toNat * 9) (combN m (cHalf m (gI m 37)) 4) := rfl
  generalize combN m (cHalf m (gI m 37)) 4 = s at hsl hall ⊢
  have rS : ∀ (j : Nat), j < 9 → H.rd ⟨[⟨some p, ints m, c⟩, ⟨some r, ints s, 9⟩], ro⟩ (Addr.mk r j none) (.int .i64 (gI s j)) := fun j hj => rd_gI ⟨some r, _, 9⟩ (.tail _ (.head _)) rfl rfl (by omega)
  refine ⟨_, rJ0 37 (by omega), ⟨by omega, by omega⟩, _, rS 0 (by omega), _, rS 1 (by omega), _, rS 2 (by omega), _, rS 3 (by omega), _, rS 4 (by omega), _, rS 5 (by omega), _, rS 6 (by omega), _, rS 7 (by omega), _, rS 8 (by omega), by omega, by omega, rfl, rfl, ?_⟩
  have hs9 : s = [gI s 0, gI s 1, gI s 2, gI s 3, gI s 4, gI s 5, gI s 6, gI s 7, gI s 8] := by
    match s, hsl with
    | [a, b, c, d, e, f, g, h, i], _ => rfl
  refine wr_gI (vs := [gI s 0, gI s 1, gI s 2, gI s 3, gI s 4, gI s 5, gI s 6, gI s 7, gI s 8]) [] ⟨some p, ints m, c⟩ [_] rfl rfl rfl (by simp; omega) ?_
  rw [← hs9, ← hall]
  exact ⟨_, Gh.drop (own' := [⟨some p, ints (combAll m), c⟩]) (by simp), hk⟩
/-- what Step does -/
def combStep (m : List Int) (q : Int) : List Int × Bool × Int × Int :=
  if ¬ (0 ≤ q ∧ q ≤ gI m 0 - 1) then (m, false, 0, 1)
  else if gI m (47 + q.toNat * 3) = 0 then (m, false, 0, 7)
  else if gI m (47 + q.toNat * 3) = 1 then (splI (splI m (39 + q.toNat * 2) [gI m (47 + q.toNat * 3 + 1), gI m (47 + q.toNat * 3 + 2)]) (47 + q.toNat * 3) [gI m (47 + q.toNat * 3) + 1], false, 0, 0)
  else if gI m (47 + q.toNat * 3) = 2 then (if gI m 38 = 0 then (splI (splI m 38 [q + 1]) (47 + q.toNat * 3) [5], false, 0, 0) else (splI m (47 + q.toNat * 3) [gI m (47 + q.toNat * 3) + 1], false, 0, 0))
  else if gI m (47 + q.toNat * 3) = 3 then (splI m (47 + q.toNat * 3) [if gI m 38 ≠ 0 then 3 else gI m (47 + q.toNat * 3) + 1], false, 0, 0)
  else if gI m (47 + q.toNat * 3) = 4 then (if gI m (1 + (gI m 37).toNat * 9 + 1 + q.toNat) = gI m (47 + q.toNat * 3 + 2) then (splI m (47 + q.toNat * 3) [0, 0, 0], true, gI m (1 + (gI m 37).toNat * 9 + 5 + q.toNat), 0) else (splI m (47 + q.toNat * 3) [2], false, 0, 0))
  else if gI m (47 + q.toNat * 3) = 5 then (splI (combAll m) (47 + q.toNat * 3) [gI m (47 + q.toNat * 3) + 1], false, 0, 0)
  else if gI m (47 + q.toNat * 3) = 6 then (splI (splI m (19 + (1 - gI m 37).toNat * 9) (cHalf m (1 - gI m 37))) (47 + q.toNat * 3) [gI m (47 + q.toNat * 3) + 1], false, 0, 0)
  else if gI m (47 + q.toNat * 3) = 7 then (splI (splI m 37 [1 - gI m 37]) (47 + q.toNat * 3) [gI m (47 + q.toNat * 3) + 1], false, 0, 0)
  else if gI m (47 + q.toNat * 3) = 8 then (splI (splI m 38 [0]) (47 + q.toNat * 3) [4], false, 0, 0)
  else (splI m (47 + q.toNat * 3) [gI m (47 + q.toNat * 3) + 1], false, 0, 0)
theorem combAll_len {m : List Int} (hl : m.length = 59) (hw : gI m 37 = 0 ∨ gI m 37 = 1) : (combAll m).length = 59 := by
  have := combN_len (m := m) (cHalf_len m (gI m 37)) 4 (by omega)
  rw [combAll, splI_length (by omega)]; exact hl
theorem comb_step_c {p : Nat} {m : List Int} {q : Int} {L own : List Ent} {ro : Addr → Option Value} {post : Value → H → Prop} (A C : List Ent) (hown : own = A ++ (L ++ C)) (hs : CombAt p m L) (hm : COk m)
    (hb9 : ∀ k j, k ≤ 4 → -1000000000 ≤ gI (combN m (cHalf m (gI m 37)) k) j ∧ gI (combN m (cHalf m (gI m 37)) k) j ≤ 1000000000)
    (hk : ∀ L', CombAt p (combStep m q).1 L' → post (.tuple (List.toArray [.bool (combStep m q).2.1, .int .i64 (combStep m q).2.2.1, errV (eno 63 (combStep m q).2.2.2)])) ⟨A ++ (L' ++ C), ro⟩) :
    SemCall Tryd.prog 10 (List.toArray [.pointer (some (Addr.mk p 0 none)), .int .i64 q]) ⟨own, ro⟩ post := by
  refine lift A C hown (Q := fun L' => CombAt p (combStep m q).1 L') ?_ hk
  clear hk hown post
  intro post hk
  refine f10_call _ _ _ post ?_
  have hm' := hm
  obtain ⟨hb, n0, n4, hw⟩ := hm
  obtain ⟨hl, c, rfl⟩ := hs
  simp only [f10_sem, add_mk', Option.some.injEq, exists_eq_left', Nat.zero_add, Nat.add_zero, Nat.mul_one]
  have rI : ∀ (k : Nat), k < 59 → H.rd ⟨[⟨some p, ints m, c⟩], ro⟩ (Addr.mk p k none) (.int .i64 (gI m k)) := fun k hk => rd_gI ⟨some p, ints m, c⟩ (by simp) rfl rfl (by omega)
  refine ⟨_, rI 0 (by omega), ⟨by omega, by omega⟩, within_i (fun hx => ⟨_, rfl, VIf_nb (fun _ => ?_) (nomatch ·)⟩) (fun x1 x2 => ⟨_, rfl, VIf_nb (nomatch ·) (fun _ => ?_)⟩)⟩
  · rw [combStep, if_pos hx] at hk
    exact ret (hk _ ⟨hl, c, rfl⟩)
  rw [combStep, if_neg (not_not_intro ⟨x1, x2⟩)] at hk
  have bo := hb (47 + q.toNat * 3)
  refine ⟨by omega, by omega, _, rI (47 + q.toNat * 3) (by omega), ⟨by omega, by omega⟩, _, rI (47 + q.toNat * 3) (by omega), VIf_eq (fun h0 => ?_) (fun h0 => ?_)⟩
  · rw [if_pos h0] at hk
    exact ret (hk _ ⟨hl, c, rfl⟩)
  rw [if_neg h0] at hk
  -- the line, when all else is done
  refine ⟨fun nx h => ∃ m', m'.length = 59 ∧ h = ⟨[⟨some p, ints m', c⟩], ro⟩ ∧ ∀ L', CombAt p (splI m' (47 + q.toNat * 3) [nx]) L' → post (.tuple (List.toArray [.bool false, .int .i64 0, errV (eno 63 0)])) ⟨L', ro⟩, ?_, ?_⟩
  · refine VIf_eq (fun h1 => ?_) (fun h1 => VIf_eq (fun h2 => ?_) (fun h2 => VIf_eq (fun h3 => ?_) (fun h3 => VIf_eq (fun h4 => ?_) (fun h4 => VIf_eq (fun h5 => ?_) (fun h5 => VIf_eq (fun h6 => ?_) (fun h6 => VIf_eq (fun h7 => ?_) (fun h7 => VIf_eq (fun h8 => ?_) (fun h8 => ?_))))))))
    · rw [if_pos h1] at hk
      refine ⟨_, rI (47 + q.toNat * 3 + 1) (by omega), _, rI (47 + q.toNat * 3 + 2) (by omega), by omega, by omega, rfl, rfl, ?_⟩
      exact wr_gI (vs := [gI m (47 + q.toNat * 3 + 1), gI m (47 + q.toNat * 3 + 2)]) [] ⟨some p, ints m, c⟩ [] rfl rfl rfl (by simp; omega) (gi ⟨_, by rw [splI_length (by simp; omega)]; exact hl, rfl, fun L' h => hk L' h⟩)
    · rw [if_neg h1, if_pos h2] at hk
      refine ⟨⟨by omega, by omega⟩, cas_c [] ⟨some p, ints m, c⟩ [] rfl rfl (x := gI m 38) (by rw [ints_get, gI, List.getElem?_eq_getElem (by omega)]; rfl) (fun hz => ⟨_, rfl, VIf_b (fun _ => ?_) (nomatch ·)⟩) (fun hz => ⟨_, rfl, VIf_b (nomatch ·) (fun _ => ?_)⟩)⟩
      · rw [if_pos hz] at hk
        refine gi ⟨splI m 38 [q + 1], by rw [splI_length (by simp; omega)]; exact hl, ?_, fun L' h => hk L' h⟩
        have := ints_splI m 38 [q + 1]
        rw [← this]; rfl
      · rw [if_neg hz] at hk
        exact gi ⟨m, hl, rfl, fun L' h => hk L' h⟩
    · rw [if_neg h1, if_neg h2, if_pos h3] at hk
      refine ⟨_, rI 38 (by omega), VIf_ne (fun hz => gi ⟨m, hl, rfl, fun L' h => ?_⟩) (fun hz => gi ⟨m, hl, rfl, fun L' h => ?_⟩)⟩
      · rw [if_pos hz] at hk; exact hk L' h
      · rw [if_neg (not_not_intro hz)] at hk; exact hk L' h
    · rw [if_neg h1, if_neg h2, if_neg h3, if_pos h4] at hk
      refine ⟨_, rI 37 (by omega), by omega, by omega, by omega, by omega, _, rI (1 + (gI m 37).toNat * 9 + 1 + q.toNat) (by omega), _, rI (47 + q.toNat * 3 + 2) (by omega), VIf_eq (fun hz => ?_) (fun hz => ?_)⟩
      · rw [if_pos hz] at hk
        refine ⟨rfl, rfl, wr_gI (vs := [0, 0, 0]) [] ⟨some p, ints m, c⟩ [] rfl rfl rfl (by simp; omega) ?_⟩
        have l2 : (splI m (47 + q.toNat * 3) [0, 0, 0]).length = 59 := by rw [splI_length (by simp; omega)]; exact hl
        have g6 : gI (splI m (47 + q.toNat * 3) [0, 0, 0]) (1 + (gI m 37).toNat * 9 + 5 + q.toNat) = gI m (1 + (gI m 37).toNat * 9 + 5 + q.toNat) := by rw [gI_spl (by simp; omega), if_neg (by simp; omega)]
        refine ⟨by omega, by omega, gI m (1 + (gI m 37).toNat * 9 + 5 + q.toNat), ?_, ret (hk _ ⟨l2, c, rfl⟩)⟩
        have := rd_gI (own := [] ++ [⟨some p, ints (splI m (47 + q.toNat * 3) [0, 0, 0]), c⟩]) (ro := ro) (b := p) (o := 1 + (gI m 37).toNat * 9 + 5 + q.toNat) ⟨some p, ints (splI m (47 + q.toNat * 3) [0, 0, 0]), c⟩ (by simp) rfl rfl (by omega)
        rw [g6] at this
        exact this
      · rw [if_neg hz] at hk
        exact gi ⟨m, hl, rfl, fun L' h => hk L' h⟩
    · rw [if_neg h1, if_neg h2, if_neg h3, if_neg h4, if_pos h5] at hk
      refine comb_combine_c rfl hl hm' hb9 ⟨rfl, gi ⟨combAll m, combAll_len hl hw, rfl, fun L' h => hk L' h⟩⟩
    · rw [if_neg h1, if_neg h2, if_neg h3, if_neg h4, if_neg h5, if_pos h6] at hk
      refine ⟨_, rI 37 (by omega), ⟨by omega, by omega⟩, _, rI 37 (by omega), ⟨by omega, by omega⟩, by omega, by omega, _, rI _ (by omega), _, rI _ (by omega), _, rI _ (by omega), _, rI _ (by omega), _, rI _ (by omega), _, rI _ (by omega), _, rI _ (by omega), _, rI _ (by omega), _, rI _ (by omega), by omega, by omega, rfl, rfl, ?_⟩
      refine wr_gI (vs := cHalf m (1 - gI m 37)) [] ⟨some p, ints m, c⟩ [] rfl rfl rfl (by rw [cHalf_len]; omega) (gi ⟨_, by rw [splI_length (by rw [cHalf_len]; omega)]; exact hl, rfl, fun L' h => hk L' h⟩)
    · rw [if_neg h1, if_neg h2, if_neg h3, if_neg h4, if_neg h5, if_neg h6, if_pos h7] at hk
      refine ⟨_, rI 37 (by omega), ⟨by omega, by omega⟩, wr_gI (vs := [1 - gI m 37]) [] ⟨some p, ints m, c⟩ [] rfl rfl rfl (by simp; omega) (gi ⟨_, by rw [splI_length (by simp; omega)]; exact hl, rfl, fun L' h => hk L' h⟩)⟩
    · rw [if_neg h1, if_neg h2, if_neg h3, if_neg h4, if_neg h5, if_neg h6, if_neg h7, if_pos h8] at hk
      exact wr_gI (vs := [0]) [] ⟨some p, ints m, c⟩ [] rfl rfl rfl (by simp; omega) (gi ⟨_, by rw [splI_length (by simp; omega)]; exact hl, rfl, fun L' h => hk L' h⟩)
    · rw [if_neg h1, if_neg h2, if_neg h3, if_neg h4, if_neg h5, if_neg h6, if_neg h7, if_neg h8] at hk
      exact gi ⟨m, hl, rfl, fun L' h => hk L' h⟩
  rintro _ nx h ⟨m', hl', rfl, hk'⟩
  exact wr_gI (vs := [nx]) [] ⟨some p, ints m', c⟩ [] rfl rfl rfl (by simp; omega) (ret (hk' _ ⟨by rw [splI_length (by simp; omega)]; exact hl', c, rfl⟩))
/-- what Crash does -/
def combCrash (m : List Int) (keep : Bool) : List Int :=
  let m1 := if keep then splI m 19 ((List.range 18).map fun j => gI m (1 + j)) else m
  [gI m1 0] ++ ((List.range 18).map fun j => gI m1 (19 + j)) ++ ((List.range 18).map fun j => gI m1 (19 + j)) ++ [gI m1 37] ++ List.replicate 21 0
theorem comb_crash_c {p : Nat} {m : List Int} {keep : Bool} {L own : List Ent} {ro : Addr → Option Value} {post : Value → H → Prop} (A C : List Ent) (hown : own = A ++ (L ++ C)) (hs : CombAt p m L)
    (hk : ∀ L', CombAt p (combCrash m keep) L' → post (.tuple (List.toArray [])) ⟨A ++ (L' ++ C), ro⟩) :
    SemCall Tryd.prog 12 (List.toArray [.pointer (some (Addr.mk p 0 none)), .bool keep]) ⟨own, ro⟩ post := by
  refine lift A C hown (Q := fun L' => CombAt p (combCrash m keep) L') ?_ hk
  clear hk hown post
  intro post hk
  refine f12_call _ _ _ post ?_
  obtain ⟨hl, c, rfl⟩ := hs
  simp only [f12_sem, f12_J1, add_mk', Option.some.injEq, exists_eq_left', Nat.zero_add, Nat.add_zero, Nat.mul_one]
  have rI : ∀ {m : List Int}, m.length = 59 → ∀ (k : Nat), k < 59 → H.rd ⟨[⟨some p, ints m, c⟩], ro⟩ (Addr.mk p k none) (.int .i64 (gI m k)) := fun hm k hk => rd_gI ⟨some p, ints _, c⟩ (by simp) rfl rfl (by omega)
  refine ⟨fun h => ∃ m1 : List Int, m1 = (if keep then splI m 19 ((List.range 18).map fun j => gI m (1 + j)) else m) ∧ m1.length = 59 ∧ h = ⟨[⟨some p, ints m1, c⟩], ro⟩, VIf_b (fun hkp => ?_) (fun hkp => gi ⟨m, by simp [hkp], hl, rfl⟩), ?_⟩
  · have r := rI hl
    refine ⟨_, r 1 (by omega), _, r 2 (by omega), _, r 3 (by omega), _, r 4 (by omega), _, r 5 (by omega), _, r 6 (by omega), _, r 7 (by omega), _, r 8 (by omega), _, r 9 (by omega), _, r 10 (by omega), _, r 11 (by omega), _, r 12 (by omega), _, r 13 (by omega), _, r 14 (by omega), _, r 15 (by omega), _, r 16 (by omega), _, r 17 (by omega), _, r 18 (by omega), rfl, rfl, ?_⟩
    refine wr_gI (vs := (List.range 18).map fun j => gI m (1 + j)) [] ⟨some p, ints m, c⟩ [] rfl rfl rfl (by simp; omega) (gi ⟨_, by rw [if_pos hkp], by rw [splI_length (by simp; omega)]; exact hl, rfl⟩)
  rintro _ h ⟨m1, hm1, hl1, rfl⟩
  have hcr : combCrash m keep = [gI m1 0] ++ ((List.range 18).map fun j => gI m1 (19 + j)) ++ ((List.range 18).map fun j => gI m1 (19 + j)) ++ [gI m1 37] ++ List.replicate 21 0 := by rw [hm1]; rfl
  have r := rI hl1
  refine ⟨_, r 0 (by omega), _, r 19 (by omega), _, r 20 (by omega), _, r 21 (by omega), _, r 22 (by omega), _, r 23 (by omega), _, r 24 (by omega), _, r 25 (by omega), _, r 26 (by omega), _, r 27 (by omega), _, r 28 (by omega), _, r 29 (by omega), _, r 30 (by omega), _, r 31 (by omega), _, r 32 (by omega), _, r 33 (by omega), _, r 34 (by omega), _, r 35 (by omega), _, r 36 (by omega), ?_⟩
  refine ⟨_, r 19 (by omega), _, r 20 (by omega), _, r 21 (by omega), _, r 22 (by omega), _, r 23 (by omega), _, r 24 (by omega), _, r 25 (by omega), _, r 26 (by omega), _, r 27 (by omega), _, r 28 (by omega), _, r 29 (by omega), _, r 30 (by omega), _, r 31 (by omega), _, r 32 (by omega), _, r 33 (by omega), _, r 34 (by omega), _, r 35 (by omega), _, r 36 (by omega), _, r 37 (by omega), rfl, rfl, ?_⟩
  refine wro [] ⟨some p, ints m1, c⟩ [] (by simp [allOne]; repeat (first | exact rfl | refine ⟨rfl, ?_⟩)) rfl rfl (by simp [hl1]) (ret ?_)
  refine hk _ ⟨by rw [hcr]; simp, c, ?_⟩
  rw [hcr]
  have hd : (ints m1).drop 59 = [] := List.drop_of_length_le (by simp [hl1])
  show [(⟨some p, [] ++ (_ ++ (ints m1).drop 59), c⟩ : Ent)] = _
  rw [hd]
  rfl
end Go.Proofs.YtockhbbpcbcenaaDoor
