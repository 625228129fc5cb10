import Derived.Test.YtiaopgnnibidlaaDoorDi
namespace Go.Proofs.YtiaopgnnibidlaaDoor
open Go.Eng
set_option maxRecDepth 20000
theorem updN_self {α : Type} (f : Nat → α) (q : Nat) : updN f q (f q) = f := by
  funext p
  by_cases h : p = q
  · subst h; exact updN_same _ _ _
  · exact updN_ne h
def TS.setF (t : TS) (k w' a' : Nat) (d' : Bool) : TS := { t with w := updN t.w k w', a := updN t.a k a', d := updN t.d k d' }
theorem forks_set (t : TS) (k w' a' : Nat) (d' : Bool) : t.forks.set k (w', a', d') = (t.setF k w' a' d').forks := by
  unfold TS.forks TS.setF
  rw [rm_set]
  congr 1
  funext j
  by_cases h : j = k
  · subst h; simp [updN_same]
  · simp [updN_ne h]
def tGiv (t : TS) (i k : Nat) : Prop := t.w k = i ∧ t.d k = true ∧ t.a k = i
instance (t : TS) (i k : Nat) : Decidable (tGiv t i k) := inferInstanceAs (Decidable (_ ∧ _ ∧ _))
def tAsk (t : TS) (i k : Nat) : Prop := t.w k ≠ i ∧ t.a k = i
instance (t : TS) (i k : Nat) : Decidable (tAsk t i k) := inferInstanceAs (Decidable (_ ∧ _))
def tEat (t : TS) (i l : Nat) : TS := (({ t with g := updN t.g i 2 } : TS).setF l (t.w l) (t.a l) true).setF i (updN t.w l (t.w l) i) (updN t.a l (t.a l) i) true
def tLine (t : TS) (i l : Nat) : TS × Bool :=
  if t.g i = 2 then (t, false)
  else if tGiv t i l then (t.setF l l (t.a l) false, true)
  else if tGiv t i i then (t.setF i (nxt t.n i) (t.a i) false, true)
  else if t.g i = 0 then (t, false)
  else if t.w l = i ∧ t.w i = i then (tEat t i l, true)
  else if tAsk t i l then (t.setF l (t.w l) l (t.d l), true)
  else if tAsk t i i then (t.setF i (t.w i) (nxt t.n i) (t.d i), true)
  else (t, false)
def tStep (t : TS) (q : Int) : TS × Bool × Int :=
  if ¬ (0 ≤ q ∧ q ≤ (t.n : Int) - 1) then (t, false, 1) else ((tLine t q.toNat (prv t.n q.toNat)).1, (tLine t q.toNat (prv t.n q.toNat)).2, 0)
theorem rd_fork {t : TS} {sf : SV} {ef : Ent} {b : Addr} {own : List Ent} {ro : Addr → Option Value} (he : ef ∈ own) (ho : OwnsSl 3 sf ef (t.forks.flatMap fkV)) (hb : sf.a = some b) {k : Nat} (hk : k < t.n) :
    H.rd ⟨own, ro⟩ (Addr.add (Addr.add (Addr.add b (k * 3)) 0) 0) (.int .i64 (t.w k : Int)) ∧ H.rd ⟨own, ro⟩ (Addr.add (Addr.add (Addr.add b (k * 3)) 1) 0) (.int .i64 (t.a k : Int)) ∧ H.rd ⟨own, ro⟩ (Addr.add (Addr.add (Addr.add b (k * 3)) 2) 0) (.bool (t.d k)) := by
  have hl := ho.rows_len fkV_len (by omega)
  rw [TS.forks, rm_len] at hl
  obtain ⟨b', x, hb', hx, hr⟩ := (RdRows.of_own (h := ⟨own, ro⟩) he ho).row fkV_len (by omega) (i := (k : Int)) (by omega) (by omega)
  rw [hb] at hb'; cases hb'
  rw [TS.forks, Int.toNat_natCast, rm_get _ hk] at hx
  cases hx
  rw [Int.toNat_natCast] at hr
  refine ⟨?_, ?_, ?_⟩
  · rw [Addr.add_zero']; exact hr 0 _ rfl
  · rw [Addr.add_zero']; exact hr 1 _ rfl
  · rw [Addr.add_zero']; exact hr 2 _ rfl
theorem oth0 (n i : Nat) : (i + n - 1 + 2 * 0) % n = prv n i := rfl
theorem oth1 {n i : Nat} (h : 3 ≤ n) : (i + n - 1 + 2 * 1) % n = nxt n i := by
  rw [show i + n - 1 + 2 * 1 = i + 1 + n by omega, Nat.add_mod_right]; rfl
def tSide (i l s : Nat) : Nat := if s = 0 then l else i
theorem tab_step_c {p : Nat} {t : TS} {q : Int} {L own : List Ent} {ro : Addr → Option Value} {post : Value → H → Prop} (A C : List Ent) (hown : own = A ++ (L ++ C)) (hs : TabAt p t L)
    (hk : ∀ L', TabAt p (tStep t q).1 L' → post (.tuple (List.toArray [.bool (tStep t q).2.1, errV (eno 61 (tStep t q).2.2)])) ⟨A ++ (L' ++ C), ro⟩) : SemCall Tryd.prog 12 (List.toArray [.pointer (some (Addr.mk p 0 none)), .int .i64 q]) ⟨own, ro⟩ post := by
  refine lift A C hown (Q := fun L' => TabAt p (tStep t q).1 L') ?_ hk
  clear hk hown post
  intro post hk
  obtain ⟨h3, h6, g, c, c1, sf, ef, rfl, ho⟩ := hs
  refine f12_call _ _ _ post ?_
  have hl := ho.rows_len fkV_len (by omega)
  rw [TS.forks, rm_len] at hl
  obtain ⟨b, hb⟩ : ∃ b, sf.a = some b := by
    rcases ho with ⟨_, h2, _⟩ | ⟨b, off, h1, _⟩
    · omega
    · exact ⟨_, h1⟩
  have rT : ∀ {gs : List Int} {ef : Ent} {K : SV → Prop}, K ⟨some (Addr.mk g 0 none), t.n, t.n⟩ → ∃ x : SV, H.rd ⟨tabE p g t.n gs c c1 sf ef, ro⟩ (Addr.add (Addr.add (Addr.mk p 0 none) 0) 0) (.slice x.a x.len x.cap) ∧ K x := fun hK => by
    refine ⟨_, ?_, hK⟩
    rw [add_mk', add_mk']; exact rdo _ (.tail _ (.head _)) rfl rfl
  refine tab_is_c h3 h6 (.tail _ (.head _)) ⟨_, rfl, VIf_nb (fun hx => ?_) (fun hx => ?_)⟩
  · have hx := of_decide_eq_false hx
    rw [tStep, if_pos hx] at hk
    exact ret (hk _ ⟨h3, h6, g, c, c1, sf, ef, rfl, ho⟩)
  have hx := of_decide_eq_true hx
  rw [tStep, if_neg (not_not_intro hx)] at hk
  obtain ⟨i, rfl⟩ : ∃ i : Nat, q = (i : Int) := ⟨q.toNat, by omega⟩
  simp only [Int.toNat_natCast] at hk
  have hi : i < t.n := by omega
  generalize hl' : prv t.n i = l at hk
  have hln : l < t.n := by rw [← hl']; exact prv_lt h3
  have hsd : ∀ s, tSide i l s < t.n := fun s => by unfold tSide; split <;> assumption
  have rg : ∀ {ef : Ent}, H.rd ⟨tabE p g t.n (rm t.n t.g) c c1 sf ef, ro⟩ (Addr.add (Addr.add (Addr.mk g 0 none) ((i : Int).toNat * 1)) 0) (.int .i64 (t.g i)) := by
    intro ef
    rw [add_mk', add_mk', show 0 + (i : Int).toNat * 1 + 0 = i by simp]
    exact rd_ints _ (.head _) rfl rfl (rm_get _ hi)
  refine ⟨_, rfl, rT ⟨_, rfl, by omega, by dsimp only; omega, t.g i, rg, VIf_eq (fun h2 => ?_) (fun h2 => ?_)⟩⟩
  · rw [tLine, if_pos h2] at hk
    exact ret (hk _ ⟨h3, h6, g, c, c1, sf, ef, rfl, ho⟩)
  rw [tLine, if_neg h2] at hk
  refine tab_sides_c h3 h6 hi (.tail _ (.head _)) hb hl ⟨_, _, rfl, ?_⟩
  rw [hl']
  have hptr : ∀ {s : Nat}, s < 2 → ([Value.pointer (some (Addr.add b (l * 3))), Value.pointer (some (Addr.add b (i * 3)))])[(s : Int).toNat * 1 + 0]? = some (Value.pointer (some (Addr.add b (tSide i l s * 3)))) := fun {s} hs => by
    obtain rfl | rfl : s = 0 ∨ s = 1 := by omega
    · rfl
    · rfl
  have hoth : ∀ s, s < 2 → (i + t.n - 1 + 2 * s) % t.n = if s = 0 then l else nxt t.n i := fun s hs => by
    obtain rfl | rfl : s = 0 ∨ s = 1 := by omega
    · rw [oth0, hl']; rfl
    · rw [oth1 h3]; rfl
  -- giving
  refine ⟨fun both h => h = ⟨tabE p g t.n (rm t.n t.g) c c1 sf ef, ro⟩ ∧ both = decide (t.w l = i ∧ t.w i = i) ∧ ¬ tGiv t i l ∧ ¬ tGiv t i i, ⟨fun m both s h => ∃ s' : Nat, s = (s' : Int) ∧ s' ≤ 2 ∧ m = 2 - s' ∧ h = ⟨tabE p g t.n (rm t.n t.g) c c1 sf ef, ro⟩ ∧ both = decide (∀ r, r < s' → t.w (tSide i l r) = i) ∧ ∀ r, r < s' → ¬ tGiv t i (tSide i l r), ⟨2, gi ⟨0, rfl, by omega, rfl, rfl, by simp, by simp⟩⟩, ?_⟩, ?_⟩
  · rintro m _ both _ h ⟨s, rfl, hs2, rfl, rfl, rfl, hng⟩
    refine VIf_dec (fun hlt => ?_) (fun hlt => ?_)
    · have hs' : s < 2 := by omega
      obtain ⟨f1, f2, f3⟩ := rd_fork (own := tabE p g t.n (rm t.n t.g) c c1 sf ef) (ro := ro) (.tail _ (.tail _ (.head _))) ho hb (hsd s)
      refine ⟨by omega, by omega, _, hptr hs', ?_⟩
      refine join_b (h := ⟨tabE p g t.n (rm t.n t.g) c c1 sf ef, ro⟩) (decide (tGiv t i (tSide i l s))) ⟨_, rfl, _, f1, VIf_eq (fun w1 => ⟨_, rfl, _, f3, VIf_b (fun d1 => ⟨_, rfl, _, f2, gi ⟨rfl, ?_⟩⟩) (fun d1 => gi ⟨rfl, ?_⟩)⟩) (fun w1 => gi ⟨rfl, ?_⟩)⟩ (VIf_dec (fun hg => ?_) (fun hg => ?_))
      · by_cases ha : t.a (tSide i l s) = i
        · rw [decide_eq_true (show tGiv t i (tSide i l s) from ⟨by omega, d1, ha⟩)]; simp [ha]
        · rw [decide_eq_false (show ¬ tGiv t i (tSide i l s) from fun h => ha h.2.2)]
          exact beq_eq_false_iff_ne.2 (by omega)
      · exact (decide_eq_false (show ¬ tGiv t i (tSide i l s) from fun h => by rw [h.2.1] at d1; cases d1)).symm
      · exact (decide_eq_false (show ¬ tGiv t i (tSide i l s) from fun h => w1 (by rw [h.1]))).symm
      · refine tab_other_c h3 h6 hi (by omega) (.tail _ (.head _)) ⟨_, rfl, _, rfl, ?_⟩
        have hx0 : t.forks[tSide i l s]? = some (t.w (tSide i l s), t.a (tSide i l s), t.d (tSide i l s)) := rm_get _ (hsd s)
        refine wr_row fkV_len (by omega) (x' := ((i + t.n - 1 + 2 * s) % t.n, t.a (tSide i l s), t.d (tSide i l s))) [_, _] ef [] rfl ho hx0 hb (by simp) rfl ⟨rfl, trivial⟩ (fun e1 o1 _ => ?_)
        rw [forks_set] at o1
        refine ⟨_, rfl, ?_⟩
        have hx1 : (t.setF (tSide i l s) ((i + t.n - 1 + 2 * s) % t.n) (t.a (tSide i l s)) (t.d (tSide i l s))).forks[tSide i l s]? = some ((i + t.n - 1 + 2 * s) % t.n, t.a (tSide i l s), t.d (tSide i l s)) := by
          show (rm t.n _)[tSide i l s]? = _
          rw [rm_get _ (hsd s)]; simp [TS.setF, updN_same]
        refine wr_row fkV_len (by omega) (x' := ((i + t.n - 1 + 2 * s) % t.n, t.a (tSide i l s), false)) [_, _] e1 [] rfl o1 hx1 hb (by simp) rfl ⟨rfl, trivial⟩ (fun e2 o2 _ => ret ?_)
        rw [← forks_set, List.set_set, forks_set, hoth s hs'] at o2
        obtain rfl | rfl : s = 0 ∨ s = 1 := by omega
        · rw [if_pos (show tGiv t i l from hg)] at hk
          exact hk _ ⟨h3, h6, g, c, c1, sf, e2, rfl, o2⟩
        · rw [if_neg (show ¬ tGiv t i l from hng 0 (by omega)), if_pos (show tGiv t i i from hg)] at hk
          exact hk _ ⟨h3, h6, g, c, c1, sf, e2, rfl, o2⟩
      · have e3 : decide (∀ r, r < s + 1 → t.w (tSide i l r) = i) = (decide (∀ r, r < s → t.w (tSide i l r) = i) && decide (t.w (tSide i l s) = i)) := by
          rw [Bool.eq_iff_iff]
          simp only [decide_eq_true_eq, Bool.and_eq_true]
          exact ⟨fun h => ⟨fun r hr => h r (by omega), h s (by omega)⟩, fun h r hr => by
            by_cases e : r = s
            · subst e; exact h.2
            · exact h.1 r (by omega)⟩
        refine join_b (h := ⟨tabE p g t.n (rm t.n t.g) c c1 sf ef, ro⟩) (decide (∀ r, r < s + 1 → t.w (tSide i l r) = i)) (VIf_dec (fun hb1 => ⟨_, rfl, _, f1, gi ⟨rfl, ?_⟩⟩) (fun hb1 => gi ⟨rfl, ?_⟩)) ⟨⟨by omega, by omega⟩, _, ?_, gi ⟨s + 1, by omega, by omega, rfl, rfl, rfl, fun r hr => ?_⟩⟩
        · rw [e3, decide_eq_true hb1, Bool.true_and]
          by_cases ha : t.w (tSide i l s) = i
          · rw [decide_eq_true ha]; simp [ha]
          · rw [decide_eq_false ha]; exact beq_eq_false_iff_ne.2 (by omega)
        · rw [e3, decide_eq_false hb1]; rfl
        · omega
        · by_cases e : r = s
          · subst e; exact hg
          · exact hng r (by omega)
    · obtain rfl : s = 2 := by omega
      refine gi ⟨rfl, ?_, hng 0 (by omega), hng 1 (by omega)⟩
      rw [Bool.eq_iff_iff]
      simp only [decide_eq_true_eq]
      exact ⟨fun h => ⟨h 0 (by omega), h 1 (by omega)⟩, fun h r hr => by
        obtain rfl | rfl : r = 0 ∨ r = 1 := by omega
        · exact h.1
        · exact h.2⟩
  rintro _ both h ⟨rfl, rfl, hng0, hng1⟩
  rw [if_neg hng0, if_neg hng1] at hk
  refine ⟨_, rfl, rT ⟨_, rfl, by omega, by dsimp only; omega, t.g i, rg, VIf_eq (fun h0 => ?_) (fun h0 => ?_)⟩⟩
  · rw [if_pos h0] at hk
    exact ret (hk _ ⟨h3, h6, g, c, c1, sf, ef, rfl, ho⟩)
  rw [if_neg h0] at hk
  refine VIf_dec (fun hbo => ?_) (fun hbo => ?_)
  · rw [if_pos hbo] at hk
    refine ⟨_, rfl, rT ⟨_, rfl, by omega, by dsimp only; omega, ?_⟩⟩
    rw [add_mk', show 0 + (i : Int).toNat * 1 = i by simp]
    refine wr_ints [] _ _ rfl rfl rfl (by rw [rm_len]; omega) ?_
    rw [rm_set]
    refine tab_sides_c h3 h6 hi (.tail _ (.head _)) hb hl ⟨_, _, rfl, ?_⟩
    rw [hl']
    refine ⟨fun h => ∃ ef, h = ⟨tabE p g t.n (rm t.n (updN t.g i 2)) c c1 sf ef, ro⟩ ∧ OwnsSl 3 sf ef ((tEat t i l).forks.flatMap fkV), ⟨fun m s h => ∃ (s' : Nat) (ef : Ent), s = (s' : Int) ∧ s' ≤ 2 ∧ m = 2 - s' ∧ h = ⟨tabE p g t.n (rm t.n (updN t.g i 2)) c c1 sf ef, ro⟩ ∧ OwnsSl 3 sf ef ((if s' = 0 then t else if s' = 1 then (({ t with g := updN t.g i 2 } : TS).setF l (t.w l) (t.a l) true) else tEat t i l).forks.flatMap fkV), ⟨2, gi ⟨0, ef, rfl, by omega, rfl, rfl, ho⟩⟩, ?_⟩, ?_⟩
    · rintro m _ _ h ⟨s, ef, rfl, hs2, rfl, rfl, ho⟩
      refine VIf_dec (fun hlt => ?_) (fun hlt => ?_)
      · obtain rfl | rfl : s = 0 ∨ s = 1 := by omega
        · refine ⟨by omega, by omega, _, hptr (s := 0) (by omega), _, rfl, ?_⟩
          rw [if_pos rfl] at ho
          refine wr_row fkV_len (by omega) (x' := (t.w l, t.a l, true)) [_, _] ef [] rfl ho (rm_get _ hln) hb (by simp) rfl ⟨rfl, trivial⟩ (fun e1 o1 _ => ⟨⟨by omega, by omega⟩, _, ?_, gi ⟨1, e1, rfl, by omega, rfl, rfl, ?_⟩⟩)
          · omega
          · rw [forks_set] at o1; exact o1
        · refine ⟨by omega, by omega, _, hptr (s := 1) (by omega), _, rfl, ?_⟩
          rw [if_neg (by omega), if_pos rfl] at ho
          refine wr_row fkV_len (by omega) (x' := (updN t.w l (t.w l) i, updN t.a l (t.a l) i, true)) [_, _] ef [] rfl ho (rm_get _ hi) hb (by simp) rfl ⟨rfl, trivial⟩ (fun e1 o1 _ => ⟨⟨by omega, by omega⟩, _, ?_, gi ⟨2, e1, rfl, by omega, rfl, rfl, ?_⟩⟩)
          · omega
          · rw [forks_set] at o1; exact o1
      · obtain rfl : s = 2 := by omega
        exact gi ⟨ef, rfl, ho⟩
    · rintro _ h ⟨ef, rfl, ho⟩
      exact ret (hk _ ⟨h3, h6, g, c, c1, sf, ef, rfl, ho⟩)
  rw [if_neg hbo] at hk
  refine tab_sides_c h3 h6 hi (.tail _ (.head _)) hb hl ⟨_, _, rfl, ?_⟩
  rw [hl']
  refine ⟨fun h => h = ⟨tabE p g t.n (rm t.n t.g) c c1 sf ef, ro⟩ ∧ ¬ tAsk t i l ∧ ¬ tAsk t i i, ⟨fun m s h => ∃ s' : Nat, s = (s' : Int) ∧ s' ≤ 2 ∧ m = 2 - s' ∧ h = ⟨tabE p g t.n (rm t.n t.g) c c1 sf ef, ro⟩ ∧ ∀ r, r < s' → ¬ tAsk t i (tSide i l r), ⟨2, gi ⟨0, rfl, by omega, rfl, rfl, by simp⟩⟩, ?_⟩, ?_⟩
  · rintro m _ _ h ⟨s, rfl, hs2, rfl, rfl, hng⟩
    refine VIf_dec (fun hlt => ?_) (fun hlt => ?_)
    · have hs' : s < 2 := by omega
      obtain ⟨f1, f2, f3⟩ := rd_fork (own := tabE p g t.n (rm t.n t.g) c c1 sf ef) (ro := ro) (.tail _ (.tail _ (.head _))) ho hb (hsd s)
      refine ⟨by omega, by omega, _, hptr hs', ?_⟩
      refine join_b (h := ⟨tabE p g t.n (rm t.n t.g) c c1 sf ef, ro⟩) (decide (tAsk t i (tSide i l s))) ⟨_, rfl, _, f1, VIf_ne (fun w1 => ⟨_, rfl, _, f2, gi ⟨rfl, ?_⟩⟩) (fun w1 => gi ⟨rfl, ?_⟩)⟩ (VIf_dec (fun hg => ?_) (fun hg => ?_))
      · by_cases ha : t.a (tSide i l s) = i
        · rw [decide_eq_true (show tAsk t i (tSide i l s) from ⟨by omega, ha⟩)]; simp [ha]
        · rw [decide_eq_false (show ¬ tAsk t i (tSide i l s) from fun h => ha h.2)]
          exact beq_eq_false_iff_ne.2 (by omega)
      · exact (decide_eq_false (show ¬ tAsk t i (tSide i l s) from fun h => h.1 (by omega))).symm
      · refine tab_other_c h3 h6 hi (by omega) (.tail _ (.head _)) ⟨_, rfl, _, rfl, ?_⟩
        have hx0 : t.forks[tSide i l s]? = some (t.w (tSide i l s), t.a (tSide i l s), t.d (tSide i l s)) := rm_get _ (hsd s)
        refine wr_row fkV_len (by omega) (x' := (t.w (tSide i l s), (i + t.n - 1 + 2 * s) % t.n, t.d (tSide i l s))) [_, _] ef [] rfl ho hx0 hb (by simp) rfl ⟨rfl, trivial⟩ (fun e1 o1 _ => ret ?_)
        rw [forks_set, hoth s hs'] at o1
        obtain rfl | rfl : s = 0 ∨ s = 1 := by omega
        · rw [if_pos (show tAsk t i l from hg)] at hk
          exact hk _ ⟨h3, h6, g, c, c1, sf, e1, rfl, o1⟩
        · rw [if_neg (show ¬ tAsk t i l from hng 0 (by omega)), if_pos (show tAsk t i i from hg)] at hk
          exact hk _ ⟨h3, h6, g, c, c1, sf, e1, rfl, o1⟩
      · refine ⟨⟨by omega, by omega⟩, _, ?_, gi ⟨s + 1, by omega, by omega, rfl, rfl, fun r hr => ?_⟩⟩
        · omega
        · by_cases e : r = s
          · subst e; exact hg
          · exact hng r (by omega)
    · obtain rfl : s = 2 := by omega
      exact gi ⟨rfl, hng 0 (by omega), hng 1 (by omega)⟩
  · rintro _ h ⟨rfl, a0, a1⟩
    rw [if_neg a0, if_neg a1] at hk
    exact ret (hk _ ⟨h3, h6, g, c, c1, sf, ef, rfl, ho⟩)
end Go.Proofs.YtiaopgnnibidlaaDoor
