import Derived.Test.YtnepjdobknjecaaDoorB6
namespace Go.Proofs.YtnepjdobknjecaaDoor
open Go.Eng
set_option maxRecDepth 20000
/-! ### the bank: what is the same, and facts -/
theorem same_rows_c {s s2 : SV} {rc rc2 : List (SV × List Int)} {h : H} {post : Value → H → Prop} (hr : RdRowsOf h s rc) (hr2 : RdRowsOf h s2 rc2) (hb : ∀ l ∈ rc.map Prod.snd, l.length ≤ 1000000) (hn : s.len ≤ 1000000)
    (h1 : rc.map Prod.snd = rc2.map Prod.snd → post (.bool true) h) (h2 : rc.map Prod.snd ≠ rc2.map Prod.snd → post (.bool false) h) : SemCall Tryd.prog 38 (List.toArray [.slice s.a s.len s.cap, .slice s2.a s2.len s2.cap]) h post := by
  refine f38_call s s2 h post ?_
  have e1 := rowsof_len hr rfl
  have e2 := rowsof_len hr2 rfl
  refine VIf_ne (fun hc => ret (h2 (fun he => hc (by rw [e1, e2, he])))) (fun hc => ?_)
  have hl : (rc.map Prod.snd).length = (rc2.map Prod.snd).length := by omega
  refine ⟨fun h' => h' = h ∧ rc.map Prod.snd = rc2.map Prod.snd, ⟨fun n i h' => ∃ k : Nat, i = (k : Int) ∧ k ≤ s.len ∧ n = s.len - k ∧ h' = h ∧ (rc.map Prod.snd).take k = (rc2.map Prod.snd).take k, ⟨_, gi ⟨0, rfl, Nat.zero_le _, rfl, rfl, by simp⟩⟩, ?_⟩, ?_⟩
  · rintro n _ i _ ⟨k, rfl, hk, rfl, rfl, ht⟩
    refine VIf_dec (fun hi => ?_) (fun hi => gi ⟨rfl, ?_⟩)
    rotate_left
    · rwa [List.take_of_length_le (by omega), List.take_of_length_le (by omega)] at ht
    have k1 : k < (rc.map Prod.snd).length := by omega
    have k2 : k < (rc2.map Prod.snd).length := by omega
    refine rowsof_at hr rfl (by omega) (by omega) fun x hx hxl => rowsof_at hr2 rfl (by omega) (by omega) fun y hy hyl => ?_
    rw [Int.toNat_natCast, List.getElem?_eq_getElem k1] at hx hxl
    rw [Int.toNat_natCast, List.getElem?_eq_getElem k2] at hy hyl
    simp only [Option.getD_some] at hx hxl hy hyl
    have hxb := hb _ (List.getElem_mem k1)
    refine same_ints_c hx hy (by omega) ⟨_, rfl, VIf_not (fun hne => ret (h2 (fun he => hne ?_))) (fun he => ⟨⟨by omega, by omega⟩, s.len - (k + 1), by omega, gi ⟨k + 1, by omega, by omega, rfl, rfl, ?_⟩⟩)⟩
    · have := congrArg (fun l : List (List Int) => l[k]?) he
      rw [List.getElem?_eq_getElem k1, List.getElem?_eq_getElem k2] at this
      exact Option.some.inj this
    · rw [List.take_add_one, List.take_add_one, ht, List.getElem?_eq_getElem k1, List.getElem?_eq_getElem k2, he]
  · rintro _ _ ⟨rfl, h⟩
    exact ret (h1 h)
structure Sml (b : Bk) : Prop where
  f : b.free.length ≤ 1000
  c : b.claim.length ≤ 1000 ∧ ∀ l ∈ b.claim, l.length ≤ 1000
  h : b.has.length ≤ 1000 ∧ ∀ l ∈ b.has, l.length ≤ 1000
theorem BOk.sml {b : Bk} (h : BOk b) : Sml b := by
  have := h.n3; have := h.m5; have hl := h.hl
  refine ⟨by omega, ⟨by omega, fun l hl => ?_⟩, ⟨by omega, fun l hl2 => ?_⟩⟩
  · obtain ⟨t, ht, rfl⟩ := List.mem_iff_getElem.1 hl
    have := (h.cn t ht).1
    rw [List.getElem?_eq_getElem ht] at this
    simp only [Option.getD_some] at this
    omega
  · obtain ⟨t, ht, rfl⟩ := List.mem_iff_getElem.1 hl2
    have := (h.cn t (by omega)).2
    rw [List.getElem?_eq_getElem ht] at this
    simp only [Option.getD_some] at this
    omega
theorem same_banks_c {b b2 : Bk} {sf sc sh sf2 sc2 sh2 : SV} {own : List Ent} {ro : Addr → Option Value} {post : Value → H → Prop} (hb : BkRd ⟨own, ro⟩ sf sc sh b) (hb2 : BkRd ⟨own, ro⟩ sf2 sc2 sh2 b2) (hs : Sml b)
    (h1 : b = b2 → post (.bool true) ⟨own, ro⟩) (h2 : b ≠ b2 → post (.bool false) ⟨own, ro⟩) : SemCall Tryd.prog 20 (List.toArray [bkV sf sc sh, bkV sf2 sc2 sh2]) ⟨own, ro⟩ post := by
  refine f20_call sf sc sh sf2 sc2 sh2 _ post ?_
  intro r1 _ r3 _
  simp only [add_mk', Nat.zero_add, Nat.add_zero]
  have hE1 : bkE r1 sf sc sh ∈ own ++ [bkE r1 sf sc sh] ++ [bkE r3 sf2 sc2 sh2] := by simp
  have hE3 : bkE r3 sf2 sc2 sh2 ∈ own ++ [bkE r1 sf sc sh] ++ [bkE r3 sf2 sc2 sh2] := by simp
  have hu : BkRd ⟨own ++ [bkE r1 sf sc sh] ++ [bkE r3 sf2 sc2 sh2], ro⟩ sf sc sh b := hb.mono (fun e he => by simp [he]) (fun _ _ h => h)
  have hu2 : BkRd ⟨own ++ [bkE r1 sf sc sh] ++ [bkE r3 sf2 sc2 sh2], ro⟩ sf2 sc2 sh2 b2 := hb2.mono (fun e he => by simp [he]) (fun _ _ h => h)
  obtain ⟨f, ⟨rc, c1, c2⟩, ⟨rh, g1, g3⟩⟩ := hu
  obtain ⟨f', ⟨rc', c1', c2'⟩, ⟨rh', g1', g3'⟩⟩ := hu2
  have fl := f.len
  rw [ints_length] at fl
  have cl := rowsof_len c1 c2
  have hl := rowsof_len g1 g3
  have := hs.f; have := hs.c.1; have := hs.h.1
  obtain ⟨bf, bc, bh⟩ := b
  obtain ⟨bf', bc', bh'⟩ := b2
  dsimp only at *
  open Classical in
  refine join_b (h := ⟨own ++ [bkE r1 sf sc sh] ++ [bkE r3 sf2 sc2 sh2], ro⟩) (decide ((⟨bf, bc, bh⟩ : Bk) = ⟨bf', bc', bh'⟩)) ⟨sf, bkE_0 hE1, sf2, bkE_0 hE3, same_ints_c f f' (by omega) ⟨_, rfl, VIf_dec (fun e1 => ?_) (fun e1 => gi ⟨rfl, ?_⟩)⟩⟩ ?_
  · refine ⟨sc, bkE_1 hE1, sc2, bkE_1 hE3, same_rows_c c1 c1' (by rw [c2]; exact fun l h => by have := hs.c.2 l h; omega) (by omega) (fun e2 => ⟨_, rfl, VIf_b (fun _ => ?_) (nomatch ·)⟩) (fun e2 => ⟨_, rfl, VIf_b (nomatch ·) (fun _ => gi ⟨rfl, ?_⟩)⟩)⟩
    · refine ⟨sh, bkE_2 hE1, sh2, bkE_2 hE3, same_rows_c g1 g1' (by rw [g3]; exact fun l h => by have := hs.h.2 l h; omega) (by omega) (fun e3 => ⟨_, rfl, gi ⟨rfl, ?_⟩⟩) (fun e3 => ⟨_, rfl, gi ⟨rfl, ?_⟩⟩)⟩
      · rw [c2, c2'] at e2
        rw [g3, g3'] at e3
        exact (decide_eq_true (by rw [e1, e2, e3])).symm
      · rw [g3, g3'] at e3
        exact (decide_eq_false (fun h => by cases h; exact e3 rfl)).symm
    · rw [c2, c2'] at e2
      exact (decide_eq_false (fun h => by cases h; exact e2 rfl)).symm
  · exact (decide_eq_false (fun h => by cases h; exact e1 rfl)).symm
  · open Classical in
    by_cases h : (⟨bf, bc, bh⟩ : Bk) = ⟨bf', bc', bh'⟩
    · rw [decide_eq_true h]
      exact ⟨⟨own, ro⟩, Gh.drop (by simp), h1 h⟩
    · rw [decide_eq_false h]
      exact ⟨⟨own, ro⟩, Gh.drop (by simp), h2 h⟩
theorem bank_shared_c {x y : Int} {own : List Ent} {ro : Addr → Option Value} {post : Value → H → Prop} (x0 : 0 ≤ x ∧ x ≤ 4) (y0 : 0 ≤ y ∧ y ≤ 4)
    (hk : ∀ sf sc sh ro', (∀ a v, ro a = some v → ro' a = some v) → BkRd ⟨[], ro'⟩ sf sc sh ⟨[4 - x - y], [[3], [3]], [[x], [y]]⟩ → post (bkV sf sc sh) ⟨own, ro'⟩) : SemCall Tryd.prog 28 (List.toArray [.int .i64 x, .int .i64 y]) ⟨own, ro⟩ post := by
  refine SemCall.wf fun hwf => ?_
  refine f28_call x y _ post ?_
  intro r1 f1
  refine ⟨show In64 (4 - x) from ⟨by omega, by omega⟩, show In64 (4 - x - y) from ⟨by omega, by omega⟩, ?_⟩
  intro r3 f3 r5 f5 r7 f7 r9 f9 r11 f11 r13 f13 r15 f15
  have w1 : Wf ⟨own ++ [⟨some r1, [Value.slice none 0 0, .slice none 0 0, .slice none 0 0], 3⟩], ro⟩ := hwf.add f1 rfl
  have w3 : Wf ⟨own ++ [⟨some r1, [Value.slice none 0 0, .slice none 0 0, .slice none 0 0], 3⟩] ++ [⟨some r3, [.int .i64 (4 - x - y)], 1⟩], ro⟩ := w1.add f3 rfl
  have w5 : Wf ⟨own ++ [⟨some r1, [Value.slice none 0 0, .slice none 0 0, .slice none 0 0], 3⟩] ++ [⟨some r3, [.int .i64 (4 - x - y)], 1⟩] ++ [⟨some r5, [.int .i64 3], 1⟩], ro⟩ := w3.add f5 rfl
  have w7 : Wf ⟨own ++ [⟨some r1, [Value.slice none 0 0, .slice none 0 0, .slice none 0 0], 3⟩] ++ [⟨some r3, [.int .i64 (4 - x - y)], 1⟩] ++ [⟨some r5, [.int .i64 3], 1⟩] ++ [⟨some r7, [.int .i64 3], 1⟩], ro⟩ := w5.add f7 rfl
  have w9 : Wf ⟨own ++ [⟨some r1, [Value.slice none 0 0, .slice none 0 0, .slice none 0 0], 3⟩] ++ [⟨some r3, [.int .i64 (4 - x - y)], 1⟩] ++ [⟨some r5, [.int .i64 3], 1⟩] ++ [⟨some r7, [.int .i64 3], 1⟩] ++ [⟨some r9, [svV ⟨some (Addr.mk r5 0 none), 1, 1⟩, svV ⟨some (Addr.mk r7 0 none), 1, 1⟩], 2⟩], ro⟩ := w7.add f9 rfl
  have w11 : Wf ⟨own ++ [⟨some r1, [Value.slice none 0 0, .slice none 0 0, .slice none 0 0], 3⟩] ++ [⟨some r3, [.int .i64 (4 - x - y)], 1⟩] ++ [⟨some r5, [.int .i64 3], 1⟩] ++ [⟨some r7, [.int .i64 3], 1⟩] ++ [⟨some r9, [svV ⟨some (Addr.mk r5 0 none), 1, 1⟩, svV ⟨some (Addr.mk r7 0 none), 1, 1⟩], 2⟩] ++ [⟨some r11, [.int .i64 x], 1⟩], ro⟩ := w9.add f11 rfl
  have w13 : Wf ⟨own ++ [⟨some r1, [Value.slice none 0 0, .slice none 0 0, .slice none 0 0], 3⟩] ++ [⟨some r3, [.int .i64 (4 - x - y)], 1⟩] ++ [⟨some r5, [.int .i64 3], 1⟩] ++ [⟨some r7, [.int .i64 3], 1⟩] ++ [⟨some r9, [svV ⟨some (Addr.mk r5 0 none), 1, 1⟩, svV ⟨some (Addr.mk r7 0 none), 1, 1⟩], 2⟩] ++ [⟨some r11, [.int .i64 x], 1⟩] ++ [⟨some r13, [.int .i64 y], 1⟩], ro⟩ := w11.add f13 rfl
  have w15 : Wf ⟨own ++ [⟨some r1, [Value.slice none 0 0, .slice none 0 0, .slice none 0 0], 3⟩] ++ [⟨some r3, [.int .i64 (4 - x - y)], 1⟩] ++ [⟨some r5, [.int .i64 3], 1⟩] ++ [⟨some r7, [.int .i64 3], 1⟩] ++ [⟨some r9, [svV ⟨some (Addr.mk r5 0 none), 1, 1⟩, svV ⟨some (Addr.mk r7 0 none), 1, 1⟩], 2⟩] ++ [⟨some r11, [.int .i64 x], 1⟩] ++ [⟨some r13, [.int .i64 y], 1⟩] ++ [⟨some r15, [svV ⟨some (Addr.mk r11 0 none), 1, 1⟩, svV ⟨some (Addr.mk r13 0 none), 1, 1⟩], 2⟩], ro⟩ := w13.add f15 rfl
  refine ⟨rfl, rfl, ?_⟩
  have hcat : own ++ [(⟨some r1, [Value.slice none 0 0, .slice none 0 0, .slice none 0 0], 3⟩ : Ent)] ++ [⟨some r3, [.int .i64 (4 - x - y)], 1⟩] ++ [⟨some r5, [.int .i64 3], 1⟩] ++ [⟨some r7, [.int .i64 3], 1⟩] ++ [⟨some r9, [svV ⟨some (Addr.mk r5 0 none), 1, 1⟩, svV ⟨some (Addr.mk r7 0 none), 1, 1⟩], 2⟩] ++ [⟨some r11, [.int .i64 x], 1⟩] ++ [⟨some r13, [.int .i64 y], 1⟩] ++ [⟨some r15, [svV ⟨some (Addr.mk r11 0 none), 1, 1⟩, svV ⟨some (Addr.mk r13 0 none), 1, 1⟩], 2⟩] =
      own ++ ⟨some r1, [Value.slice none 0 0, .slice none 0 0, .slice none 0 0], 3⟩ :: [⟨some r3, [.int .i64 (4 - x - y)], 1⟩, ⟨some r5, [.int .i64 3], 1⟩, ⟨some r7, [.int .i64 3], 1⟩, ⟨some r9, [svV ⟨some (Addr.mk r5 0 none), 1, 1⟩, svV ⟨some (Addr.mk r7 0 none), 1, 1⟩], 2⟩, ⟨some r11, [.int .i64 x], 1⟩, ⟨some r13, [.int .i64 y], 1⟩, ⟨some r15, [svV ⟨some (Addr.mk r11 0 none), 1, 1⟩, svV ⟨some (Addr.mk r13 0 none), 1, 1⟩], 2⟩] := by simp
  simp only [add_mk', Nat.zero_add, Nat.add_zero]
  refine bk_out (sf := ⟨some (Addr.mk r3 0 none), 1, 1⟩) (sc := ⟨some (Addr.mk r9 0 none), 2, 2⟩) (sh := ⟨some (Addr.mk r15 0 none), 2, 2⟩) own _ hcat rfl ?_
  rw [hcat] at w15
  have hp : (own ++ (⟨some r3, [.int .i64 (4 - x - y)], 1⟩ :: ⟨some r9, [svV ⟨some (Addr.mk r5 0 none), 1, 1⟩, svV ⟨some (Addr.mk r7 0 none), 1, 1⟩], 2⟩ :: ⟨some r15, [svV ⟨some (Addr.mk r11 0 none), 1, 1⟩, svV ⟨some (Addr.mk r13 0 none), 1, 1⟩], 2⟩ :: ([⟨some r5, [.int .i64 3], 1⟩, ⟨some r7, [.int .i64 3], 1⟩] ++ [⟨some r11, [.int .i64 x], 1⟩, ⟨some r13, [.int .i64 y], 1⟩]) : List Ent)).Perm
      (own ++ [⟨some r3, [.int .i64 (4 - x - y)], 1⟩, ⟨some r5, [.int .i64 3], 1⟩, ⟨some r7, [.int .i64 3], 1⟩, ⟨some r9, [svV ⟨some (Addr.mk r5 0 none), 1, 1⟩, svV ⟨some (Addr.mk r7 0 none), 1, 1⟩], 2⟩, ⟨some r11, [.int .i64 x], 1⟩, ⟨some r13, [.int .i64 y], 1⟩, ⟨some r15, [svV ⟨some (Addr.mk r11 0 none), 1, 1⟩, svV ⟨some (Addr.mk r13 0 none), 1, 1⟩], 2⟩]) := by
    refine List.Perm.append_left _ (.cons _ ?_)
    refine pm [_, _] [_, _, _] rfl ?_
    refine pm [_, _, _, _] [] rfl ?_
    exact List.Perm.refl _
  have w16 := (w15.sub (own' := own ++ [⟨some r3, [.int .i64 (4 - x - y)], 1⟩, ⟨some r5, [.int .i64 3], 1⟩, ⟨some r7, [.int .i64 3], 1⟩, ⟨some r9, [svV ⟨some (Addr.mk r5 0 none), 1, 1⟩, svV ⟨some (Addr.mk r7 0 none), 1, 1⟩], 2⟩, ⟨some r11, [.int .i64 x], 1⟩, ⟨some r13, [.int .i64 y], 1⟩, ⟨some r15, [svV ⟨some (Addr.mk r11 0 none), 1, 1⟩, svV ⟨some (Addr.mk r13 0 none), 1, 1⟩], 2⟩]) (List.Sublist.append_left (.cons _ (List.Sublist.refl _)) _)).perm hp
  have one : ∀ (r : Nat) (v : Int), OwnsSl 1 ⟨some (Addr.mk r 0 none), 1, 1⟩ ⟨some r, [.int .i64 v], 1⟩ (ints [v]) := fun r v => OwnsSl.at0 (n := 1) 1 rfl (by decide) (by decide)
  have two : ∀ (r : Nat) (p q : SV), OwnsSl 1 ⟨some (Addr.mk r 0 none), 2, 2⟩ ⟨some r, [svV p, svV q], 2⟩ ([p, q].map svV) := fun r p q => OwnsSl.at0 (n := 2) 1 rfl (by decide) (by decide)
  obtain ⟨ro', g, m, rd⟩ := bk_frz (b := ⟨[4 - x - y], [[3], [3]], [[x], [y]]⟩) (ssC := [⟨some (Addr.mk r5 0 none), 1, 1⟩, ⟨some (Addr.mk r7 0 none), 1, 1⟩]) (ssH := [⟨some (Addr.mk r11 0 none), 1, 1⟩, ⟨some (Addr.mk r13 0 none), 1, 1⟩]) w16 (one _ _)
    (two _ _ _) (two _ _ _) (by simpa using (OwPar.nil.app (one r5 3)).app (one r7 3)) (by simpa using (OwPar.nil.app (one r11 x)).app (one r13 y))
  exact ⟨⟨own, ro'⟩, (Gh.drop (List.Sublist.append_left (.cons _ (List.Sublist.refl _)) _)).trans ((Gh.perm hp).trans g), hk _ _ _ ro' m rd⟩
theorem bk22_ok : BOk ⟨[0], [[3], [3]], [[2], [2]]⟩ :=
  ⟨by decide, by decide, by decide, by decide, by decide, by decide, fun t k ht hk => (by decide : ∀ t, t < 2 → ∀ k, k < 1 → (0 ≤ g2 [[3], [3]] t k ∧ g2 [[3], [3]] t k ≤ 1000) ∧ (0 ≤ g2 [[2], [2]] t k ∧ g2 [[2], [2]] t k ≤ g2 [[3], [3]] t k)) t ht k hk,
    fun t k ht hk => (by decide : ∀ t, t < 2 → ∀ k, k < 1 → g2 [[3], [3]] t k ≤ ball ⟨[0], [[3], [3]], [[2], [2]]⟩ k) t ht k hk⟩
theorem bk21_ok : BOk ⟨[1], [[3], [3]], [[2], [1]]⟩ :=
  ⟨by decide, by decide, by decide, by decide, by decide, by decide, fun t k ht hk => (by decide : ∀ t, t < 2 → ∀ k, k < 1 → (0 ≤ g2 [[3], [3]] t k ∧ g2 [[3], [3]] t k ≤ 1000) ∧ (0 ≤ g2 [[2], [1]] t k ∧ g2 [[2], [1]] t k ≤ g2 [[3], [3]] t k)) t ht k hk,
    fun t k ht hk => (by decide : ∀ t, t < 2 → ∀ k, k < 1 → g2 [[3], [3]] t k ≤ ball ⟨[1], [[3], [3]], [[2], [1]]⟩ k) t ht k hk⟩
theorem bk22_row : brow ⟨[0], [[3], [3]], [[2], [2]]⟩ = none := by decide
theorem bk21_row : brow ⟨[1], [[3], [3]], [[2], [1]]⟩ = some [0, 1] := by decide
theorem bk21_ask : bask ⟨[1], [[3], [3]], [[2], [1]]⟩ 1 [1] = 7 := by
  have h : BAsk ⟨[1], [[3], [3]], [[2], [1]]⟩ 1 [1] := ⟨bk21_ok, by decide, by decide, by decide, by decide⟩
  rw [bask, if_neg (fun hc => hc (basked_of h)), if_neg, if_neg, if_pos]
  · decide
  · rintro ⟨k, hk, hc⟩
    exact absurd hc ((by decide : ∀ k, k < 1 → ¬ (gI [1] k > gI [1] k)) k hk)
  · rintro ⟨k, hk, hc⟩
    exact absurd hc ((by decide : ∀ k, k < 1 → ¬ (g2 [[2], [1]] (1 : Int).toNat k + gI [1] k > g2 [[3], [3]] (1 : Int).toNat k)) k hk)
theorem bank_fact_c {own : List Ent} {ro : Addr → Option Value} {post : Value → H → Prop} (hG : HasErrT ro) (hk : ∀ ro', (∀ a v, ro a = some v → ro' a = some v) → post (.bool true) ⟨own, ro'⟩) : SemCall Tryd.prog 9 (List.toArray []) ⟨own, ro⟩ post := by
  refine f9_call _ post ?_
  refine bank_shared_c ⟨by omega, by omega⟩ ⟨by omega, by omega⟩ (fun sf sc sh ro1 m1 b1 => ⟨sf, sc, sh, rfl, ?_⟩)
  have b1 : BkRd ⟨own, ro1⟩ sf sc sh ⟨[0], [[3], [3]], [[2], [2]]⟩ := b1.mono (by simp) (fun _ _ h => h)
  refine bank_safe_c b1 (fun hc => absurd (bcheck_zero.2 bk22_ok) hc) (fun _ _ => ⟨false, ⟨none, 0, 0⟩, none, rfl, ?_⟩) (fun r s' e' _ hr => by rw [bk22_row] at hr; cases hr)
  refine bank_shared_c ⟨by omega, by omega⟩ ⟨by omega, by omega⟩ (fun sf sc sh ro2 m2 b2 => ⟨sf, sc, sh, rfl, ?_⟩)
  have b2 : BkRd ⟨own, ro2⟩ sf sc sh ⟨[1], [[3], [3]], [[2], [1]]⟩ := b2.mono (by simp) (fun _ _ h => h)
  refine bank_safe_c b2 (fun hc => absurd (bcheck_zero.2 bk21_ok) hc) (fun _ hr => by rw [bk21_row] at hr; cases hr) (fun r s' e' _ hr o => ⟨true, s', none, rfl, ?_⟩)
  rw [bk21_row] at hr
  cases hr
  refine bank_shared_c ⟨by omega, by omega⟩ ⟨by omega, by omega⟩ (fun sf sc sh ro3 m3 b3 => ⟨sf, sc, sh, rfl, ?_⟩)
  intro r26 _
  have b3 : BkRd ⟨own ++ [e'] ++ [⟨some r26, [.int .i64 1], 1⟩], ro3⟩ sf sc sh ⟨[1], [[3], [3]], [[2], [1]]⟩ := b3.mono (by simp) (fun _ _ h => h)
  refine bank_ask_c (sw := ⟨some (Addr.mk r26 0 none), 1, 1⟩) (want := [1]) b3 (RdSl.at0 ⟨some r26, [.int .i64 1], 1⟩ (by simp) rfl rfl rfl) (fun _ ro4 m4 => ?_) (fun hc => by rw [bk21_ask] at hc; cases hc)
  rw [bk21_ask]
  refine ⟨nilV, nilV, nilV, _, rfl, ?_⟩
  intro r34 _
  refine ⟨rfl, rfl, ?_⟩
  refine wro (own ++ [e'] ++ [⟨some r26, [.int .i64 1], 1⟩]) ⟨some r34, [Value.slice none 0 0, .slice none 0 0, .slice none 0 0], 3⟩ [] ⟨rfl, rfl, rfl, trivial⟩ (by simp) rfl (by simp) ?_
  have mm : ∀ a v, ro a = some v → ro4 a = some v := fun a v h => m4 a v (m3 a v (m2 a v (m1 a v h)))
  refine ⟨fun b h => b = true ∧ ∃ X, h = ⟨own ++ X, ro4⟩, VIf_nil (VIf_nil (VIf_nb (fun _ => VIf_b (fun _ => ?_) (nomatch ·)) (nomatch ·))), ?_⟩
  · intro r38 _
    refine same_ints_c (s2 := ⟨some (Addr.mk r38 0 none), 2, 2⟩) (xs := [0, 1]) (ys := [0, 1]) (RdSl.of_own (e := e') (by simp) (by simpa using o)) (RdSl.at0 ⟨some r38, [.int .i64 0, .int .i64 1], 2⟩ (by simp) rfl rfl rfl) (by have := o.sl_len; simp at this; omega) ⟨_, rfl, VIf_dec (fun _ => ?_) (fun h => absurd rfl h)⟩
    refine same_error_c (HasErrT.up hG mm) ⟨_, rfl, gi ⟨rfl, _, by simp only [List.append_assoc]; rfl⟩⟩
  · rintro _ _ _ ⟨rfl, X, rfl⟩
    exact ⟨⟨own, ro4⟩, Gh.drop (by simp), hk ro4 mm⟩
end Go.Proofs.YtnepjdobknjecaaDoor
