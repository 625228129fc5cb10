import Derived.Test.YtogbkgimpkaemaaSa
namespace Go.Proofs.Ytogbkgimpkaemaa
open Go.Eng
set_option maxRecDepth 20000
/-! ### the stack steps -/
theorem stk_change_c {p bh n c c1 : Nat} {s : SK} {a t x : Int} {own : List Ent} {ro : Addr → Option Value} {post : Value → H → Prop} (hown : own = [kH bh c n s, kP p bh n c1 s]) (ht : -1000000 ≤ t ∧ t ≤ 1000000)
    (h1 : s.a = a ∧ s.t = t → post (.bool true) ⟨[kH bh c n s, kP p bh n c1 { s with a := x, t := kTag s t }], ro⟩) (h2 : ¬ (s.a = a ∧ s.t = t) → post (.bool false) ⟨own, ro⟩) :
    SemCall Try.prog 33 (List.toArray [.pointer (some (Addr.mk p 0 none)), .agg (List.toArray [.int .i64 a, .int .i64 t]), .int .i64 x]) ⟨own, ro⟩ post := by
  subst hown
  refine f33_call _ _ _ _ _ post ?_
  intro r1 _
  refine ⟨_, rfl, s.tg, ?_, ?_⟩
  · rw [add_mk', add_mk']; exact rdo (kP p bh n c1 s) (by simp) rfl rfl
  refine ⟨fun v h => v = kTag s t ∧ h = ⟨[kH bh c n s, kP p bh n c1 s] ++ [⟨some r1, [.int .i64 a, .int .i64 t], 2⟩], ro⟩, VIf_b (fun hb => rI0' ⟨some r1, [.int .i64 a, .int .i64 t], 2⟩ (by simp) rfl rfl ⟨⟨by omega, by omega⟩, gi ⟨by unfold kTag; rw [if_pos hb], rfl⟩⟩) (fun hb => gi ⟨by unfold kTag; rw [if_neg (by rw [hb]; decide)], rfl⟩), ?_⟩
  rintro _ _ _ ⟨rfl, rfl⟩
  refine ⟨_, rfl, a, ?_, t, ?_, ?_⟩
  · rw [add_mk']; exact rdo ⟨some r1, [.int .i64 a, .int .i64 t], 2⟩ (by simp) rfl rfl
  · rw [add_mk']; exact rdo ⟨some r1, [.int .i64 a, .int .i64 t], 2⟩ (by simp) rfl rfl
  refine stk_cas_c [kH bh c n s] [⟨some r1, [.int .i64 a, .int .i64 t], 2⟩] rfl (fun h => ⟨_, rfl, ⟨⟨[kH bh c n s, kP p bh n c1 { s with a := x, t := kTag s t }], ro⟩, Gh.drop (by simp), h1 h⟩⟩) (fun h => ⟨_, rfl, ⟨⟨[kH bh c n s, kP p bh n c1 s], ro⟩, Gh.drop (by simp), h2 h⟩⟩)
theorem kSpl {n q j : Nat} {h : Nat → Int} {vs : List Int} (hq : q < n) (hj : j + vs.length ≤ 5) {ws : List Int} (hw : ∀ i, i < 5 → gI ws i = if j ≤ i ∧ i < j + vs.length then gI vs (i - j) else h (q * 5 + i)) : splI (rm (n * 5) h) (q * 5 + j) vs = rm (n * 5) (kHand h q ws) := by
  rw [rm_spl (by omega)]
  refine List.map_congr_left fun k _ => ?_
  unfold kHand
  by_cases hk : q * 5 ≤ k ∧ k < q * 5 + 5
  · rw [if_pos hk, hw (k - q * 5) (by omega)]
    by_cases h2 : q * 5 + j ≤ k ∧ k < q * 5 + j + vs.length
    · rw [if_pos h2, if_pos (by omega)]; congr 1; omega
    · rw [if_neg h2, if_neg (by omega)]; congr 1; omega
  · rw [if_neg hk, if_neg (by omega)]
theorem j5 {i : Nat} (h : i < 5) : i = 0 ∨ i = 1 ∨ i = 2 ∨ i = 3 ∨ i = 4 := by omega
set_option maxHeartbeats 2000000 in
theorem stk_step_c {p n q : Nat} {s : SK} {i : Int} {L own : List Ent} {ro : Addr → Option Value} {post : Value → H → Prop} (A C : List Ent) (hown : own = A ++ (L ++ C)) (hs : KAt p n s L) (hI : KI n s i) (hi : i ≤ 100000) (hq : q < n)
    (hk : ∀ L', KAt p n (if s.h (q * 5 + 0) = 0 then s else (kStep s q).1) L' → post (.tuple (List.toArray [.bool (if s.h (q * 5 + 0) = 0 then false else (kStep s q).2.1), .int .i64 (if s.h (q * 5 + 0) = 0 then 0 else (kStep s q).2.2), errV (eno 57 (if s.h (q * 5 + 0) = 0 then 7 else 0))])) ⟨A ++ (L' ++ C), ro⟩) :
    SemCall Try.prog 23 (List.toArray [.pointer (some (Addr.mk p 0 none)), .int .i64 (q : Int)]) ⟨own, ro⟩ post := by
  refine lift A C hown (Q := fun L' => KAt p n (if s.h (q * 5 + 0) = 0 then s else (kStep s q).1) L') ?_ hk
  clear hk hown post
  intro post hk
  obtain ⟨h1, h4, bh, c, c1, rfl⟩ := hs
  obtain ⟨c0, cn, cs, cx, ct⟩ := hI.q q hq
  have hL : ∀ e ∈ [kH bh c n s, kP p bh n c1 s], e ∈ [kH bh c n s, kP p bh n c1 s] := fun _ h => h
  refine f23_call _ _ _ post ?_
  refine ⟨_, rfl, krT hL ⟨⟨by dsimp only; omega, by dsimp only; omega⟩, within_c ⟨_, rfl, VIf_nb (fun hc => absurd (of_decide_eq_false hc) (not_not_intro ⟨by omega, by dsimp only; omega⟩)) (fun _ => ⟨_, rfl, krT hL ?_⟩)⟩⟩⟩
  refine ⟨_, rfl, by omega, by dsimp only; omega, ?_⟩
  simp only [add_mk', Option.some.injEq, exists_eq_left', Nat.zero_add, Nat.add_zero, Int.toNat_natCast]
  have rd : ∀ {s : SK} {j : Nat}, j < 5 → H.rd ⟨[kH bh c n s, kP p bh n c1 s], ro⟩ (Addr.mk bh (q * 5 + j) none) (.int .i64 (s.h (q * 5 + j))) := fun hj => krh (fun _ h => h) (by omega)
  refine ⟨s.h (q * 5 + 0), rd (j := 0) (by omega), VIf_eq (fun b => ?_) (fun b0 => ?_)⟩
  · simp only [if_pos b] at hk
    exact ret (hk _ ⟨h1, h4, bh, c, c1, rfl⟩)
  simp only [if_neg b0] at hk
  have kst : ∀ {o : Nat} {v : Value}, (kC s ++ [.slice (some (Addr.mk bh 0 none)) n n])[o]? = some v → H.rd ⟨[kH bh c n s, kP p bh n c1 s], ro⟩ (Addr.mk p o none) v := fun h => krp hL h
  -- a hand's cells, from j on
  have wh : ∀ {s s' : SK} {j : Nat} {vs ws : List Int} {K : H → Prop}, j + vs.length ≤ 5 → s' = { s with h := kHand s.h q ws } → (∀ i, i < 5 → gI ws i = if j ≤ i ∧ i < j + vs.length then gI vs (i - j) else s.h (q * 5 + i)) → K ⟨[kH bh c n s', kP p bh n c1 s'], ro⟩ → H.wr ⟨[kH bh c n s, kP p bh n c1 s], ro⟩ (Addr.mk bh (q * 5 + j) none) (ints vs) K := fun {s s' j vs ws K} hj he hw hK => by
    subst he
    exact kwh (s' := { s with h := kHand s.h q ws }) (by omega) ⟨rfl, rfl, rfl, rfl, rfl, rfl⟩ (kSpl hq hj hw) hK
  have tq : -1000000 ≤ s.h (q * 5 + 4) ∧ s.h (q * 5 + 4) ≤ 1000000 := by omega
  refine VIf_eq (fun b1 => ?_) (fun b1 => VIf_eq (fun b2 => ?_) (fun b2 => VIf_eq (fun b3 => ?_) (fun b3 => VIf_eq (fun b4 => ?_) (fun b4 => VIf_eq (fun b5 => ?_) (fun b5 => ?_)))))
  · have nd := cn (.inl b1)
    obtain ⟨k, hkk⟩ : ∃ k : Nat, s.h (q * 5 + 1) = (k : Int) := ⟨(s.h (q * 5 + 1)).toNat, by omega⟩
    have hk4 : k < 4 := by omega
    unfold kStep at hk
    rw [if_pos b1] at hk
    refine ⟨s.a, kst rfl, s.t, kst rfl, rfl, rfl, ?_⟩
    refine wh (s' := { s with h := kHand s.h q [s.h (q * 5 + 0), s.h (q * 5 + 1), s.h (q * 5 + 2), s.a, s.t] }) (j := 3) (vs := [s.a, s.t]) (by simp) rfl (fun i hi => by rcases j5 hi with rfl | rfl | rfl | rfl | rfl <;> rfl) ?_
    refine ⟨_, rd (j := 1) (by omega), _, rd (j := 3) (by omega), ?_⟩
    simp only [kHand_same (show 1 < 5 by omega), kHand_same (show 3 < 5 by omega)]
    show 0 ≤ s.h (q * 5 + 1) ∧ s.h (q * 5 + 1) < 4 ∧ H.wr _ (Addr.mk p (3 + (s.h (q * 5 + 1)).toNat * 3 + 1) none) [.int .i64 s.a] _
    refine ⟨nd.1, nd.2, ?_⟩
    have e0 : (s.h (q * 5 + 1)).toNat = k := by omega
    rw [e0]
    refine kw (s' := { s with X := updN s.X k s.a, h := kHand s.h q [s.h (q * 5 + 0), s.h (q * 5 + 1), s.h (q * 5 + 2), s.a, s.t] }) rfl (by omega) (kC_wX (s := { s with h := kHand s.h q [s.h (q * 5 + 0), s.h (q * 5 + 1), s.h (q * 5 + 2), s.a, s.t] }) hk4 s.a _) rfl ?_
    refine wh (s' := { s with X := updN s.X k s.a, h := kHand (kHand s.h q [s.h (q * 5 + 0), s.h (q * 5 + 1), s.h (q * 5 + 2), s.a, s.t]) q [2, s.h (q * 5 + 1), s.h (q * 5 + 2), s.a, s.t] }) (j := 0) (vs := [2]) (by simp) rfl (fun i hi => by rcases j5 hi with rfl | rfl | rfl | rfl | rfl <;> first | rfl | (simp only []; rw [if_neg (by simp), kHand_same (by omega)]; rfl)) (ret (hk _ ⟨h1, h4, bh, c, c1, ?_⟩))
    have e : kHand (kHand s.h q [s.h (q * 5 + 0), s.h (q * 5 + 1), s.h (q * 5 + 2), s.a, s.t]) q [2, s.h (q * 5 + 1), s.h (q * 5 + 2), s.a, s.t] = kHand s.h q [2, s.h (q * 5 + 1), s.h (q * 5 + 2), s.a, s.t] := by
      funext k; unfold kHand; split <;> rfl
    rw [e, e0]
  · unfold kStep at hk
    rw [if_neg b1, if_pos b2] at hk
    refine ⟨_, rd (j := 3) (by omega), _, rd (j := 4) (by omega), _, rd (j := 1) (by omega), ?_⟩
    refine stk_change_c rfl tq (fun he => ⟨_, rfl, VIf_b (fun _ => ?_) (nomatch ·)⟩) (fun he => ⟨_, rfl, VIf_b (nomatch ·) (fun _ => ?_)⟩)
    · rw [if_pos he] at hk
      refine ⟨rfl, rfl, ?_⟩
      exact wh (s := { s with a := s.h (q * 5 + 1), t := kTag s (s.h (q * 5 + 4)) }) (j := 0) (vs := [0, 0, 0, 0, 0]) (ws := [0, 0, 0, 0, 0]) (by simp) rfl (fun i hi => by rcases j5 hi with rfl | rfl | rfl | rfl | rfl <;> rfl) (ret (hk _ ⟨h1, h4, bh, c, c1, rfl⟩))
    · rw [if_neg he] at hk
      exact wh (j := 0) (vs := [1]) (ws := [1, s.h (q * 5 + 1), s.h (q * 5 + 2), s.h (q * 5 + 3), s.h (q * 5 + 4)]) (by simp) rfl (fun i hi => by rcases j5 hi with rfl | rfl | rfl | rfl | rfl <;> rfl) (ret (hk _ ⟨h1, h4, bh, c, c1, rfl⟩))
  · unfold kStep at hk
    rw [if_neg b1, if_neg b2, if_pos b3] at hk
    refine ⟨s.a, kst rfl, s.t, kst rfl, rfl, rfl, ?_⟩
    refine wh (s' := { s with h := kHand s.h q [s.h (q * 5 + 0), s.h (q * 5 + 1), s.h (q * 5 + 2), s.a, s.t] }) (j := 3) (vs := [s.a, s.t]) (by simp) rfl (fun i hi => by rcases j5 hi with rfl | rfl | rfl | rfl | rfl <;> rfl) ?_
    refine ⟨_, rd (j := 3) (by omega), ?_⟩
    simp only [kHand_same (show 3 < 5 by omega)]
    show VIf (decide (s.a < 0)) _ _
    have e : ∀ ws, kHand (kHand s.h q [s.h (q * 5 + 0), s.h (q * 5 + 1), s.h (q * 5 + 2), s.a, s.t]) q ws = kHand s.h q ws := fun ws => by
      funext k; unfold kHand; split <;> rfl
    refine VIf_dec (fun ha => ?_) (fun ha => ?_)
    · rw [if_pos ha] at hk
      refine ⟨rfl, rfl, wh (j := 0) (vs := [0, 0, 0, 0, 0]) (ws := [0, 0, 0, 0, 0]) (by simp) rfl (fun i hi => by rcases j5 hi with rfl | rfl | rfl | rfl | rfl <;> rfl) (ret (hk _ ⟨h1, h4, bh, c, c1, ?_⟩))⟩
      rw [e]
    · rw [if_neg ha] at hk
      refine wh (j := 0) (vs := [4]) (ws := [4, s.h (q * 5 + 1), s.h (q * 5 + 2), s.a, s.t]) (by simp) rfl (fun i hi => by rcases j5 hi with rfl | rfl | rfl | rfl | rfl <;> first | rfl | (simp only []; rw [if_neg (by simp), kHand_same (by omega)]; rfl)) (ret (hk _ ⟨h1, h4, bh, c, c1, ?_⟩))
      rw [e]
  · have nd := cs (.inl b4)
    obtain ⟨k, hkk⟩ : ∃ k : Nat, s.h (q * 5 + 3) = (k : Int) := ⟨(s.h (q * 5 + 3)).toNat, by omega⟩
    have hk4 : k < 4 := by omega
    unfold kStep at hk
    rw [if_neg b1, if_neg b2, if_neg b3, if_pos b4] at hk
    refine ⟨_, rd (j := 3) (by omega), nd.1, nd.2, s.X k, ?_, ?_⟩
    · rw [hkk, Int.toNat_natCast]; exact kst (kC_X hk4 _)
    rw [hkk, Int.toNat_natCast] at hk
    refine wh (s' := { s with h := kHand s.h q [s.h (q * 5 + 0), s.h (q * 5 + 1), s.X k, s.h (q * 5 + 3), s.h (q * 5 + 4)] }) (j := 2) (vs := [s.X k]) (by simp) rfl (fun i hi => by rcases j5 hi with rfl | rfl | rfl | rfl | rfl <;> rfl) ?_
    have e : ∀ ws, kHand (kHand s.h q [s.h (q * 5 + 0), s.h (q * 5 + 1), s.X k, s.h (q * 5 + 3), s.h (q * 5 + 4)]) q ws = kHand s.h q ws := fun ws => by
      funext k; unfold kHand; split <;> rfl
    refine wh (j := 0) (vs := [5]) (ws := [5, s.h (q * 5 + 1), s.X k, s.h (q * 5 + 3), s.h (q * 5 + 4)]) (by simp) rfl (fun i hi => by rcases j5 hi with rfl | rfl | rfl | rfl | rfl <;> first | rfl | (simp only []; rw [if_neg (by simp), kHand_same (by omega)]; rfl)) (ret (hk _ ⟨h1, h4, bh, c, c1, ?_⟩))
    rw [e, hkk]
  · have nd := cs (.inr b5)
    obtain ⟨k, hkk⟩ : ∃ k : Nat, s.h (q * 5 + 3) = (k : Int) := ⟨(s.h (q * 5 + 3)).toNat, by omega⟩
    have hk4 : k < 4 := by omega
    unfold kStep at hk
    rw [if_neg b1, if_neg b2, if_neg b3, if_neg b4, if_pos b5] at hk
    refine ⟨_, rd (j := 3) (by omega), _, rd (j := 4) (by omega), _, rd (j := 2) (by omega), ?_⟩
    refine stk_change_c rfl tq (fun he => ⟨_, rfl, VIf_b (fun _ => ?_) (nomatch ·)⟩) (fun he => ⟨_, rfl, VIf_b (nomatch ·) (fun _ => ?_)⟩)
    · rw [if_pos he] at hk
      refine ⟨_, rd (s := { s with a := s.h (q * 5 + 2), t := kTag s (s.h (q * 5 + 4)) }) (j := 3) (by omega), nd.1, nd.2, s.V k, ?_, nd.1, nd.2, ?_⟩
      · show H.rd _ (Addr.mk p (3 + (s.h (q * 5 + 3)).toNat * 3) none) _
        rw [hkk, Int.toNat_natCast]
        exact krp (s := { s with a := s.h (q * 5 + 2), t := kTag s (s.h (q * 5 + 4)) }) (fun _ h => h) (kC_V (s := { s with a := s.h (q * 5 + 2), t := kTag s (s.h (q * 5 + 4)) }) hk4 _)
      show H.wr _ (Addr.mk p (3 + (s.h (q * 5 + 3)).toNat * 3 + 2) none) _ _
      rw [hkk, Int.toNat_natCast] at hk ⊢
      refine kw (s := { s with a := s.h (q * 5 + 2), t := kTag s (s.h (q * 5 + 4)) }) (s' := { s with a := s.h (q * 5 + 2), t := kTag s (s.h (q * 5 + 4)), U := updN s.U k false }) rfl (by omega) (kC_wU (s := { s with a := s.h (q * 5 + 2), t := kTag s (s.h (q * 5 + 4)) }) hk4 false _) rfl ?_
      exact ⟨rfl, rfl, wh (s := { s with a := s.h (q * 5 + 2), t := kTag s (s.h (q * 5 + 4)), U := updN s.U k false }) (j := 0) (vs := [0, 0, 0, 0, 0]) (ws := [0, 0, 0, 0, 0]) (by simp) rfl (fun i hi => by rcases j5 hi with rfl | rfl | rfl | rfl | rfl <;> rfl) (ret (hk _ ⟨h1, h4, bh, c, c1, rfl⟩))⟩
    · rw [if_neg he] at hk
      exact wh (j := 0) (vs := [3]) (ws := [3, s.h (q * 5 + 1), s.h (q * 5 + 2), s.h (q * 5 + 3), s.h (q * 5 + 4)]) (by simp) rfl (fun i hi => by rcases j5 hi with rfl | rfl | rfl | rfl | rfl <;> rfl) (ret (hk _ ⟨h1, h4, bh, c, c1, rfl⟩))
  · exact absurd (show s.h (q * 5 + 0) = 5 by omega) b5
theorem stk_out_c {p n : Nat} {q : Int} {s : SK} {L own : List Ent} {ro : Addr → Option Value} {post : Value → H → Prop} (hs : KAt p n s L) (hL : ∀ e ∈ L, e ∈ own) (hq : ¬ (0 ≤ q ∧ q ≤ (n : Int) - 1))
    (hk : post (.tuple (List.toArray [.bool false, .int .i64 0, errV (eno 57 1)])) ⟨own, ro⟩) : SemCall Try.prog 23 (List.toArray [.pointer (some (Addr.mk p 0 none)), .int .i64 q]) ⟨own, ro⟩ post := by
  obtain ⟨h1, h4, bh, c, c1, rfl⟩ := hs
  refine f23_call _ _ _ post ?_
  exact ⟨_, rfl, krT hL ⟨⟨by dsimp only; omega, by dsimp only; omega⟩, within_c ⟨_, rfl, VIf_nb (fun _ => ret hk) (fun hc => absurd (of_decide_eq_true hc) hq)⟩⟩⟩
end Go.Proofs.Ytogbkgimpkaemaa
