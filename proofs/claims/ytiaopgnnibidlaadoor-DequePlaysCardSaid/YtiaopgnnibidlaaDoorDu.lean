import Derived.Test.YtiaopgnnibidlaaDoorDt
namespace Go.Proofs.YtiaopgnnibidlaaDoor
open Go.Eng
set_option maxRecDepth 20000
theorem dq_out_c {p n : Nat} {q : Int} {f h : Nat → Int} {L own : List Ent} {ro : Addr → Option Value} {post : Value → H → Prop} (hs : DqAt p n f h L) (hL : ∀ e ∈ L, e ∈ own) (hq : ¬ (0 ≤ q ∧ q ≤ (n : Int) - 1))
    (hk : post (.tuple (List.toArray [.bool false, .int .i64 0, errV (eno 61 1)])) ⟨own, ro⟩) : SemCall Tryd.prog 23 (List.toArray [.pointer (some (Addr.mk p 0 none)), .int .i64 q]) ⟨own, ro⟩ post := by
  obtain ⟨h1, h4, bh, c, c1, rfl⟩ := hs
  refine f23_call _ _ _ post ?_
  refine ⟨_, rfl, ⟨some (Addr.mk bh 0 none), n, n⟩, ?_, ⟨by dsimp only; omega, by dsimp only; omega⟩, within_c ⟨_, rfl, VIf_nb (fun _ => ret hk) (fun hc => absurd (of_decide_eq_true hc) hq)⟩⟩
  rw [add_mk', add_mk']
  exact rdo _ (hL _ (.tail _ (.head _))) rfl rfl
/-- one line of any hand: what is left, whether it is done, what it tells, and the error -/
def dStepE (f h : Nat → Int) (q : Nat) : (Nat → Int) × (Nat → Int) × Bool × Int × Int :=
  if h (q * 4 + 0) = 0 then (f, h, false, 0, 7) else ((dStep f h q).1, (dStep f h q).2.1, (dStep f h q).2.2.1, (dStep f h q).2.2.2, 0)
set_option maxHeartbeats 2000000 in
theorem dq_step_c {p n q : Nat} {f h : Nat → Int} {L own : List Ent} {ro : Addr → Option Value} {post : Value → H → Prop} (A C : List Ent) (hown : own = A ++ (L ++ C)) (hs : DqAt p n f h L) (hq : q < n) (hd : DOk f h q)
    (hk : ∀ L', DqAt p n (dStepE f h q).1 (dStepE f h q).2.1 L' → post (.tuple (List.toArray [.bool (dStepE f h q).2.2.1, .int .i64 (dStepE f h q).2.2.2.1, errV (eno 61 (dStepE f h q).2.2.2.2)])) ⟨A ++ (L' ++ C), ro⟩) :
    SemCall Tryd.prog 23 (List.toArray [.pointer (some (Addr.mk p 0 none)), .int .i64 (q : Int)]) ⟨own, ro⟩ post := by
  refine lift A C hown (Q := fun L' => DqAt p n (dStepE f h q).1 (dStepE f h q).2.1 L') ?_ hk
  clear hk hown post
  intro post hk
  obtain ⟨h1, h4, bh, c, c1, rfl⟩ := hs
  refine f23_call _ _ _ post ?_
  obtain ⟨hbf, hbh, ht, l2, l7, l11⟩ := hd
  have rT : ∀ {K : SV → Prop}, K ⟨some (Addr.mk bh 0 none), n, n⟩ → ∃ x : SV, H.rd ⟨dqE p bh n f h c c1, ro⟩ (Addr.add (Addr.add (Addr.mk p 0 none) 10) 0) (.slice x.a x.len x.cap) ∧ K x := fun hK => by
    refine ⟨_, ?_, hK⟩
    rw [add_mk', add_mk']
    exact rdo _ (.tail _ (.head _)) rfl rfl
  refine ⟨_, rfl, rT ⟨⟨by dsimp only; omega, by dsimp only; omega⟩, within_c ⟨_, rfl, VIf_nb (fun hc => absurd ⟨by omega, by dsimp only; omega⟩ (of_decide_eq_false hc)) (fun _ => ⟨_, rfl, rT ⟨_, rfl, by omega, by dsimp only; omega, ?_⟩⟩)⟩⟩⟩
  intro r _
  rw [add_mk', show 0 + (q : Int).toNat * 4 = q * 4 by simp]
  obtain ⟨E, hE⟩ : ∃ E : (Nat → Int) → (Nat → Int) → List Ent, E = fun f h => dqE p bh n f h c c1 ++ [⟨some r, [.pointer (some (Addr.mk bh (q * 4) none))], 1⟩] := ⟨_, rfl⟩
  have w0 : ∀ {K : H → Prop}, K ⟨E f h, ro⟩ → H.wr ⟨dqE p bh n f h c c1 ++ [⟨some r, [.pointer none], [Value.pointer none].length⟩], ro⟩ (Addr.mk r 0 none) [.pointer (some (Addr.mk bh (q * 4) none))] K := fun hK => by
    subst hE
    exact wro (dqE p bh n f h c c1) ⟨some r, [.pointer none], 1⟩ [] ⟨rfl, trivial⟩ rfl rfl (by simp) hK
  have RP : ∀ {f h : Nat → Int} {K : Option Addr → Prop}, K (some (Addr.mk bh (q * 4) none)) → ∃ x : Option Addr, H.rd ⟨E f h, ro⟩ (Addr.add (Addr.mk r 0 none) 0) (.pointer x) ∧ K x := fun hK => by
    refine ⟨_, ?_, hK⟩
    subst hE
    rw [add_mk']; exact rdo ⟨some r, [.pointer (some (Addr.mk bh (q * 4) none))], 1⟩ (by simp) rfl rfl
  have RF : ∀ {f h : Nat → Int} {K : Int → Prop} (k : Nat), k < 10 → K (f k) → ∃ x : Int, H.rd ⟨E f h, ro⟩ (Addr.add (Addr.add (Addr.mk p 0 none) k) 0) (.int .i64 x) ∧ K x := fun {f h K} k hk hK => by
    refine ⟨_, ?_, hK⟩
    subst hE
    rw [add_mk', add_mk', Nat.add_zero, Nat.zero_add]
    refine rdo ⟨some p, ints (rm 10 f) ++ [.slice (some (Addr.mk bh 0 none)) n n], c⟩ (by simp [dqE]) rfl ?_
    rw [List.getElem?_append_left (by simp [rm_len, hk]), ints_get, rm_get _ hk]; rfl
  have RH : ∀ {f h : Nat → Int} {K : Int → Prop} (j : Nat), j < 4 → K (h (q * 4 + j)) → ∃ x : Int, H.rd ⟨E f h, ro⟩ (Addr.add (Addr.add (Addr.mk bh (q * 4) none) j) 0) (.int .i64 x) ∧ K x := fun {f h K} j hj hK => by
    refine ⟨_, ?_, hK⟩
    subst hE
    rw [add_mk', add_mk', Nat.add_zero]
    exact rd_ints ⟨some bh, ints (rm (n * 4) h), c1⟩ (by simp [dqE]) rfl rfl (rm_get _ (by omega))
  have WF : ∀ {f h : Nat → Int} {v : Int} {K : H → Prop} (k : Nat), k < 10 → K ⟨E (updN f k v) h, ro⟩ → H.wr ⟨E f h, ro⟩ (Addr.mk p k none) [.int .i64 v] K := fun {f h v K} k hk hK => by
    subst hE
    refine wro [⟨some bh, ints (rm (n * 4) h), c1⟩] ⟨some p, ints (rm 10 f) ++ [.slice (some (Addr.mk bh 0 none)) n n], c⟩ [⟨some r, [.pointer (some (Addr.mk bh (q * 4) none))], 1⟩] ⟨rfl, trivial⟩ rfl rfl (by simp [rm_len]; omega) ?_
    have e : spl (ints (rm 10 f) ++ [.slice (some (Addr.mk bh 0 none)) n n]) k [.int .i64 v] = ints (rm 10 (updN f k v)) ++ [.slice (some (Addr.mk bh 0 none)) n n] := by
      rw [← rm_set, ← ints_spl (rm 10 f) k v (by rw [rm_len]; exact hk)]
      unfold spl
      rw [List.take_append_of_le_length (by simp [rm_len]; omega), List.drop_append_of_le_length (by simp [rm_len]; omega)]
      simp
    rw [e]
    exact hK
  have WH : ∀ {f h : Nat → Int} {v : Int} {K : H → Prop} (j : Nat), j < 4 → K ⟨E f (updN h (q * 4 + j) v), ro⟩ → H.wr ⟨E f h, ro⟩ (Addr.add (Addr.mk bh (q * 4) none) j) [.int .i64 v] K := fun {f h v K} j hj hK => by
    subst hE
    rw [add_mk']
    refine wr_ints [] ⟨some bh, ints (rm (n * 4) h), c1⟩ [⟨some p, ints (rm 10 f) ++ [.slice (some (Addr.mk bh 0 none)) n n], c⟩, ⟨some r, [.pointer (some (Addr.mk bh (q * 4) none))], 1⟩] rfl rfl rfl (by rw [rm_len]; omega) ?_
    rw [rm_set]
    exact hK
  have DN : ∀ {f h : Nat → Int} {v : Int} {K : Value → H → Prop}, K (.tuple (List.toArray [.bool true, .int .i64 v, errV none])) ⟨E f (dDone h q), ro⟩ → SemCall Tryd.prog 37 (List.toArray [.int .i64 v, .pointer (some (Addr.mk r 0 none))]) ⟨E f h, ro⟩ K := fun {f h v K} hK => by
    refine f37_call _ _ _ K ?_
    refine RP ⟨_, rfl, rfl, rfl, ?_⟩
    subst hE
    refine wr_gI (vs := [0, 0, 0, 0]) [] ⟨some bh, ints (rm (n * 4) h), c1⟩ [⟨some p, ints (rm 10 f) ++ [.slice (some (Addr.mk bh 0 none)) n n], c⟩, ⟨some r, [.pointer (some (Addr.mk bh (q * 4) none))], 1⟩] rfl rfl rfl (by rw [rm_len]; simp; omega) (ret ?_)
    have e : splI (rm (n * 4) h) (q * 4) [0, 0, 0, 0] = rm (n * 4) (dDone h q) := by
      rw [rm_spl (by simp; omega)]
      congr 1
      funext k
      unfold dDone
      by_cases hx : q * 4 ≤ k ∧ k < q * 4 + 4
      · rw [if_pos hx, if_pos (by simp; exact hx)]
        obtain ⟨d, rfl⟩ : ∃ d, k = q * 4 + d := ⟨k - q * 4, by omega⟩
        rw [show q * 4 + d - q * 4 = d by omega]
        obtain rfl | rfl | rfl | rfl : d = 0 ∨ d = 1 ∨ d = 2 ∨ d = 3 := by omega
        all_goals rfl
      · rw [if_neg hx, if_neg (by simp; omega)]
    rw [e]
    exact hK
  have fin : ∀ {f' h' : Nat → Int} {b : Bool} {g e : Int}, dStepE f h q = (f', h', b, g, e) → VRet ⟨E f' h', ro⟩ (.tuple (List.toArray [.bool b, .int .i64 g, errV (eno 61 e)])) post := fun {f' h' b g e} he => by
    subst hE
    rw [he] at hk
    exact ⟨⟨dqE p bh n f' h' c c1, ro⟩, Gh.drop (by simp), hk _ ⟨h1, h4, bh, c, c1, rfl⟩⟩
  refine w0 (RP ⟨_, rfl, RH 0 (by omega) ⟨by have := hbh (q * 4 + 0); constructor <;> omega, RP ⟨_, rfl, RH 0 (by omega) (VIf_eq (fun a0 => ?_) (fun a0 => ?_))⟩⟩⟩)
  · exact fin (by unfold dStepE; rw [if_pos a0])
  have PL : ∀ {f h : Nat → Int} {i : Int} {K : Value → H → Prop}, 0 ≤ i → K (.pointer (some (Addr.mk p (i.toNat % 8) none))) ⟨E f h, ro⟩ → SemCall Tryd.prog 38 (List.toArray [.pointer (some (Addr.mk p 0 none)), .int .i64 i]) ⟨E f h, ro⟩ K := fun {f h i K} hi hK => by
    refine f38_call _ _ _ K ?_
    obtain ⟨m, rfl⟩ : ∃ m : Nat, i = (m : Int) := ⟨i.toNat, by omega⟩
    have e : Int.tmod (m : Int) 8 = ((m % 8 : Nat) : Int) := rfl
    refine ⟨by decide, _, rfl, ?_, ?_, ret ?_⟩
    · rw [e]; omega
    · rw [e]; omega
    · rw [e, add_mk', add_mk', Int.toNat_natCast, show 0 + 0 + m % 8 * 1 = m % 8 by omega]
      rw [Int.toNat_natCast] at hK
      exact hK
  have RPl : ∀ {f h : Nat → Int} {i : Int} {K : Int → Prop}, K (f (i.toNat % 8)) → ∃ x : Int, H.rd ⟨E f h, ro⟩ (Addr.add (Addr.mk p (i.toNat % 8) none) 0) (.int .i64 x) ∧ K x := fun {f h i K} hK => by
    obtain ⟨x, h1, h2⟩ := RF (f := f) (h := h) (K := K) (i.toNat % 8) (by omega) hK
    refine ⟨x, ?_, h2⟩
    rw [add_mk', add_mk', Nat.zero_add] at h1
    rw [add_mk']; exact h1
  have WP : ∀ {f h : Nat → Int} {i v : Int} {K : H → Prop}, K ⟨E (updN f (i.toNat % 8) v) h, ro⟩ → H.wr ⟨E f h, ro⟩ (Addr.mk p (i.toNat % 8) none) [.int .i64 v] K := fun {f h i v K} hK => WF _ (by omega) hK
  have W9 : ∀ {f h : Nat → Int} {v : Int} {K : H → Prop}, K ⟨E (updN f 9 v) h, ro⟩ → H.wr ⟨E f h, ro⟩ (Addr.add (Addr.mk p 0 none) 9) [.int .i64 v] K := fun {f h v K} hK => by
    rw [add_mk']; exact WF 9 (by omega) hK
  have CS : ∀ {f h : Nat → Int} {o v : Int} {K : Value → H → Prop}, (f 8 = o → K (.bool true) ⟨E (updN f 8 v) h, ro⟩) → (f 8 ≠ o → K (.bool false) ⟨E f h, ro⟩) → SemCall Tryd.prog 39 (List.toArray [.pointer (some (Addr.add (Addr.mk p 0 none) 8)), .int .i64 o, .int .i64 v]) ⟨E f h, ro⟩ K := fun {f h o v K} k1 k2 => by
    refine f39_call _ _ _ _ K ?_
    refine ⟨_, rfl, RF 8 (by omega) (VIf_ne (fun hc => ret (k2 hc)) (fun hc => ⟨_, rfl, ?_⟩))⟩
    rw [add_mk']
    exact WF 8 (by omega) (ret (k1 hc))
  have b8 := hbf 8; have b9 := hbf 9
  have c2 := hbh (q * 4 + 2); have c3 := hbh (q * 4 + 3)
  refine ⟨fun nx h' => ∃ f1 h1, h' = ⟨E f1 h1, ro⟩ ∧ dStepE f h q = (f1, updN h1 (q * 4 + 0) nx, false, 0, 0), ?_, ?_⟩
  · refine VIf_eq (fun a1 => ?_) (fun a1 => VIf_eq (fun a2 => ?_) (fun a2 => VIf_eq (fun a3 => ?_) (fun a3 => VIf_eq (fun a4 => ?_) (fun a4 => VIf_eq (fun a5 => ?_) (fun a5 => VIf_eq (fun a6 => ?_) (fun a6 => VIf_eq (fun a7 => ?_) (fun a7 => VIf_eq (fun a8 => ?_) (fun a8 => VIf_eq (fun a9 => ?_) (fun a9 => VIf_eq (fun a10 => ?_) (fun a10 => VIf_eq (fun a11 => ?_) (fun a11 => VIf_eq (fun a12 => ?_) (fun a12 => ?_))))))))))))
    · refine ⟨_, rfl, RF 9 (by omega) ⟨_, rfl, RF 8 (by omega) ⟨⟨by omega, by omega⟩, VIf_dec (fun hx => DN ⟨_, _, none, rfl, fin (e := 0) (by (simp only [Nat.add_zero] at a1 ⊢; simp [dStepE, dStep, a1, hx]))⟩) (fun hx => gi ⟨_, _, rfl, by (simp only [Nat.add_zero] at a1 ⊢; simp [dStepE, dStep, a1, hx])⟩)⟩⟩⟩
    · have hi := l2 a2
      have S : dStepE f h q = (updN f ((f 9).toNat % 8) (h (q * 4 + 1)), updN h (q * 4 + 0) (h (q * 4 + 0) + 1), false, 0, 0) := by (simp only [Nat.add_zero] at a2 ⊢; simp [dStepE, dStep, a2])
      repeat' first
        | exact gi ⟨_, _, rfl, S⟩
        | refine RP ?_
        | refine RF _ (by omega) ?_
        | refine RH _ (by omega) ?_
        | refine PL hi ?_
        | refine WP ?_
        | refine ⟨_, rfl, ?_⟩
        | refine ⟨?_, ?_⟩
    · exact ⟨_, rfl, RF 9 (by omega) ⟨⟨by omega, by omega⟩, _, rfl, W9 (DN ⟨_, _, none, rfl, fin (e := 0) (by (simp only [Nat.add_zero] at a3 ⊢; simp [dStepE, dStep, a3]))⟩)⟩⟩
    · exact ⟨_, rfl, RF 9 (by omega) ⟨⟨by omega, by omega⟩, _, rfl, W9 (RP ⟨_, rfl, RF 9 (by omega) ⟨_, rfl, WH 3 (by omega) (gi ⟨_, _, rfl, by (simp only [Nat.add_zero] at a4 ⊢; simp [dStepE, dStep, a4, updN_same])⟩)⟩⟩)⟩⟩
    · refine RP ⟨_, rfl, RF 8 (by omega) ⟨_, rfl, WH 2 (by omega) (RP ⟨_, rfl, RH 3 (by omega) (RP ⟨_, rfl, RH 2 (by omega) ?_⟩)⟩)⟩⟩
      have e3 : updN h (q * 4 + 2) (f 8) (q * 4 + 3) = h (q * 4 + 3) := updN_ne (by omega)
      rw [updN_same, e3]
      refine VIf_dec (fun hx => RP ⟨_, rfl, RH 3 (by omega) ?_⟩) (fun hx => RP ⟨_, rfl, RH 3 (by omega) (RP ⟨_, rfl, RH 2 (by omega) ?_⟩)⟩)
      · rw [e3]
        exact PL (by omega) ⟨_, rfl, _, rfl, RPl (DN ⟨_, _, none, rfl, fin (e := 0) (by (simp only [Nat.add_zero] at a5 ⊢; simp [dStepE, dStep, a5, hx]))⟩)⟩
      · rw [updN_same, e3]
        exact VIf_eq (fun he => gi ⟨_, _, rfl, by (simp only [Nat.add_zero] at a5 ⊢; simp [dStepE, dStep, a5, he])⟩) (fun he => gi ⟨_, _, rfl, by (simp only [Nat.add_zero] at a5 ⊢; simp [dStepE, dStep, a5, he, hx])⟩)
    · exact RP ⟨_, rfl, RH 2 (by omega) ⟨_, rfl, W9 (DN ⟨_, _, none, rfl, fin (e := 0) (by (simp only [Nat.add_zero] at a6 ⊢; simp [dStepE, dStep, a6]))⟩)⟩⟩
    · have e2 : updN h (q * 4 + 1) (-1) (q * 4 + 2) = h (q * 4 + 2) := updN_ne (by omega)
      have e3 : updN h (q * 4 + 1) (-1) (q * 4 + 3) = h (q * 4 + 3) := updN_ne (by omega)
      refine RP ⟨_, rfl, WH 1 (by omega) ⟨_, rfl, RP ⟨_, rfl, RH 2 (by omega) (RP ⟨_, rfl, RH 2 (by omega) ?_⟩)⟩⟩⟩
      rw [e2]
      refine ⟨⟨by omega, by omega⟩, CS (fun hc => ⟨_, rfl, (VIf_true _ _).2 ?_⟩) (fun hc => ⟨_, rfl, (VIf_false _ _).2 (gi ⟨_, _, rfl, by (simp only [Nat.add_zero] at a7 ⊢; simp [dStepE, dStep, a7, hc])⟩)⟩)⟩
      have hi := l7 a7
      have e9 : (updN f 8 (h (q * 4 + 2) + 1)) ((h (q * 4 + 3)).toNat % 8) = f ((h (q * 4 + 3)).toNat % 8) := updN_ne (by omega)
      have S : dStepE f h q = (updN f 8 (h (q * 4 + 2) + 1), updN (updN (updN h (q * 4 + 1) (-1)) (q * 4 + 1) (updN f 8 (h (q * 4 + 2) + 1) ((h (q * 4 + 3)).toNat % 8))) (q * 4 + 0) (h (q * 4 + 0) + 1), false, 0, 0) := by (rw [e9]; simp only [Nat.add_zero] at a7 ⊢; simp [dStepE, dStep, a7, hc])
      have R3 : ∀ {f : Nat → Int} {K : Int → Prop}, K (h (q * 4 + 3)) → ∃ x : Int, H.rd ⟨E f (updN h (q * 4 + 1) (-1)), ro⟩ (Addr.add (Addr.add (Addr.mk bh (q * 4) none) 3) 0) (.int .i64 x) ∧ K x := fun hK => RH 3 (by omega) (by rw [e3]; exact hK)
      repeat' first
        | exact gi ⟨_, _, rfl, S⟩
        | refine RP ?_
        | refine R3 ?_
        | refine PL hi ?_
        | refine RPl ?_
        | refine WH _ (by omega) ?_
        | refine ⟨_, rfl, ?_⟩
        | refine ⟨?_, ?_⟩
    · exact RP ⟨_, rfl, RH 2 (by omega) ⟨⟨by omega, by omega⟩, _, rfl, W9 (RP ⟨_, rfl, RH 1 (by omega) (DN ⟨_, _, none, rfl, fin (e := 0) (by (simp only [Nat.add_zero] at a8 ⊢; simp [dStepE, dStep, a8]))⟩)⟩)⟩⟩
    · exact RP ⟨_, rfl, RF 8 (by omega) ⟨_, rfl, WH 2 (by omega) (gi ⟨_, _, rfl, by (simp only [Nat.add_zero] at a9 ⊢; simp [dStepE, dStep, a9])⟩)⟩⟩
    · exact ⟨_, rfl, RF 9 (by omega) (RP ⟨_, rfl, RH 2 (by omega) (VIf_dec (fun hx => DN ⟨_, _, none, rfl, fin (e := 0) (by (simp only [Nat.add_zero] at a10 ⊢; simp [dStepE, dStep, a10, hx]))⟩) (fun hx => gi ⟨_, _, rfl, by (simp only [Nat.add_zero] at a10 ⊢; simp [dStepE, dStep, a10, hx])⟩))⟩)⟩
    · have hi := l11 a11
      have S : dStepE f h q = (f, updN (updN h (q * 4 + 1) (f ((h (q * 4 + 2)).toNat % 8))) (q * 4 + 0) (h (q * 4 + 0) + 1), false, 0, 0) := by (simp only [Nat.add_zero] at a11 ⊢; simp [dStepE, dStep, a11])
      repeat' first
        | exact gi ⟨_, _, rfl, S⟩
        | refine RP ?_
        | refine RH _ (by omega) ?_
        | refine PL hi ?_
        | refine RPl ?_
        | refine WH _ (by omega) ?_
        | refine ⟨_, rfl, ?_⟩
        | refine ⟨?_, ?_⟩
    · refine ⟨_, rfl, RP ⟨_, rfl, RH 2 (by omega) (RP ⟨_, rfl, RH 2 (by omega) ⟨⟨by omega, by omega⟩, CS (fun hc => ⟨_, rfl, VIf_nb (nomatch ·) (fun _ => RP ⟨_, rfl, RH 1 (by omega) (DN ⟨_, _, none, rfl, fin (e := 0) (by (simp only [Nat.add_zero] at a12 ⊢; simp [dStepE, dStep, a12, hc]))⟩)⟩)⟩) (fun hc => ⟨_, rfl, VIf_nb (fun _ => DN ⟨_, _, none, rfl, fin (e := 0) (by (simp only [Nat.add_zero] at a12 ⊢; simp [dStepE, dStep, a12, hc]))⟩) (nomatch ·)⟩)⟩⟩)⟩⟩
    · exact gi ⟨_, _, rfl, by (simp only [Nat.add_zero] at a0 a1 a2 a3 a4 a5 a6 a7 a8 a9 a10 a11 a12 ⊢; simp [dStepE, dStep, a0, a1, a2, a3, a4, a5, a6, a7, a8, a9, a10, a11, a12])⟩
  · rintro _ nx h' ⟨f1, h1, rfl, e⟩
    exact RP ⟨_, rfl, WH 0 (by omega) (fin e)⟩
end Go.Proofs.YtiaopgnnibidlaaDoor
