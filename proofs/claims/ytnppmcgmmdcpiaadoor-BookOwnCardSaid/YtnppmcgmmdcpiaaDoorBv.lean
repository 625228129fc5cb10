import Derived.Test.YtnppmcgmmdcpiaaDoorBu
namespace Go.Proofs.YtnppmcgmmdcpiaaDoor
open Go.Eng
set_option maxRecDepth 20000
/-! ### the closed fact -/
theorem small_c {own : List Ent} {ro : Addr → Option Value} {post : Value → H → Prop} 
    (hk : ∀ sf sc sh ro', (∀ a v, ro a = some v → ro' a = some v) → BkRd ⟨[], ro'⟩ sf sc sh ⟨[4], [[3], [3]], [[0], [0]]⟩ → post (bkV sf sc sh) ⟨own, ro'⟩) : SemCall Tryd.prog 16 (List.toArray []) ⟨own, ro⟩ post := by
  refine SemCall.wf fun hwf => ?_
  refine f16_call _ post ?_
  intro r1 f1 r3 f3 r5 f5 r7 f7 r9 f9 r11 f11 r13 f13 r15 f15
  have w1 : Wf ⟨own ++ [⟨some r1, [Value.slice none 0 0, .slice none 0 0, .slice none 0 0], 3⟩], ro⟩ := hwf.add f1 rfl
  have w3 : Wf ⟨own ++ [⟨some r1, [Value.slice none 0 0, .slice none 0 0, .slice none 0 0], 3⟩] ++ [⟨some r3, [.int .i64 4], 1⟩], ro⟩ := w1.add f3 rfl
  have w5 : Wf ⟨own ++ [⟨some r1, [Value.slice none 0 0, .slice none 0 0, .slice none 0 0], 3⟩] ++ [⟨some r3, [.int .i64 4], 1⟩] ++ [⟨some r5, [.int .i64 3], 1⟩], ro⟩ := w3.add f5 rfl
  have w7 : Wf ⟨own ++ [⟨some r1, [Value.slice none 0 0, .slice none 0 0, .slice none 0 0], 3⟩] ++ [⟨some r3, [.int .i64 4], 1⟩] ++ [⟨some r5, [.int .i64 3], 1⟩] ++ [⟨some r7, [.int .i64 3], 1⟩], ro⟩ := w5.add f7 rfl
  have w9 : Wf ⟨own ++ [⟨some r1, [Value.slice none 0 0, .slice none 0 0, .slice none 0 0], 3⟩] ++ [⟨some r3, [.int .i64 4], 1⟩] ++ [⟨some r5, [.int .i64 3], 1⟩] ++ [⟨some r7, [.int .i64 3], 1⟩] ++ [⟨some r9, [svV ⟨some (Addr.mk r5 0 none), 1, 1⟩, svV ⟨some (Addr.mk r7 0 none), 1, 1⟩], 2⟩], ro⟩ := w7.add f9 rfl
  have w11 : Wf ⟨own ++ [⟨some r1, [Value.slice none 0 0, .slice none 0 0, .slice none 0 0], 3⟩] ++ [⟨some r3, [.int .i64 4], 1⟩] ++ [⟨some r5, [.int .i64 3], 1⟩] ++ [⟨some r7, [.int .i64 3], 1⟩] ++ [⟨some r9, [svV ⟨some (Addr.mk r5 0 none), 1, 1⟩, svV ⟨some (Addr.mk r7 0 none), 1, 1⟩], 2⟩] ++ [⟨some r11, [.int .i64 0], 1⟩], ro⟩ := w9.add f11 rfl
  have w13 : Wf ⟨own ++ [⟨some r1, [Value.slice none 0 0, .slice none 0 0, .slice none 0 0], 3⟩] ++ [⟨some r3, [.int .i64 4], 1⟩] ++ [⟨some r5, [.int .i64 3], 1⟩] ++ [⟨some r7, [.int .i64 3], 1⟩] ++ [⟨some r9, [svV ⟨some (Addr.mk r5 0 none), 1, 1⟩, svV ⟨some (Addr.mk r7 0 none), 1, 1⟩], 2⟩] ++ [⟨some r11, [.int .i64 0], 1⟩] ++ [⟨some r13, [.int .i64 0], 1⟩], ro⟩ := w11.add f13 rfl
  have w15 : Wf ⟨own ++ [⟨some r1, [Value.slice none 0 0, .slice none 0 0, .slice none 0 0], 3⟩] ++ [⟨some r3, [.int .i64 4], 1⟩] ++ [⟨some r5, [.int .i64 3], 1⟩] ++ [⟨some r7, [.int .i64 3], 1⟩] ++ [⟨some r9, [svV ⟨some (Addr.mk r5 0 none), 1, 1⟩, svV ⟨some (Addr.mk r7 0 none), 1, 1⟩], 2⟩] ++ [⟨some r11, [.int .i64 0], 1⟩] ++ [⟨some r13, [.int .i64 0], 1⟩] ++ [⟨some r15, [svV ⟨some (Addr.mk r11 0 none), 1, 1⟩, svV ⟨some (Addr.mk r13 0 none), 1, 1⟩], 2⟩], ro⟩ := w13.add f15 rfl
  refine ⟨rfl, rfl, ?_⟩
  have hcat : own ++ [(⟨some r1, [Value.slice none 0 0, .slice none 0 0, .slice none 0 0], 3⟩ : Ent)] ++ [⟨some r3, [.int .i64 4], 1⟩] ++ [⟨some r5, [.int .i64 3], 1⟩] ++ [⟨some r7, [.int .i64 3], 1⟩] ++ [⟨some r9, [svV ⟨some (Addr.mk r5 0 none), 1, 1⟩, svV ⟨some (Addr.mk r7 0 none), 1, 1⟩], 2⟩] ++ [⟨some r11, [.int .i64 0], 1⟩] ++ [⟨some r13, [.int .i64 0], 1⟩] ++ [⟨some r15, [svV ⟨some (Addr.mk r11 0 none), 1, 1⟩, svV ⟨some (Addr.mk r13 0 none), 1, 1⟩], 2⟩] =
      own ++ ⟨some r1, [Value.slice none 0 0, .slice none 0 0, .slice none 0 0], 3⟩ :: [⟨some r3, [.int .i64 4], 1⟩, ⟨some r5, [.int .i64 3], 1⟩, ⟨some r7, [.int .i64 3], 1⟩, ⟨some r9, [svV ⟨some (Addr.mk r5 0 none), 1, 1⟩, svV ⟨some (Addr.mk r7 0 none), 1, 1⟩], 2⟩, ⟨some r11, [.int .i64 0], 1⟩, ⟨some r13, [.int .i64 0], 1⟩, ⟨some r15, [svV ⟨some (Addr.mk r11 0 none), 1, 1⟩, svV ⟨some (Addr.mk r13 0 none), 1, 1⟩], 2⟩] := by simp
  simp only [add_mk', Nat.zero_add, Nat.add_zero]
  refine bk_out (sf := ⟨some (Addr.mk r3 0 none), 1, 1⟩) (sc := ⟨some (Addr.mk r9 0 none), 2, 2⟩) (sh := ⟨some (Addr.mk r15 0 none), 2, 2⟩) own _ hcat rfl ?_
  rw [hcat] at w15
  have hp : (own ++ (⟨some r3, [.int .i64 4], 1⟩ :: ⟨some r9, [svV ⟨some (Addr.mk r5 0 none), 1, 1⟩, svV ⟨some (Addr.mk r7 0 none), 1, 1⟩], 2⟩ :: ⟨some r15, [svV ⟨some (Addr.mk r11 0 none), 1, 1⟩, svV ⟨some (Addr.mk r13 0 none), 1, 1⟩], 2⟩ :: ([⟨some r5, [.int .i64 3], 1⟩, ⟨some r7, [.int .i64 3], 1⟩] ++ [⟨some r11, [.int .i64 0], 1⟩, ⟨some r13, [.int .i64 0], 1⟩]) : List Ent)).Perm
      (own ++ [⟨some r3, [.int .i64 4], 1⟩, ⟨some r5, [.int .i64 3], 1⟩, ⟨some r7, [.int .i64 3], 1⟩, ⟨some r9, [svV ⟨some (Addr.mk r5 0 none), 1, 1⟩, svV ⟨some (Addr.mk r7 0 none), 1, 1⟩], 2⟩, ⟨some r11, [.int .i64 0], 1⟩, ⟨some r13, [.int .i64 0], 1⟩, ⟨some r15, [svV ⟨some (Addr.mk r11 0 none), 1, 1⟩, svV ⟨some (Addr.mk r13 0 none), 1, 1⟩], 2⟩]) := by
    refine List.Perm.append_left _ (.cons _ ?_)
    refine pm [_, _] [_, _, _] rfl ?_
    refine pm [_, _, _, _] [] rfl ?_
    exact List.Perm.refl _
  have w16 := (w15.sub (own' := own ++ [⟨some r3, [.int .i64 4], 1⟩, ⟨some r5, [.int .i64 3], 1⟩, ⟨some r7, [.int .i64 3], 1⟩, ⟨some r9, [svV ⟨some (Addr.mk r5 0 none), 1, 1⟩, svV ⟨some (Addr.mk r7 0 none), 1, 1⟩], 2⟩, ⟨some r11, [.int .i64 0], 1⟩, ⟨some r13, [.int .i64 0], 1⟩, ⟨some r15, [svV ⟨some (Addr.mk r11 0 none), 1, 1⟩, svV ⟨some (Addr.mk r13 0 none), 1, 1⟩], 2⟩]) (List.Sublist.append_left (.cons _ (List.Sublist.refl _)) _)).perm hp
  have one : ∀ (r : Nat) (v : Int), OwnsSl 1 ⟨some (Addr.mk r 0 none), 1, 1⟩ ⟨some r, [.int .i64 v], 1⟩ (ints [v]) := fun r v => OwnsSl.at0 (n := 1) 1 rfl (by decide) (by decide)
  have two : ∀ (r : Nat) (p q : SV), OwnsSl 1 ⟨some (Addr.mk r 0 none), 2, 2⟩ ⟨some r, [svV p, svV q], 2⟩ ([p, q].map svV) := fun r p q => OwnsSl.at0 (n := 2) 1 rfl (by decide) (by decide)
  obtain ⟨ro', g, m, rd⟩ := bk_frz (b := ⟨[4], [[3], [3]], [[0], [0]]⟩) (ssC := [⟨some (Addr.mk r5 0 none), 1, 1⟩, ⟨some (Addr.mk r7 0 none), 1, 1⟩]) (ssH := [⟨some (Addr.mk r11 0 none), 1, 1⟩, ⟨some (Addr.mk r13 0 none), 1, 1⟩]) w16 (one _ _)
    (two _ _ _) (two _ _ _) (by simpa using (OwPar.nil.app (one r5 3)).app (one r7 3)) (by simpa using (OwPar.nil.app (one r11 0)).app (one r13 0))
  exact ⟨⟨own, ro'⟩, (Gh.drop (List.Sublist.append_left (.cons _ (List.Sublist.refl _)) _)).trans ((Gh.perm hp).trans g), hk _ _ _ ro' m rd⟩
theorem bkS_ok : BOk ⟨[4], [[3], [3]], [[0], [0]]⟩ :=
  ⟨by decide, by decide, by decide, by decide, by decide, by decide, fun t k ht hk => (by decide : ∀ t, t < 2 → ∀ k, k < 1 → (0 ≤ g2 [[3], [3]] t k ∧ g2 [[3], [3]] t k ≤ 1000) ∧ (0 ≤ g2 [[0], [0]] t k ∧ g2 [[0], [0]] t k ≤ g2 [[3], [3]] t k)) t ht k hk,
    fun t k ht hk => (by decide : ∀ t, t < 2 → ∀ k, k < 1 → g2 [[3], [3]] t k ≤ ball ⟨[4], [[3], [3]], [[0], [0]]⟩ k) t ht k hk⟩
theorem bkT_ok : BOk ⟨[2], [[3], [3]], [[2], [0]]⟩ :=
  ⟨by decide, by decide, by decide, by decide, by decide, by decide, fun t k ht hk => (by decide : ∀ t, t < 2 → ∀ k, k < 1 → (0 ≤ g2 [[3], [3]] t k ∧ g2 [[3], [3]] t k ≤ 1000) ∧ (0 ≤ g2 [[2], [0]] t k ∧ g2 [[2], [0]] t k ≤ g2 [[3], [3]] t k)) t ht k hk,
    fun t k ht hk => (by decide : ∀ t, t < 2 → ∀ k, k < 1 → g2 [[3], [3]] t k ≤ ball ⟨[2], [[3], [3]], [[2], [0]]⟩ k) t ht k hk⟩
theorem bkS_row : brow ⟨[4], [[3], [3]], [[0], [0]]⟩ ≠ none := by decide
theorem bkS_ask : bask ⟨[4], [[3], [3]], [[0], [0]]⟩ 0 [2] = 0 := by
  have h : BAsk ⟨[4], [[3], [3]], [[0], [0]]⟩ 0 [2] := ⟨bkS_ok, by decide, by decide, by decide, by decide⟩
  rw [bask, if_neg (fun hc => hc (basked_of h)), if_neg, if_neg, if_neg]
  · decide
  · rintro ⟨k, hk, hc⟩
    exact absurd hc ((by decide : ∀ k, k < 1 → ¬ (gI [2] k > gI [4] k)) k hk)
  · rintro ⟨k, hk, hc⟩
    exact absurd hc ((by decide : ∀ k, k < 1 → ¬ (g2 [[0], [0]] (0 : Int).toNat k + gI [2] k > g2 [[3], [3]] (0 : Int).toNat k)) k hk)
theorem bkT_ask : bask ⟨[2], [[3], [3]], [[2], [0]]⟩ 1 [2] = 7 := by
  have h : BAsk ⟨[2], [[3], [3]], [[2], [0]]⟩ 1 [2] := ⟨bkT_ok, by decide, by decide, by decide, by decide⟩
  rw [bask, if_neg (fun hc => hc (basked_of h)), if_neg, if_neg, if_pos]
  · decide
  · rintro ⟨k, hk, hc⟩
    exact absurd hc ((by decide : ∀ k, k < 1 → ¬ (gI [2] k > gI [2] k)) k hk)
  · rintro ⟨k, hk, hc⟩
    exact absurd hc ((by decide : ∀ k, k < 1 → ¬ (g2 [[2], [0]] (1 : Int).toNat k + gI [2] k > g2 [[3], [3]] (1 : Int).toNat k)) k hk)
theorem bmv_S : bmv ⟨[4], [[3], [3]], [[0], [0]]⟩ (0 : Int).toNat [2] 1 = ⟨[2], [[3], [3]], [[2], [0]]⟩ := by rfl
theorem fact_line : lineF (lineB 97 0 [2]) = [97, 32, 48, 32, 50, 32, 54, 56, 51, 10] := by
  have d0 : Lib.decDigits 0 = [48] := by simp [Lib.decDigits]
  have d2 : Lib.decDigits 2 = [50] := by simp [Lib.decDigits]
  have d683 : Lib.decDigits 683 = [54, 56, 51] := by simp [Lib.decDigits]
  have e1 : lineB 97 0 [2] = [97, 32, 48, 32, 50] := by
    simp only [lineB, List.flatMap_cons, List.flatMap_nil]
    rw [show (0 : Int).toNat = 0 from rfl, show (2 : Int).toNat = 2 from rfl, d0, d2]
    rfl
  have e2 : sumB [97, 32, 48, 32, 50] = 683 := by decide
  rw [e1, lineF, e2, d683]
  rfl
theorem fact_c {own : List Ent} {ro : Addr → Option Value} {post : Value → H → Prop} {T : Nat} (hG : HasErrT ro) (hT : shE 1 T 20 ∈ own) (hTab : HasTab ro) (hk : ∀ ro', (∀ a v, ro a = some v → ro' a = some v) → post (.bool true) ⟨own, ro'⟩) :
    SemCall Tryd.prog 5 (List.toArray []) ⟨own, ro⟩ post := by
  refine f5_call _ post ?_
  refine small_c (fun sf sc sh ro1 m1 hb => ⟨sf, sc, sh, rfl, ?_⟩)
  refine new_c (hb.mono (by simp) (fun _ _ h => h)) (fun hc => absurd (bcheck_zero.2 bkS_ok) hc) (fun _ hr => absurd hr bkS_row) (fun _ _ s0 ro2 m2 hB0 => ⟨_, none, rfl, ?_⟩)
  have hTm : ∀ {X}, shE 1 T 20 ∈ own ++ X := fun {X} => List.mem_append_left _ hT
  have c0 : bcode ⟨⟨[4], [[3], [3]], [[0], [0]]⟩, [], 0⟩ false 0 [2] = 0 := by unfold bcode; rw [if_neg (by decide)]; simpa using bkS_ask
  have p0 : bput ⟨⟨[4], [[3], [3]], [[0], [0]]⟩, [], 0⟩ false 0 [2] = ⟨⟨[2], [[3], [3]], [[2], [0]]⟩, [97, 32, 48, 32, 50, 32, 54, 56, 51, 10], 1⟩ := by
    rw [bput_ok c0]
    simp only [Bool.false_eq_true, if_false, bmv_S, fact_line, List.nil_append, Nat.zero_add]
  have c1 : bcode ⟨⟨[2], [[3], [3]], [[2], [0]]⟩, [97, 32, 48, 32, 50, 32, 54, 56, 51, 10], 1⟩ false 1 [2] = 7 := by unfold bcode; rw [if_neg (by decide)]; simpa using bkT_ask
  have p1 : bput ⟨⟨[2], [[3], [3]], [[2], [0]]⟩, [97, 32, 48, 32, 50, 32, 54, 56, 51, 10], 1⟩ false 1 [2] = ⟨⟨[2], [[3], [3]], [[2], [0]]⟩, [97, 32, 48, 32, 50, 32, 54, 56, 51, 10], 1⟩ := bput_err (by rw [c1]; decide)
  refine ⟨fun c h => c = false ∧ ∃ s ro5 X, (∀ a v, ro a = some v → ro5 a = some v) ∧ BOO s ⟨⟨[2], [[3], [3]], [[2], [0]]⟩, [97, 32, 48, 32, 50, 32, 54, 56, 51, 10], 1⟩ ro5 ∧ s.r = s0.r ∧ h = ⟨own ++ (boL s ++ X), ro5⟩, VIf_nnil ?_, ?_⟩
  · intro r12 f12
    refine SemCall.frz (sz := 1) (s := ⟨some (Addr.mk r12 0 none), 1, 1⟩) (xs := ints [2]) (own ++ boL s0) ⟨some r12, [.int .i64 2], 1⟩ [] rfl (OwnsSl.at0 (n := 1) 1 rfl (by decide) (by decide)) (fun ro3 m3 hw3 => ?_)
    have mm3 : ∀ a v, ro a = some v → ro3 a = some v := fun a v h => m3 a v (m2 a v (m1 a v h))
    have hwr : RdSl ⟨[], ro3⟩ ⟨some (Addr.mk r12 0 none), 1, 1⟩ (ints [2]) := hw3.sl
    rw [List.append_nil]
    refine ask_c (sw := ⟨some (Addr.mk r12 0 none), 1, 1⟩) own [] (by simp) hTm (hTab.up mm3) (hB0.up m3) hwr (fun s1 ro4 m4 hB1 hr1 => ?_)
    rw [c0]
    rw [p0] at hB1
    refine ⟨none, rfl, VIf_nnil ?_⟩
    intro r18 f18
    refine SemCall.frz (sz := 1) (s := ⟨some (Addr.mk r18 0 none), 1, 1⟩) (xs := ints [2]) (own ++ (boL s1 ++ [])) ⟨some r18, [.int .i64 2], 1⟩ [] rfl (OwnsSl.at0 (n := 1) 1 rfl (by decide) (by decide)) (fun ro5 m5 hw5 => ?_)
    have mm5 : ∀ a v, ro a = some v → ro5 a = some v := fun a v h => m5 a v (m4 a v (mm3 a v h))
    have hwr5 : RdSl ⟨[], ro5⟩ ⟨some (Addr.mk r18 0 none), 1, 1⟩ (ints [2]) := hw5.sl
    rw [List.append_nil, ← hr1]
    refine ask_c (sw := ⟨some (Addr.mk r18 0 none), 1, 1⟩) own [] rfl hTm (hTab.up mm5) (hB1.up m5) hwr5 (fun s2 ro6 m6 hB2 hr2 => ?_)
    rw [c1]
    rw [p1] at hB2
    refine ⟨_, rfl, says_same' (hG.up (fun a v h => m6 a v (mm5 a v h))) rfl ⟨_, rfl, gi ⟨rfl, s2, ro6, [], fun a v h => m6 a v (mm5 a v h), hB2, hr2, rfl⟩⟩⟩
  · rintro _ c _ ⟨rfl, s, ro5, X, m5, hB, hr, rfl⟩
    refine VIf_b (nomatch ·) (fun _ => ?_)
    rw [← hr]
    refine text_c hB own X rfl ⟨_, rfl, ⟨⟨own, ro5⟩, Gh.drop (by simp), ?_⟩⟩
    have e : (ByteArray.toList (bs [97, 32, 48, 32, 50, 32, 54, 56, 51, 10]) == ByteArray.toList (ByteArray.mk (List.toArray [(97 : UInt8), (32 : UInt8), (48 : UInt8), (32 : UInt8), (50 : UInt8), (32 : UInt8), (54 : UInt8), (56 : UInt8), (51 : UInt8), (10 : UInt8)]))) = true := by
      rw [show (ByteArray.mk (List.toArray [(97 : UInt8), (32 : UInt8), (48 : UInt8), (32 : UInt8), (50 : UInt8), (32 : UInt8), (54 : UInt8), (56 : UInt8), (51 : UInt8), (10 : UInt8)])) = bs [97, 32, 48, 32, 50, 32, 54, 56, 51, 10] from rfl]
      exact beq_self_eq_true _
    dsimp only
    rw [e]
    exact hk ro5 m5
end Go.Proofs.YtnppmcgmmdcpiaaDoor
