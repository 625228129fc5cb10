import Derived.Test.YtnppmcgmmdcpiaaGreatDoorKG
import Derived.Test.YtnppmcgmmdcpiaaGreatDoorKD
namespace Go.Proofs.YtnppmcgmmdcpiaaGreatDoor
open Go.Eng
set_option maxRecDepth 20000
/-! ### BookOpens -/
set_option maxHeartbeats 1000000 in
theorem bookOpens_law {b : Bk} {sf sc sh : SV} {t0 : List UInt8} {ro : Addr → Option Value} {T : Nat} (hG : HasErrT ro) (hTab : HasTab ro) (hN : HasNum ro) (hM : HasMax ro) (hb : BkRd ⟨[], ro⟩ sf sc sh b) :
    f4_sem sf sc sh (bs t0) ⟨[shE 4 T 20], ro⟩ (fun v _ => v = .bool true) := by
  unfold f4_sem
  intro r1 _
  simp only [bk_row, add_mk', Nat.zero_add, Nat.add_zero]
  have hm : ∀ X, bkE r1 sf sc sh ∈ [shE 4 T 20] ++ [bkE r1 sf sc sh] ++ X := fun X => by simp
  have hm' : bkE r1 sf sc sh ∈ [shE 4 T 20] ++ [bkE r1 sf sc sh] := by simp
  refine ⟨sf, bkE_0 hm', sc, bkE_1 hm', sh, bkE_2 hm', ?_⟩
  have zrow : ∀ r15, (⟨some r15, [Value.slice none 0 0, .slice none 0 0, .slice none 0 0, .string ByteArray.empty, .int .i64 0], List.length [Value.slice none 0 0, .slice none 0 0, .slice none 0 0, .string ByteArray.empty, .int .i64 0]⟩ : Ent) = dE r15 nilV nilV nilV [] 0 := fun _ => rfl
  -- where something is wrong
  have wrong : ∀ (ro' : Addr → Option Value) (many e : Int), e ≠ 0 → (∀ a v, ro a = some v → ro' a = some v) →
      (∀ (own : List Ent) (post : Value → H → Prop), shE 4 T 20 ∈ own → (∀ ro2, (∀ a v, ro' a = some v → ro2 a = some v) → post (.tuple (List.toArray [.pointer none, .int .i64 many, errV (eno 57 e)])) ⟨own, ro2⟩) → SemCall Tryz.prog 14 (List.toArray [bkV sf sc sh, .string (bs t0)]) ⟨own, ro'⟩ post) →
      ∃ x8 x9 x10 : SV, ∃ x11 : ByteArray, ∃ x12 x13 x14 : Int, Value.tuple (List.toArray [dV nilV nilV nilV [] 0, .int .i64 many, .int .i64 e]) = .tuple (List.toArray [.agg (List.toArray [.slice x8.a x8.len x8.cap, .slice x9.a x9.len x9.cap, .slice x10.a x10.len x10.cap, .string x11, .int .i64 x12]), .int .i64 x13, .int .i64 x14]) ∧
        H.new ⟨[shE 4 T 20] ++ [bkE r1 sf sc sh], ro'⟩ [.slice none 0 0, .slice none 0 0, .slice none 0 0, .string ByteArray.empty, .int .i64 0] fun r15 h16 =>
        ([Value.slice x8.a x8.len x8.cap, .slice x9.a x9.len x9.cap, .slice x10.a x10.len x10.cap, .string x11, .int .i64 x12]).length = 5 ∧ (Program.underlying Tryz.prog 39).isSome = true ∧
        H.wr h16 (Addr.mk r15 0 none) [.slice x8.a x8.len x8.cap, .slice x9.a x9.len x9.cap, .slice x10.a x10.len x10.cap, .string x11, .int .i64 x12] fun h17 =>
        ∃ x18 : SV, H.rd h17 (Addr.mk r1 0 none) (.slice x18.a x18.len x18.cap) ∧ ∃ x19 : SV, H.rd h17 (Addr.mk r1 1 none) (.slice x19.a x19.len x19.cap) ∧ ∃ x20 : SV, H.rd h17 (Addr.mk r1 2 none) (.slice x20.a x20.len x20.cap) ∧
        SemCall Tryz.prog 14 (List.toArray [.agg (List.toArray [.slice x18.a x18.len x18.cap, .slice x19.a x19.len x19.cap, .slice x20.a x20.len x20.cap]), .string (bs t0)]) h17 fun v21 h22 =>
        ∃ x23 : Option Addr, ∃ x24 : Int, ∃ x25 : Option (TypeId × Value), v21 = .tuple (List.toArray [.pointer x23, .int .i64 x24, errV x25]) ∧
        ∃ R26 : Bool → H → Prop, (VIf (x14 != 0) (∃ h27, Gh h22 h27 ∧ R26 true h27) (isIfaceV (errV x25) = true ∧ (∃ h28, Gh h22 h28 ∧ R26 (!(isNilV (errV x25))) h28))) ∧
        ∀ (_ : F) (x29 : Bool) (h30 : H), R26 x29 h30 → f4_J1 (fun v _ => v = .bool true) x13 x14 r15 x23 x24 x25 x29 h30 := by
    intro ro' many e he m hcall
    refine ⟨nilV, nilV, nilV, bs [], 0, many, e, rfl, ?_⟩
    intro r15 _
    rw [zrow]
    refine ⟨rfl, rfl, wro ([shE 4 T 20] ++ [bkE r1 sf sc sh]) (dE r15 nilV nilV nilV [] 0) [] ⟨rfl, rfl, rfl, rfl, rfl, trivial⟩ rfl rfl (by simp [dE]) ?_⟩
    refine ⟨sf, bkE_0 (hm _), sc, bkE_1 (hm _), sh, bkE_2 (hm _), hcall _ _ (by simp) (fun ro2 m2 => ⟨none, many, eno 57 e, rfl, fun c h => c = true ∧ ∃ own, h = (⟨own, ro2⟩ : H), VIf_ne (fun _ => ⟨_, Gh.refl _, rfl, _, rfl⟩) (fun h => absurd h he), ?_⟩)⟩
    rintro _ _ _ ⟨rfl, own, rfl⟩
    refine ⟨fun _ => ⟨fun c h => c = true ∧ True, says_same' (hG.up (fun a v h => m2 a v (m a v h))) rfl ⟨_, rfl, VIf_b (fun _ => ⟨_, Gh.refl _, by simp, trivial⟩) (nomatch ·)⟩, ?_⟩, (nomatch ·)⟩
    rintro _ _ _ ⟨rfl, _⟩
    exact ret rfl
  refine dopen_c hb (fun hc ro' m => ?_) (fun ho hr ro' m => ?_) (fun ho hr hl ro' m => ?_) (fun ho hr hl at' e ro' hbo he m => ?_) (fun ho hr hl x y1 y2 y3 ro' hbo m hy hin => ?_)
  · exact wrong ro' 0 (bcheck b) hc m (fun own post hT hk => open_c hT (hTab.up m) (hN.up m) (hM.up m) (hb.mono (by simp) m) (fun _ => hk ro' (fun _ _ h => h)) (fun ho => absurd (bcheck_zero.2 ho) hc) (fun ho => absurd (bcheck_zero.2 ho) hc) (fun ho => absurd (bcheck_zero.2 ho) hc) (fun ho => absurd (bcheck_zero.2 ho) hc))
  · exact wrong ro' 0 7 (by decide) m (fun own post hT hk => open_c hT (hTab.up m) (hN.up m) (hM.up m) (hb.mono (by simp) m) (fun hc => absurd (bcheck_zero.2 ho) hc) (fun _ _ => hk ro' (fun _ _ h => h)) (fun _ hr' => absurd hr hr') (fun _ hr' => absurd hr hr') (fun _ hr' => absurd hr hr'))
  · exact wrong ro' 0 4 (by decide) m (fun own post hT hk => open_c hT (hTab.up m) (hN.up m) (hM.up m) (hb.mono (by simp) m) (fun hc => absurd (bcheck_zero.2 ho) hc) (fun _ hr' => absurd hr' hr) (fun _ _ _ ro2 m2 => hk ro2 m2) (fun _ _ hl' => by omega) (fun _ _ hl' => by omega))
  · exact wrong ro' at' e he m (fun own post hT hk => open_c hT (hTab.up m) (hN.up m) (hM.up m) (hb.mono (by simp) m) (fun hc => absurd (bcheck_zero.2 ho) hc) (fun _ hr' => absurd hr' hr) (fun _ _ hl' => by omega) (fun _ _ _ at2 e2 ro2 hbo2 _ m2 => by
      rw [hbo] at hbo2
      cases hbo2
      exact hk ro2 m2) (fun _ _ _ x s ro2 hbo2 => by rw [hbo] at hbo2; cases hbo2))
  · refine ⟨y1, y2, y3, bs x.l, _, _, _, rfl, ?_⟩
    intro r15 _
    rw [zrow]
    refine ⟨rfl, rfl, wro ([shE 4 T 20] ++ [bkE r1 sf sc sh]) (dE r15 nilV nilV nilV [] 0) [] ⟨rfl, rfl, rfl, rfl, rfl, trivial⟩ rfl rfl (by simp [dE]) ?_⟩
    rw [show (⟨(dE r15 nilV nilV nilV [] 0).aid, spl (dE r15 nilV nilV nilV [] 0).cells 0 [.slice y1.a y1.len y1.cap, .slice y2.a y2.len y2.cap, .slice y3.a y3.len y3.cap, .string (bs x.l), .int .i64 (x.n : Int)], (dE r15 nilV nilV nilV [] 0).cap⟩ : Ent) = dE r15 y1 y2 y3 x.l x.n from rfl]
    refine ⟨sf, bkE_0 (hm _), sc, bkE_1 (hm _), sh, bkE_2 (hm _), ?_⟩
    refine open_c (T := T) (by simp) (hTab.up m) (hN.up m) (hM.up m) (hb.mono (by simp) m) (fun hc => absurd (bcheck_zero.2 ho) hc) (fun _ hr' => absurd hr' hr) (fun _ _ hl' => by omega) (fun _ _ _ at2 e2 ro2 hbo2 => by rw [hbo] at hbo2; cases hbo2) (fun _ _ _ x2 s ro2 hbo2 m2 hB => ?_)
    rw [hbo] at hbo2
    cases hbo2
    have hd : ∀ X, dE r15 y1 y2 y3 x.l x.n ∈ [shE 4 T 20] ++ [bkE r1 sf sc sh] ++ dE r15 y1 y2 y3 x.l x.n :: [] ++ X := fun X => by simp
    refine ⟨some (Addr.mk s.r 0 none), (x.n : Int), none, rfl, fun c h => c = false ∧ h = (⟨[shE 4 T 20] ++ [bkE r1 sf sc sh] ++ dE r15 y1 y2 y3 x.l x.n :: [] ++ boL s, ro2⟩ : H), VIf_ne (fun h => absurd rfl h) (fun _ => ⟨rfl, _, Gh.refl _, rfl, rfl⟩), ?_⟩
    rintro _ _ _ ⟨rfl, rfl⟩
    unfold f4_J1
    simp only [add_mk', Nat.zero_add, Nat.add_zero]
    refine ⟨(nomatch ·), fun _ => ⟨fun c h => c = true, VIf_eq (fun _ => ?_) (fun h => absurd rfl h), ?_⟩⟩
    · refine ⟨bs x.l, dE_rd (hd _) 3 rfl, text_c hB ([shE 4 T 20] ++ [bkE r1 sf sc sh] ++ dE r15 y1 y2 y3 x.l x.n :: []) [] (by simp) ⟨OwnExt.same, _, rfl, ?_⟩⟩
      rw [bs_beq]
      refine VIf_dec (fun _ => ⟨y1, dE_rd (hd _) 0 rfl, y2, dE_rd (hd _) 1 rfl, y3, dE_rd (hd _) 2 rfl, bank_ro hB ([shE 4 T 20] ++ [bkE r1 sf sc sh] ++ dE r15 y1 y2 y3 x.l x.n :: []) [] (by simp) (fun z5 z6 z7 ro5 m5 hz => ⟨OwnExt.same, z5, z6, z7, rfl, ?_⟩)⟩) (fun h => absurd rfl h)
      exact same_banks_c (hz.mono (by simp) (fun _ _ h => h)) (hy.mono (by simp) (fun a v h => m5 a v (m2 a v h))) hB.sh.sml (fun _ => ⟨true, rfl, _, Gh.refl _, rfl⟩) (fun h => absurd rfl h)
    · rintro _ _ _ rfl
      exact ret rfl
theorem bookOpens_c {b : Bk} {sf sc sh : SV} {s : ByteArray} {ro : Addr → Option Value} {T : Nat} (hG : HasErrT ro) (hTab : HasTab ro) (hN : HasNum ro) (hM : HasMax ro) (hb : BkRd ⟨[], ro⟩ sf sc sh b) :
    SemCall Tryz.prog 4 #[bkV sf sc sh, .string s] ⟨[shE 4 T 20], ro⟩ (fun v _ => v = .bool true) := by
  rw [bs_of s]
  exact f4_call sf sc sh _ _ _ (bookOpens_law hG hTab hN hM hb)
end Go.Proofs.YtnppmcgmmdcpiaaGreatDoor
