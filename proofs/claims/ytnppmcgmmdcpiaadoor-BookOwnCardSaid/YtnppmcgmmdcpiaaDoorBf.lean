import Derived.Test.YtnppmcgmmdcpiaaDoorBe
namespace Go.Proofs.YtnppmcgmmdcpiaaDoor
open Go.Eng
set_option maxRecDepth 20000
/-! ### a bank's copy, and how banks are shaped -/
set_option maxHeartbeats 1600000 in
theorem fresh_c {b : Bk} {sf sc sh : SV} {own : List Ent} {ro : Addr → Option Value} {post : Value → H → Prop} (hb : BkRd ⟨own, ro⟩ sf sc sh b) (ho : BSh b)
    (hk : ∀ (ef eC eH : Ent) (sF sC sH : SV) (X Y : List Ent) (ssC ssH : List SV), Wf ⟨own ++ (ef :: eC :: eH :: (X ++ Y)), ro⟩ → OwnsSl 1 sF ef (ints b.free) → OwnsSl 1 sC eC (ssC.map svV) → OwnsSl 1 sH eH (ssH.map svV) → OwPar X ssC b.claim → OwPar Y ssH b.has → post (bkV sF sC sH) ⟨own ++ (ef :: eC :: eH :: (X ++ Y)), ro⟩) :
    SemCall Tryd.prog 17 (List.toArray [bkV sf sc sh]) ⟨own, ro⟩ post := by
  refine SemCall.wf fun hwf => ?_
  refine f17_call sf sc sh _ post ?_
  intro r1 hf1 r3 hf3
  simp only [add_mk', Nat.zero_add, Nat.add_zero]
  have fl := hb.fl
  have cl := hb.cl
  have hl := hb.hl
  have hhl := ho.hl
  have hn3 := ho.n3
  have hm5 := ho.m5
  obtain ⟨E3, hE3⟩ : ∃ E3 : Ent, E3 = ⟨some r3, [Value.slice none 0 0, .slice none 0 0, .slice none 0 0], 3⟩ := ⟨_, rfl⟩
  have hE3' : (⟨some r3, [Value.slice none 0 0, .slice none 0 0, .slice none 0 0], List.length [Value.slice none 0 0, .slice none 0 0, .slice none 0 0]⟩ : Ent) = E3 := by rw [hE3]; rfl
  have hE1' : (⟨some r1, [Value.slice sf.a sf.len sf.cap, .slice sc.a sc.len sc.cap, .slice sh.a sh.len sh.cap], List.length [Value.slice sf.a sf.len sf.cap, .slice sc.a sc.len sc.cap, .slice sh.a sh.len sh.cap]⟩ : Ent) = bkE r1 sf sc sh := rfl
  have w1 := Wf.add (e := bkE r1 sf sc sh) hwf hf1 rfl
  rw [hE1'] at hf3
  have w3 := Wf.add (e := E3) w1 hf3 (by rw [hE3]; rfl)
  rw [hE1', hE3']
  have hup : ∀ {X : List Ent}, BkRd ⟨own ++ bkE r1 sf sc sh :: X, ro⟩ sf sc sh b := fun {X} => hb.mono (fun e he => List.mem_append_left _ he) (fun _ _ h => h)
  have hE : ∀ {X : List Ent}, bkE r1 sf sc sh ∈ own ++ bkE r1 sf sc sh :: X := fun {X} => by simp
  have hc2 : own ++ [bkE r1 sf sc sh] ++ [E3] = own ++ bkE r1 sf sc sh :: [E3] := by simp
  rw [hc2] at w3 ⊢
  refine ⟨sf, bkE_0 hE, SemCall.wfp (clone_c hup.f (by omega) (fun s8 ef of w8 => ⟨s8, rfl, ?_⟩))⟩
  have l8 := of.sl_len
  rw [ints_length] at l8
  have hc3 : own ++ bkE r1 sf sc sh :: [E3] ++ [ef] = own ++ bkE r1 sf sc sh :: E3 :: [ef] := by simp
  rw [hc3] at w8 ⊢
  intro r9 hf9
  have hE9' : (⟨some r9, [Value.slice none 0 0, .slice none 0 0, .slice none 0 0], List.length [Value.slice none 0 0, .slice none 0 0, .slice none 0 0]⟩ : Ent) = bkE r9 ⟨none, 0, 0⟩ ⟨none, 0, 0⟩ ⟨none, 0, 0⟩ := rfl
  have w9 := Wf.add (e := bkE r9 ⟨none, 0, 0⟩ ⟨none, 0, 0⟩ ⟨none, 0, 0⟩) w8 hf9 rfl
  rw [hE9']
  refine ⟨rfl, rfl, ?_⟩
  refine wro (own ++ bkE r1 sf sc sh :: E3 :: [ef]) (bkE r9 ⟨none, 0, 0⟩ ⟨none, 0, 0⟩ ⟨none, 0, 0⟩) [] ⟨rfl, rfl, rfl, trivial⟩ rfl rfl (by simp [bkE]) ?_
  have hE9 : (⟨(bkE r9 ⟨none, 0, 0⟩ ⟨none, 0, 0⟩ ⟨none, 0, 0⟩).aid, spl (bkE r9 ⟨none, 0, 0⟩ ⟨none, 0, 0⟩ ⟨none, 0, 0⟩).cells 0 [.slice s8.a s8.len s8.cap, .slice none 0 0, .slice none 0 0], (bkE r9 ⟨none, 0, 0⟩ ⟨none, 0, 0⟩ ⟨none, 0, 0⟩).cap⟩ : Ent) = bkE r9 s8 ⟨none, 0, 0⟩ ⟨none, 0, 0⟩ := rfl
  rw [hE9]
  have w10 : Wf ⟨own ++ bkE r1 sf sc sh :: E3 :: [ef] ++ [bkE r9 s8 ⟨none, 0, 0⟩ ⟨none, 0, 0⟩], ro⟩ := w9.mid rfl
  -- the layout
  let L : Ent → SV → SV → Ent → Ent → List Ent → List Ent → List Ent := fun ef sC sH eC eH X Y => own ++ bkE r1 sf sc sh :: E3 :: ef :: bkE r9 s8 sC sH :: eC :: eH :: (X ++ Y)
  refine ⟨sc, bkE_1 (r := r1) (sf := sf) (sh := sh) (by simp), ?_⟩
  refine ⟨fun h => ∃ (eC eH : Ent) (sC sH : SV) (X Y : List Ent) (ssC ssH : List SV), h = ⟨L ef sC sH eC eH X Y, ro⟩ ∧ Wf h ∧ OwnsSl 1 sC eC (ssC.map svV) ∧ OwnsSl 1 sH eH (ssH.map svV) ∧ OwPar X ssC b.claim ∧ OwPar Y ssH b.has,
    ⟨fun n x h => ∃ (k : Nat) (eC eH : Ent) (sC sH : SV) (X Y : List Ent) (ssC ssH : List SV), x = (k : Int) ∧ k ≤ b.claim.length ∧ n = b.claim.length - k ∧ h = ⟨L ef sC sH eC eH X Y, ro⟩ ∧ Wf h ∧ OwnsSl 1 sC eC (ssC.map svV) ∧ OwnsSl 1 sH eH (ssH.map svV) ∧ OwPar X ssC (b.claim.take k) ∧ OwPar Y ssH (b.has.take k),
      ⟨_, ⟨L ef ⟨none, 0, 0⟩ ⟨none, 0, 0⟩ ⟨none, [], 0⟩ ⟨none, [], 0⟩ [] [], ro⟩, ?_, 0, _, _, _, _, [], [], [], [], rfl, Nat.zero_le _, rfl, rfl, ?_, OwnsSl.nil 1, OwnsSl.nil 1, OwPar.nil, OwPar.nil⟩, ?_⟩, ?_⟩
  · have g1 := Gh.phantom (own ++ bkE r1 sf sc sh :: E3 :: [ef] ++ [bkE r9 s8 ⟨none, 0, 0⟩ ⟨none, 0, 0⟩]) [] ro 0
    have g2 := Gh.phantom (own ++ bkE r1 sf sc sh :: E3 :: [ef] ++ [bkE r9 s8 ⟨none, 0, 0⟩ ⟨none, 0, 0⟩]) [⟨none, [], 0⟩] ro 0
    simpa [L] using g1.trans g2
  · have w11 := Wf.ph (A := own ++ bkE r1 sf sc sh :: E3 :: [ef] ++ [bkE r9 s8 ⟨none, 0, 0⟩ ⟨none, 0, 0⟩]) (C := []) (by simpa using w10)
    have w12 := Wf.ph (A := own ++ bkE r1 sf sc sh :: E3 :: [ef] ++ [bkE r9 s8 ⟨none, 0, 0⟩ ⟨none, 0, 0⟩]) (C := [⟨none, [], 0⟩]) (by simpa using w11)
    simpa [L] using w12
  · rintro n _ x _ ⟨k, eC, eH, sC, sH, X, Y, ssC, ssH, rfl, hk', rfl, rfl, hw', oC, oH, pC, pH⟩
    refine VIf_dec (fun hi => ?_) (fun hi => gi ⟨eC, eH, sC, sH, X, Y, ssC, ssH, rfl, hw', oC, oH, ?_, ?_⟩)
    rotate_left
    · rwa [List.take_of_length_le (by omega)] at pC
    · rwa [List.take_of_length_le (by omega)] at pH
    have hkc : k < b.claim.length := by omega
    have hkh : k < b.has.length := by omega
    have lC := oC.sl_len
    have lH := oH.sl_len
    rw [List.length_map] at lC lH
    have pl := pC.l2
    have pl2 := pH.l2
    rw [List.length_take] at pl pl2
    have eclaim : b.claim[k]? = some ((b.claim[k]?).getD []) := by rw [List.getElem?_eq_getElem hkc]; rfl
    have ehas : b.has[k]? = some ((b.has[k]?).getD []) := by rw [List.getElem?_eq_getElem hkh]; rfl
    obtain ⟨cn1, cn2⟩ := ho.cn k hkc
    refine ⟨sC, bkE_1 (r := r9) (sf := s8) (sh := sH) (by simp [L]), sc, bkE_1 hE, hup.ca (by omega) (by omega) fun xc hxc hlc => ?_⟩
    rw [Int.toNat_natCast] at hxc hlc
    refine SemCall.wfp (clone_c hxc (by omega) (fun s26 e26 o26 w26 => ⟨⟨[e26], List.Perm.refl _⟩, s26, rfl, ?_⟩))
    refine app_rowW grows_rows (vs := [svV s26]) rfl ⟨rfl, trivial⟩ (own ++ bkE r1 sf sc sh :: E3 :: ef :: [bkE r9 s8 sC sH]) eC (eH :: (X ++ Y) ++ [e26]) (by simp [L]) oC w26 (by omega) (fun sC2 eC2 oC2 lC2 wC2 => ?_)
    refine wro (own ++ bkE r1 sf sc sh :: E3 :: [ef]) (bkE r9 s8 sC sH) (eC2 :: eH :: (X ++ Y) ++ [e26]) ⟨rfl, trivial⟩ (by simp) rfl (by simp [bkE]) ?_
    have hE92 : (⟨(bkE r9 s8 sC sH).aid, spl (bkE r9 s8 sC sH).cells 1 [.slice sC2.a sC2.len sC2.cap], (bkE r9 s8 sC sH).cap⟩ : Ent) = bkE r9 s8 sC2 sH := rfl
    rw [hE92]
    have wD : Wf ⟨own ++ bkE r1 sf sc sh :: E3 :: [ef] ++ bkE r9 s8 sC2 sH :: (eC2 :: eH :: (X ++ Y) ++ [e26]), ro⟩ := wC2.ids (by simp [bkE])
    refine ⟨sH, bkE_2 (r := r9) (sf := s8) (sc := sC2) (by simp), sh, bkE_2 (r := r1) (sf := sf) (sc := sc) (by simp), ?_⟩
    have hup2 : BkRd ⟨own ++ bkE r1 sf sc sh :: E3 :: [ef] ++ bkE r9 s8 sC2 sH :: (eC2 :: eH :: (X ++ Y) ++ [e26]), ro⟩ sf sc sh b := hb.mono (fun e he => by simp [he]) (fun _ _ h => h)
    refine hup2.ha (by omega) (by omega) fun xh hxh hlh => ?_
    rw [Int.toNat_natCast] at hxh hlh
    refine SemCall.wfp (clone_c hxh (by omega) (fun s38 e38 o38 w38 => ⟨⟨[e38], List.Perm.refl _⟩, s38, rfl, ?_⟩))
    refine app_rowW grows_rows (vs := [svV s38]) rfl ⟨rfl, trivial⟩ (own ++ bkE r1 sf sc sh :: E3 :: ef :: bkE r9 s8 sC2 sH :: [eC2]) eH ((X ++ Y) ++ [e26] ++ [e38]) (by simp) oH w38 (by omega) (fun sH2 eH2 oH2 lH2 wH2 => ?_)
    refine wro (own ++ bkE r1 sf sc sh :: E3 :: [ef]) (bkE r9 s8 sC2 sH) (eC2 :: eH2 :: (X ++ Y) ++ [e26] ++ [e38]) ⟨rfl, trivial⟩ (by simp) rfl (by simp [bkE]) ?_
    have hE93 : (⟨(bkE r9 s8 sC2 sH).aid, spl (bkE r9 s8 sC2 sH).cells 2 [.slice sH2.a sH2.len sH2.cap], (bkE r9 s8 sC2 sH).cap⟩ : Ent) = bkE r9 s8 sC2 sH2 := rfl
    rw [hE93]
    have wE : Wf ⟨own ++ bkE r1 sf sc sh :: E3 :: [ef] ++ bkE r9 s8 sC2 sH2 :: (eC2 :: eH2 :: (X ++ Y) ++ [e26] ++ [e38]), ro⟩ := wH2.ids (by simp [bkE])
    have hperm : (L ef sC2 sH2 eC2 eH2 (X ++ [e26]) (Y ++ [e38])).Perm (own ++ bkE r1 sf sc sh :: E3 :: [ef] ++ bkE r9 s8 sC2 sH2 :: (eC2 :: eH2 :: (X ++ Y) ++ [e26] ++ [e38])) := by
      simp only [L, List.append_assoc, List.cons_append, List.nil_append, List.singleton_append]
      refine List.Perm.append_left _ (.cons _ (.cons _ (.cons _ (.cons _ (.cons _ (.cons _ ?_))))))
      refine List.Perm.append_left _ ?_
      exact List.perm_middle.symm
    refine ⟨⟨by omega, by omega⟩, b.claim.length - (k + 1), by omega, ⟨L ef sC2 sH2 eC2 eH2 (X ++ [e26]) (Y ++ [e38]), ro⟩, Gh.perm hperm, k + 1, eC2, eH2, sC2, sH2, X ++ [e26], Y ++ [e38], ssC ++ [s26], ssH ++ [s38], by omega, by omega, rfl, rfl, wE.perm hperm, by simpa using oC2, by simpa using oH2, ?_, ?_⟩
    · rw [List.take_add_one, eclaim]; exact pC.app o26
    · rw [List.take_add_one, ehas]; exact pH.app o38
  rintro _ _ ⟨eC, eH, sC, sH, X, Y, ssC, ssH, rfl, hw2, oC, oH, pC, pH⟩
  have hm9 : bkE r9 s8 sC sH ∈ L ef sC sH eC eH X Y := by simp [L]
  refine ⟨s8, bkE_0 hm9, sC, bkE_1 hm9, sH, bkE_2 hm9, rfl, rfl, ?_⟩
  refine wro (own ++ [bkE r1 sf sc sh]) E3 (ef :: bkE r9 s8 sC sH :: eC :: eH :: (X ++ Y)) ⟨rfl, rfl, rfl, trivial⟩ (by simp [L]) (by rw [hE3]) (by rw [hE3]; simp) ?_
  have hE33 : (⟨E3.aid, spl E3.cells 0 [.slice s8.a s8.len s8.cap, .slice sC.a sC.len sC.cap, .slice sH.a sH.len sH.cap], E3.cap⟩ : Ent) = bkE r3 s8 sC sH := by rw [hE3]; rfl
  rw [hE33]
  refine ⟨s8, bkE_0 (r := r3) (sc := sC) (sh := sH) (by simp), sC, bkE_1 (r := r3) (sf := s8) (sh := sH) (by simp), sH, bkE_2 (r := r3) (sf := s8) (sc := sC) (by simp), ?_⟩
  have hwl2 : Wf ⟨own ++ (ef :: eC :: eH :: (X ++ Y)), ro⟩ := hw2.sub (by
    refine List.Sublist.append_left ?_ _
    refine .cons _ (.cons _ (.cons_cons _ (.cons _ (List.Sublist.refl _)))))
  refine ⟨⟨own ++ (ef :: eC :: eH :: (X ++ Y)), ro⟩, Gh.drop ?_, hk ef eC eH s8 sC sH X Y ssC ssH hwl2 of oC oH pC pH⟩
  rw [List.append_assoc]
  refine List.Sublist.append_left ?_ _
  exact .cons _ (.cons _ (.cons_cons _ (.cons _ (List.Sublist.refl _))))
/-- a copy that nobody writes -/
theorem fresh_ro {b : Bk} {sf sc sh : SV} {own : List Ent} {ro : Addr → Option Value} {post : Value → H → Prop} (hb : BkRd ⟨own, ro⟩ sf sc sh b) (ho : BSh b)
    (hk : ∀ (sf' sc' sh' : SV) ro', (∀ a v, ro a = some v → ro' a = some v) → BkRd ⟨[], ro'⟩ sf' sc' sh' b → VRet ⟨own, ro'⟩ (bkV sf' sc' sh') post) :
    SemCall Tryd.prog 17 (List.toArray [bkV sf sc sh]) ⟨own, ro⟩ fun v h => VRet h v post := by
  refine fresh_c hb ho (fun ef eC eH sF sC sH X Y ssC ssH hw oF oC oH pC pH => ?_)
  obtain ⟨ro', g, m, rd⟩ := bk_frz hw oF oC oH pC pH
  obtain ⟨h2, g2, hp⟩ := hk sF sC sH ro' m rd
  exact ⟨h2, g.trans g2, hp⟩

end Go.Proofs.YtnppmcgmmdcpiaaDoor
