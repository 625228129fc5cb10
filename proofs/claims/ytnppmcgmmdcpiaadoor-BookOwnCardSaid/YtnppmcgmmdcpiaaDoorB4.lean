import Derived.Test.YtnppmcgmmdcpiaaDoorB3
namespace Go.Proofs.YtnppmcgmmdcpiaaDoor
open Go.Eng
set_option maxRecDepth 20000
/-! ### the bank, walked: what is moved -/
set_option maxHeartbeats 1600000 in
theorem bank_moved_c {b : Bk} {sf sc sh sw : SV} {want : List Int} {t sg : Int} {own : List Ent} {ro : Addr → Option Value} {post : Value → H → Prop} (hb : BkRd ⟨own, ro⟩ sf sc sh b) (hw : RdSl ⟨own, ro⟩ sw (ints want)) (ho : BOk b) (t0 : 0 ≤ t) (t1 : t < b.claim.length) (hwl : want.length = b.free.length)
    (hwr : ∀ k, k < b.free.length → 0 ≤ gI want k ∧ gI want k ≤ 1000) (hsg : sg = 1 ∨ sg = -1)
    (hk : ∀ (sf' sc' sh' : SV) ro', (∀ a v, ro a = some v → ro' a = some v) → BkRd ⟨[], ro'⟩ sf' sc' sh' (bmv b t.toNat want sg) → post (bkV sf' sc' sh') ⟨own, ro'⟩) :
    SemCall Tryd.prog 43 (List.toArray [bkV sf sc sh, .int .i64 t, .slice sw.a sw.len sw.cap, .int .i64 sg]) ⟨own, ro⟩ post := by
  obtain ⟨t, rfl⟩ : ∃ n : Nat, t = (n : Int) := ⟨t.toNat, by omega⟩
  rw [Int.toNat_natCast] at hk
  refine SemCall.wf fun hwf => ?_
  refine f43_call sf sc sh t sw sg _ post ?_
  intro r1 hf1 r3 hf3
  simp only [add_mk', Nat.zero_add, Nat.add_zero]
  have fl := hb.fl
  have cl := hb.cl
  have hl := hb.hl
  have hhl := ho.hl
  have hn3 := ho.n3
  have hm5 := ho.m5
  have htc : t < b.claim.length := by omega
  obtain ⟨E3, hE3⟩ : ∃ E3 : Ent, E3 = ⟨some r3, [Value.slice none 0 0, .slice none 0 0, .slice none 0 0], 3⟩ := ⟨_, rfl⟩
  have hE3' : (⟨some r3, [Value.slice none 0 0, .slice none 0 0, .slice none 0 0], List.length [Value.slice none 0 0, .slice none 0 0, .slice none 0 0]⟩ : Ent) = E3 := by rw [hE3]; rfl
  have hE1' : (⟨some r1, [Value.slice sf.a sf.len sf.cap, .slice sc.a sc.len sc.cap, .slice sh.a sh.len sh.cap], List.length [Value.slice sf.a sf.len sf.cap, .slice sc.a sc.len sc.cap, .slice sh.a sh.len sh.cap]⟩ : Ent) = bkE r1 sf sc sh := rfl
  have w1 := Wf.add (e := bkE r1 sf sc sh) hwf hf1 rfl
  rw [hE1'] at hf3
  have w3 := Wf.add (e := E3) w1 hf3 (by rw [hE3]; rfl)
  rw [hE1', hE3']
  have hup : ∀ {X : List Ent}, BkRd ⟨own ++ bkE r1 sf sc sh :: X, ro⟩ sf sc sh b := fun {X} => hb.mono (fun e he => List.mem_append_left _ he) (fun _ _ h => h)
  have hE : ∀ {X : List Ent}, bkE r1 sf sc sh ∈ own ++ bkE r1 sf sc sh :: X := fun {X} => by simp
  have hc2 : own ++ [bkE r1 sf sc sh] ++ [E3] = own ++ bkE r1 sf sc sh :: [E3] := by simp
  rw [hc2] at w3 ⊢
  refine ⟨sf, bkE_0 hE, SemCall.wfp (clone_c hup.f (by omega) (fun s8 ef of w8 => ⟨s8, rfl, ?_⟩))⟩
  have l8 := of.sl_len
  rw [ints_length] at l8
  have hc3 : own ++ bkE r1 sf sc sh :: [E3] ++ [ef] = own ++ bkE r1 sf sc sh :: E3 :: [ef] := by simp
  rw [hc3] at w8 ⊢
  intro r9 hf9
  have hE9' : (⟨some r9, [Value.slice none 0 0, .slice none 0 0, .slice none 0 0], List.length [Value.slice none 0 0, .slice none 0 0, .slice none 0 0]⟩ : Ent) = bkE r9 ⟨none, 0, 0⟩ ⟨none, 0, 0⟩ ⟨none, 0, 0⟩ := rfl
  have w9 := Wf.add (e := bkE r9 ⟨none, 0, 0⟩ ⟨none, 0, 0⟩ ⟨none, 0, 0⟩) w8 hf9 rfl
  rw [hE9']
  refine ⟨rfl, rfl, ?_⟩
  refine wro (own ++ bkE r1 sf sc sh :: E3 :: [ef]) (bkE r9 ⟨none, 0, 0⟩ ⟨none, 0, 0⟩ ⟨none, 0, 0⟩) [] ⟨rfl, rfl, rfl, trivial⟩ rfl rfl (by simp [bkE]) ?_
  have hE9 : (⟨(bkE r9 ⟨none, 0, 0⟩ ⟨none, 0, 0⟩ ⟨none, 0, 0⟩).aid, spl (bkE r9 ⟨none, 0, 0⟩ ⟨none, 0, 0⟩ ⟨none, 0, 0⟩).cells 0 [.slice s8.a s8.len s8.cap, .slice none 0 0, .slice none 0 0], (bkE r9 ⟨none, 0, 0⟩ ⟨none, 0, 0⟩ ⟨none, 0, 0⟩).cap⟩ : Ent) = bkE r9 s8 ⟨none, 0, 0⟩ ⟨none, 0, 0⟩ := rfl
  rw [hE9]
  have w10 : Wf ⟨own ++ bkE r1 sf sc sh :: E3 :: [ef] ++ [bkE r9 s8 ⟨none, 0, 0⟩ ⟨none, 0, 0⟩], ro⟩ := w9.mid rfl
  -- the layout
  let L : Ent → SV → SV → Ent → Ent → List Ent → List Ent → List Ent := fun ef sC sH eC eH X Y => own ++ bkE r1 sf sc sh :: E3 :: ef :: bkE r9 s8 sC sH :: eC :: eH :: (X ++ Y)
  refine ⟨sc, bkE_1 (r := r1) (sf := sf) (sh := sh) (by simp), ?_⟩
  refine ⟨fun h => ∃ (eC eH : Ent) (sC sH : SV) (X Y : List Ent) (ssC ssH : List SV), h = ⟨L ef sC sH eC eH X Y, ro⟩ ∧ Wf h ∧ OwnsSl 1 sC eC (ssC.map svV) ∧ OwnsSl 1 sH eH (ssH.map svV) ∧ OwPar X ssC b.claim ∧ OwPar Y ssH b.has,
    ⟨fun n x h => ∃ (k : Nat) (eC eH : Ent) (sC sH : SV) (X Y : List Ent) (ssC ssH : List SV), x = (k : Int) ∧ k ≤ b.claim.length ∧ n = b.claim.length - k ∧ h = ⟨L ef sC sH eC eH X Y, ro⟩ ∧ Wf h ∧ OwnsSl 1 sC eC (ssC.map svV) ∧ OwnsSl 1 sH eH (ssH.map svV) ∧ OwPar X ssC (b.claim.take k) ∧ OwPar Y ssH (b.has.take k),
      ⟨_, ⟨L ef ⟨none, 0, 0⟩ ⟨none, 0, 0⟩ ⟨none, [], 0⟩ ⟨none, [], 0⟩ [] [], ro⟩, ?_, 0, _, _, _, _, [], [], [], [], rfl, Nat.zero_le _, rfl, rfl, ?_, OwnsSl.nil 1, OwnsSl.nil 1, OwPar.nil, OwPar.nil⟩, ?_⟩, ?_⟩
  · have g1 := Gh.phantom (own ++ bkE r1 sf sc sh :: E3 :: [ef] ++ [bkE r9 s8 ⟨none, 0, 0⟩ ⟨none, 0, 0⟩]) [] ro 0
    have g2 := Gh.phantom (own ++ bkE r1 sf sc sh :: E3 :: [ef] ++ [bkE r9 s8 ⟨none, 0, 0⟩ ⟨none, 0, 0⟩]) [⟨none, [], 0⟩] ro 0
    simpa [L] using g1.trans g2
  · have w11 := Wf.ph (A := own ++ bkE r1 sf sc sh :: E3 :: [ef] ++ [bkE r9 s8 ⟨none, 0, 0⟩ ⟨none, 0, 0⟩]) (C := []) (by simpa using w10)
    have w12 := Wf.ph (A := own ++ bkE r1 sf sc sh :: E3 :: [ef] ++ [bkE r9 s8 ⟨none, 0, 0⟩ ⟨none, 0, 0⟩]) (C := [⟨none, [], 0⟩]) (by simpa using w11)
    simpa [L] using w12
  · rintro n _ x _ ⟨k, eC, eH, sC, sH, X, Y, ssC, ssH, rfl, hk', rfl, rfl, hw', oC, oH, pC, pH⟩
    refine VIf_dec (fun hi => ?_) (fun hi => gi ⟨eC, eH, sC, sH, X, Y, ssC, ssH, rfl, hw', oC, oH, ?_, ?_⟩)
    rotate_left
    · rwa [List.take_of_length_le (by omega)] at pC
    · rwa [List.take_of_length_le (by omega)] at pH
    have hkc : k < b.claim.length := by omega
    have hkh : k < b.has.length := by omega
    have lC := oC.sl_len
    have lH := oH.sl_len
    rw [List.length_map] at lC lH
    have pl := pC.l2
    have pl2 := pH.l2
    rw [List.length_take] at pl pl2
    have eclaim : b.claim[k]? = some ((b.claim[k]?).getD []) := by rw [List.getElem?_eq_getElem hkc]; rfl
    have ehas : b.has[k]? = some ((b.has[k]?).getD []) := by rw [List.getElem?_eq_getElem hkh]; rfl
    obtain ⟨cn1, cn2⟩ := ho.cn k hkc
    refine ⟨sC, bkE_1 (r := r9) (sf := s8) (sh := sH) (by simp [L]), sc, bkE_1 hE, hup.ca (by omega) (by omega) fun xc hxc hlc => ?_⟩
    rw [Int.toNat_natCast] at hxc hlc
    refine SemCall.wfp (clone_c hxc (by omega) (fun s26 e26 o26 w26 => ⟨⟨[e26], List.Perm.refl _⟩, s26, rfl, ?_⟩))
    refine app_rowW grows_rows (vs := [svV s26]) rfl ⟨rfl, trivial⟩ (own ++ bkE r1 sf sc sh :: E3 :: ef :: [bkE r9 s8 sC sH]) eC (eH :: (X ++ Y) ++ [e26]) (by simp [L]) oC w26 (by omega) (fun sC2 eC2 oC2 lC2 wC2 => ?_)
    refine wro (own ++ bkE r1 sf sc sh :: E3 :: [ef]) (bkE r9 s8 sC sH) (eC2 :: eH :: (X ++ Y) ++ [e26]) ⟨rfl, trivial⟩ (by simp) rfl (by simp [bkE]) ?_
    have hE92 : (⟨(bkE r9 s8 sC sH).aid, spl (bkE r9 s8 sC sH).cells 1 [.slice sC2.a sC2.len sC2.cap], (bkE r9 s8 sC sH).cap⟩ : Ent) = bkE r9 s8 sC2 sH := rfl
    rw [hE92]
    have wD : Wf ⟨own ++ bkE r1 sf sc sh :: E3 :: [ef] ++ bkE r9 s8 sC2 sH :: (eC2 :: eH :: (X ++ Y) ++ [e26]), ro⟩ := wC2.ids (by simp [bkE])
    refine ⟨sH, bkE_2 (r := r9) (sf := s8) (sc := sC2) (by simp), sh, bkE_2 (r := r1) (sf := sf) (sc := sc) (by simp), ?_⟩
    have hup2 : BkRd ⟨own ++ bkE r1 sf sc sh :: E3 :: [ef] ++ bkE r9 s8 sC2 sH :: (eC2 :: eH :: (X ++ Y) ++ [e26]), ro⟩ sf sc sh b := hb.mono (fun e he => by simp [he]) (fun _ _ h => h)
    refine hup2.ha (by omega) (by omega) fun xh hxh hlh => ?_
    rw [Int.toNat_natCast] at hxh hlh
    refine SemCall.wfp (clone_c hxh (by omega) (fun s38 e38 o38 w38 => ⟨⟨[e38], List.Perm.refl _⟩, s38, rfl, ?_⟩))
    refine app_rowW grows_rows (vs := [svV s38]) rfl ⟨rfl, trivial⟩ (own ++ bkE r1 sf sc sh :: E3 :: ef :: bkE r9 s8 sC2 sH :: [eC2]) eH ((X ++ Y) ++ [e26] ++ [e38]) (by simp) oH w38 (by omega) (fun sH2 eH2 oH2 lH2 wH2 => ?_)
    refine wro (own ++ bkE r1 sf sc sh :: E3 :: [ef]) (bkE r9 s8 sC2 sH) (eC2 :: eH2 :: (X ++ Y) ++ [e26] ++ [e38]) ⟨rfl, trivial⟩ (by simp) rfl (by simp [bkE]) ?_
    have hE93 : (⟨(bkE r9 s8 sC2 sH).aid, spl (bkE r9 s8 sC2 sH).cells 2 [.slice sH2.a sH2.len sH2.cap], (bkE r9 s8 sC2 sH).cap⟩ : Ent) = bkE r9 s8 sC2 sH2 := rfl
    rw [hE93]
    have wE : Wf ⟨own ++ bkE r1 sf sc sh :: E3 :: [ef] ++ bkE r9 s8 sC2 sH2 :: (eC2 :: eH2 :: (X ++ Y) ++ [e26] ++ [e38]), ro⟩ := wH2.ids (by simp [bkE])
    have hperm : (L ef sC2 sH2 eC2 eH2 (X ++ [e26]) (Y ++ [e38])).Perm (own ++ bkE r1 sf sc sh :: E3 :: [ef] ++ bkE r9 s8 sC2 sH2 :: (eC2 :: eH2 :: (X ++ Y) ++ [e26] ++ [e38])) := by
      simp only [L, List.append_assoc, List.cons_append, List.nil_append, List.singleton_append]
      refine List.Perm.append_left _ (.cons _ (.cons _ (.cons _ (.cons _ (.cons _ (.cons _ ?_))))))
      refine List.Perm.append_left _ ?_
      exact List.perm_middle.symm
    refine ⟨⟨by omega, by omega⟩, b.claim.length - (k + 1), by omega, ⟨L ef sC2 sH2 eC2 eH2 (X ++ [e26]) (Y ++ [e38]), ro⟩, Gh.perm hperm, k + 1, eC2, eH2, sC2, sH2, X ++ [e26], Y ++ [e38], ssC ++ [s26], ssH ++ [s38], by omega, by omega, rfl, rfl, wE.perm hperm, by simpa using oC2, by simpa using oH2, ?_, ?_⟩
    · rw [List.take_add_one, eclaim]; exact pC.app o26
    · rw [List.take_add_one, ehas]; exact pH.app o38
  rintro _ _ ⟨eC, eH, sC, sH, X, Y, ssC, ssH, rfl, hw', oC, oH, pC, pH⟩
  have lH := oH.sl_len
  rw [List.length_map] at lH
  have pl2 := pH.l2
  have pl1 := pH.l1
  have htl : t < b.has.length := by omega
  obtain ⟨cn1, cn2⟩ := ho.cn t htc
  have hsb : ∀ v : Int, 0 ≤ v ∧ v ≤ 1000 → -1000 ≤ sg * v ∧ sg * v ≤ 1000 := fun v hv => by
    rcases hsg with h | h <;> subst h <;> omega
  obtain ⟨st, hst⟩ : ∃ st, ssH[t]? = some st := ⟨_, List.getElem?_eq_getElem (by omega)⟩
  obtain ⟨et, het⟩ : ∃ et, Y[t]? = some et := ⟨_, List.getElem?_eq_getElem (by omega)⟩
  have hht : b.has[t]? = some ((b.has[t]?).getD []) := by rw [List.getElem?_eq_getElem htl]; rfl
  obtain ⟨Y1, Y2, hY, hYl⟩ : ∃ Y1 Y2, Y = Y1 ++ et :: Y2 ∧ Y1.length = t := by
    obtain ⟨h5, h6⟩ := List.getElem?_eq_some_iff.1 het
    exact ⟨Y.take t, Y.drop (t + 1), by rw [← h6, List.getElem_cons_drop, List.take_append_drop], by simp; omega⟩
  have hYs : ∀ e, Y.set t e = Y1 ++ e :: Y2 := fun e => by rw [hY, ← hYl, List.set_append_right _ _ (Nat.le_refl _)]; simp
  have hwr2 : ∀ {own2 : List Ent}, (∀ e ∈ own, e ∈ own2) → RdSl ⟨own2, ro⟩ sw (ints want) := fun h => hw.mono h (fun _ _ h => h)
  have swl := hw.len
  rw [ints_length] at swl
  refine ⟨fun h => ∃ (ef et : Ent), h = ⟨L ef sC sH eC eH X (Y.set t et), ro⟩ ∧ Wf h ∧ OwnsSl 1 s8 ef (ints (bmv b t want sg).free) ∧ OwnsSl 1 st et (ints ((List.range b.free.length).map fun k => g2 b.has t k + sg * gI want k)),
    ⟨fun n x h => ∃ (k : Nat) (ef et : Ent) (F G : List Int), x = (k : Int) ∧ k ≤ b.free.length ∧ n = b.free.length - k ∧ h = ⟨L ef sC sH eC eH X (Y.set t et), ro⟩ ∧ Wf h ∧ OwnsSl 1 s8 ef (ints F) ∧ OwnsSl 1 st et (ints G) ∧ F.length = b.free.length ∧ G.length = b.free.length ∧
      (∀ j, j < b.free.length → gI F j = gI b.free j - if j < k then sg * gI want j else 0) ∧ (∀ j, j < b.free.length → gI G j = g2 b.has t j + if j < k then sg * gI want j else 0),
      ⟨_, gi ⟨0, ef, et, b.free, (b.has[t]?).getD [], rfl, Nat.zero_le _, rfl, ?_, ?_, of, pH.g t et st _ het hst hht, rfl, cn2, fun j hj => by rw [if_neg (by omega)]; omega, fun j hj => by rw [if_neg (by omega)]; show g2 b.has t j = _; omega⟩⟩, ?_⟩, ?_⟩
  · show _ = (⟨L ef sC sH eC eH X (Y.set t et), ro⟩ : H)
    rw [hYs, hY]
  · exact hw'
  · rintro n _ x _ ⟨k, ef, et, F, G, rfl, hk', rfl, rfl, hw2, oF, oG, lF, lG, gF, gG⟩
    have lsF := oF.sl_len
    have lsG := oG.sl_len
    rw [ints_length] at lsF lsG
    refine VIf_dec (fun hi => ?_) (fun hi => gi ⟨ef, et, rfl, hw2, ?_, ?_⟩)
    rotate_left
    · have : F = (bmv b t want sg).free := gI_ext (by rw [bmv_fl]; exact lF) fun j hj => by rw [gF j (by omega), if_pos (by omega), bmv_free (by omega)]
      rw [← this]; exact oF
    · have : G = (List.range b.free.length).map fun k => g2 b.has t k + sg * gI want k := gI_ext (by simpa using lG) fun j hj => by rw [gG j (by omega), if_pos (by omega), gI_rm (by omega)]
      rw [← this]; exact oG
    have hkf : k < b.free.length := by omega
    have hm9 : ∀ ef et, bkE r9 s8 sC sH ∈ L ef sC sH eC eH X (Y.set t et) := fun ef et => by simp [L]
    refine idxG (hwr2 (fun e he => by simp [L, he])) (by omega) (by omega) ⟨s8, bkE_0 (hm9 ef et), ?_⟩
    refine idxG (xs := F) (RdSl.of_own (e := ef) (by simp [L]) oF) (by omega) (by omega) ?_
    rw [Int.toNat_natCast, gF k hkf, if_neg (by omega)]
    have hv := hsb _ (hwr k hkf)
    have hf := ho.f k hkf
    have hc := ho.c t k htc hkf
    refine ⟨⟨by omega, by omega⟩, ⟨by omega, by omega⟩, wr_at (own ++ bkE r1 sf sc sh :: [E3]) ef (bkE r9 s8 sC sH :: eC :: eH :: (X ++ Y.set t et)) (by simp [L]) oF (by omega) (by omega) (fun ef2 oF2 hid => ?_)⟩
    have hcat4 : own ++ bkE r1 sf sc sh :: [E3] ++ ef2 :: bkE r9 s8 sC sH :: eC :: eH :: (X ++ Y.set t et) = L ef2 sC sH eC eH X (Y.set t et) := by simp [L]
    rw [hcat4]
    have hw3 : Wf ⟨L ef2 sC sH eC eH X (Y.set t et), ro⟩ := hw2.ids (by simp [L, hid])
    refine ⟨sH, bkE_2 (hm9 ef2 et), ?_⟩
    have hrs : RdSl ⟨L ef2 sC sH eC eH X (Y.set t et), ro⟩ sH (ssH.map svV) := RdSl.of_own (e := eH) (by simp [L]) oH
    refine hrs.idxM (by omega) (by omega) (fun x hx => ?_)
    rw [Int.toNat_natCast, hst] at hx
    cases hx
    refine idxG (xs := G) (RdSl.of_own (e := et) (by simp [L, hYs]) oG) (by omega) (by omega) ?_
    rw [Int.toNat_natCast, gG k hkf, if_neg (by omega)]
    refine ⟨⟨by omega, by omega⟩, ⟨by omega, by omega⟩, wr_at (own ++ bkE r1 sf sc sh :: E3 :: ef2 :: bkE r9 s8 sC sH :: eC :: eH :: (X ++ Y1)) et Y2 (by simp [L, hYs]) oG (by omega) (by omega) (fun et2 oG2 hid2 => ?_)⟩
    have hcat5 : own ++ bkE r1 sf sc sh :: E3 :: ef2 :: bkE r9 s8 sC sH :: eC :: eH :: (X ++ Y1) ++ et2 :: Y2 = L ef2 sC sH eC eH X (Y.set t et2) := by simp [L, hYs]
    rw [hcat5]
    refine ⟨⟨by omega, by omega⟩, b.free.length - (k + 1), by omega, gi ⟨k + 1, ef2, et2, _, _, by omega, by omega, rfl, rfl, hw3.ids (by simp [L, hYs, hid2]), oF2, oG2, by simpa using lF, by simpa using lG, fun j hj => ?_, fun j hj => ?_⟩⟩
    · rw [Int.toNat_natCast, gI_bset (by omega)]
      by_cases he : j = k
      · subst he; rw [if_pos rfl, if_pos (by omega)]; omega
      · rw [if_neg he, gF j hj]
        by_cases hjk : j < k
        · rw [if_pos hjk, if_pos (by omega)]
        · rw [if_neg hjk, if_neg (by omega)]
    · rw [Int.toNat_natCast, gI_bset (by omega)]
      by_cases he : j = k
      · subst he; rw [if_pos rfl, if_pos (by omega)]; omega
      · rw [if_neg he, gG j hj]
        by_cases hjk : j < k
        · rw [if_pos hjk, if_pos (by omega)]
        · rw [if_neg hjk, if_neg (by omega)]
  rintro _ _ ⟨ef, et, rfl, hw2, oF, oG⟩
  have hm9 : bkE r9 s8 sC sH ∈ L ef sC sH eC eH X (Y.set t et) := by simp [L]
  refine ⟨s8, bkE_0 hm9, sC, bkE_1 hm9, sH, bkE_2 hm9, rfl, rfl, ?_⟩
  refine wro (own ++ [bkE r1 sf sc sh]) E3 (ef :: bkE r9 s8 sC sH :: eC :: eH :: (X ++ Y.set t et)) ⟨rfl, rfl, rfl, trivial⟩ (by simp [L]) (by rw [hE3]) (by rw [hE3]; simp) ?_
  have hE33 : (⟨E3.aid, spl E3.cells 0 [.slice s8.a s8.len s8.cap, .slice sC.a sC.len sC.cap, .slice sH.a sH.len sH.cap], E3.cap⟩ : Ent) = bkE r3 s8 sC sH := by rw [hE3]; rfl
  rw [hE33]
  refine ⟨s8, bkE_0 (r := r3) (sc := sC) (sh := sH) (by simp), sC, bkE_1 (r := r3) (sf := s8) (sh := sH) (by simp), sH, bkE_2 (r := r3) (sf := s8) (sc := sC) (by simp), ?_⟩
  have pH2 : OwPar (Y.set t et) ssH (bmv b t want sg).has := pH.set hst oG
  have hwl2 : Wf ⟨own ++ (ef :: eC :: eH :: (X ++ Y.set t et)), ro⟩ := hw2.sub (by
    refine List.Sublist.append_left ?_ _
    refine .cons _ (.cons _ (.cons_cons _ (.cons _ (List.Sublist.refl _)))))
  obtain ⟨ro', g, m, rd⟩ := bk_frz (b := bmv b t want sg) hwl2 oF oC oH pC pH2
  refine ⟨⟨own, ro'⟩, (Gh.drop ?_).trans g, hk s8 sC sH ro' m rd⟩
  rw [List.append_assoc]
  refine List.Sublist.append_left ?_ _
  exact .cons _ (.cons _ (.cons_cons _ (.cons _ (List.Sublist.refl _))))
end Go.Proofs.YtnppmcgmmdcpiaaDoor
