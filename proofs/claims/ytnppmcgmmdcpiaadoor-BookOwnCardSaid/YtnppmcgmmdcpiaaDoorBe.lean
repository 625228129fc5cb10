import Derived.Test.YtnppmcgmmdcpiaaDoorBd
namespace Go.Proofs.YtnppmcgmmdcpiaaDoor
open Go.Eng
set_option maxRecDepth 20000

theorem want_all {b : Bk} {t : Int} {want : List Int} (h : BAsk b t want) : (∀ x ∈ want, 0 ≤ x ∧ x ≤ 1000) ∧ want.length ≤ 3 ∧ 0 ≤ t ∧ t ≤ 1000 := by
  have h1 := h.ok.n3; have h2 := h.l; have h3 := h.t0; have h4 := h.t1; have h5 := h.ok.m5
  refine ⟨fun x hx => ?_, by omega, h3, by omega⟩
  obtain ⟨k, hk, rfl⟩ := List.mem_iff_getElem.1 hx
  have := h.w k (by omega)
  rwa [gI_at2 (List.getElem?_eq_getElem hk)] at this


set_option maxHeartbeats 800000 in
theorem do_ask {s : BkS} {x : Bo} {t : Int} {want : List Int} {sw : SV} {own : List Ent} {ro : Addr → Option Value} {post : Value → H → Prop} {T : Nat} (A C : List Ent) (hown : own = A ++ (boL s ++ C)) (hT : shE 1 T 20 ∈ A ++ C) (hG : HasTab ro)
    (h : BOO s x ro) (hw : RdSl ⟨[], ro⟩ sw (ints want))
    (hk : ∀ s' ro', (∀ a v, ro a = some v → ro' a = some v) → BOO s' (bput x false t want) ro' → s'.r = s.r → post (errV (eno 60 (bcode x false t want))) ⟨A ++ (boL s' ++ C), ro'⟩) :
    SemCall Tryd.prog 27 (List.toArray [.pointer (some (Addr.mk s.r 0 none)), .string (bs [97]), .func (.func 29) #[] #[], .int .i64 t, .slice sw.a sw.len sw.cap]) ⟨own, ro⟩ post := by
  refine f27_call (some (Addr.mk s.r 0 none)) (bs [97]) t sw _ post ?_
  have hm : boE s ∈ own := by rw [hown]; simp [boL]
  have hn := h.n; have hn60 := h.n60
  simp only [f27_sem, add_mk', Nat.zero_add, Nat.add_zero]
  refine ⟨_, rfl, s.n, bo_rd hm 5 rfl, VIf_eq (fun h60 => ?_) (fun h60 => ?_)⟩
  · have e1 : bcode x false t want = 4 := by unfold bcode; rw [if_pos (by omega)]
    have e2 : bput x false t want = x := by unfold bput; rw [if_pos (by rw [e1]; decide)]
    have := hk s ro (fun _ _ h => h) (by rw [e2]; exact h) rfl
    rw [e1] at this
    rw [hown]
    exact ret this
  have e1 : bcode x false t want = bask x.b t want := by unfold bcode; rw [if_neg (by omega)]; simp
  have rdo : BkRd ⟨own, ro⟩ s.sf s.sc s.sh x.b := h.rd.mono (by simp) (fun _ _ h => h)
  have hwo : RdSl ⟨own, ro⟩ sw (ints want) := hw.mono (by simp) (fun _ _ h => h)
  refine ⟨_, rfl, s.sf, bo_rd hm 0 rfl, s.sc, bo_rd hm 1 rfl, s.sh, bo_rd hm 2 rfl, bank_ask_c rdo hwo (fun hne ro' m' => ?_) (fun h0 hA _ sf' sc' sh' ro' m' hb' => ?_)⟩
  · refine ⟨nilV, nilV, nilV, _, rfl, ?_⟩
    intro r13 _
    refine ⟨rfl, rfl, wro own ⟨some r13, [Value.slice none 0 0, .slice none 0 0, .slice none 0 0], 3⟩ [] ⟨rfl, rfl, rfl, trivial⟩ rfl rfl (by simp) (VIf_nerr (fun _ => ?_) (fun hc => absurd hc hne))⟩
    have e2 : bput x false t want = x := by unfold bput; rw [if_pos (by rw [e1]; exact hne)]
    have := hk s ro' m' (by rw [e2]; exact h.up m') rfl
    rw [e1] at this
    exact ⟨⟨own, ro'⟩, Gh.drop (by simp), by rw [hown]; exact this⟩
  · obtain ⟨hwa, hw3, ht0, ht1⟩ := want_all hA
    have hll := lineB_len (w := 97) ⟨ht0, ht1⟩ hwa hw3
    have hlf := lineF_len hll
    have hlx := h.ll
    have e2 : bput x false t want = ⟨bmv x.b t.toNat want 1, x.l ++ lineF (lineB 97 t want), x.n + 1⟩ := by unfold bput; rw [if_neg (by rw [e1]; exact not_not_intro h0)]; simp
    refine ⟨sf', sc', sh', none, rfl, ?_⟩
    intro r13 _
    have E13 : ∀ cs : List Value, cs = [slV sf', slV sc', slV sh'] → True := fun _ _ => trivial
    refine ⟨rfl, rfl, wro own ⟨some r13, [Value.slice none 0 0, .slice none 0 0, .slice none 0 0], 3⟩ [] ⟨rfl, rfl, rfl, trivial⟩ rfl rfl (by simp) (VIf_nnil ?_)⟩
    have em : (⟨some r13, spl [Value.slice none 0 0, .slice none 0 0, .slice none 0 0] 0 [.slice sf'.a sf'.len sf'.cap, .slice sc'.a sc'.len sc'.cap, .slice sh'.a sh'.len sh'.cap], 3⟩ : Ent) = bkE r13 sf' sc' sh' := rfl
    dsimp only
    rw [em]
    have hm13 : bkE r13 sf' sc' sh' ∈ own ++ bkE r13 sf' sc' sh' :: [] := by simp
    refine ⟨sf', bkE_0 hm13, sc', bkE_1 hm13, sh', bkE_2 hm13, _, rfl, rfl, rfl, ?_⟩
    refine wro A (boE s) (shE s.r 52 6 :: s.eb :: (C ++ [bkE r13 sf' sc' sh'])) ⟨rfl, rfl, rfl, trivial⟩ (by rw [hown]; simp [boL]) rfl (by simp [boE]) ?_
    have eb1 : (⟨(boE s).aid, spl (boE s).cells 0 [.slice sf'.a sf'.len sf'.cap, .slice sc'.a sc'.len sc'.cap, .slice sh'.a sh'.len sh'.cap], (boE s).cap⟩ : Ent) = boE { s with sf := sf', sc := sc', sh := sh' } := rfl
    rw [eb1]
    have e3 : A ++ boE { s with sf := sf', sc := sc', sh := sh' } :: (shE s.r 52 6 :: s.eb :: (C ++ [bkE r13 sf' sc' sh'])) = A ++ (boL { s with sf := sf', sc := sc', sh := sh' } ++ (C ++ [bkE r13 sf' sc' sh'])) := by simp [boL]
    rw [e3]
    generalize hs2 : ({ s with sf := sf', sc := sc', sh := sh' } : BkS) = s2
    have r2 : s2.r = s.r := by rw [← hs2]
    have l2 : s2.l = x.l := by rw [← hs2]; exact h.l
    have n2 : s2.n = x.n := by rw [← hs2]; exact h.n
    have b2 : BufE s2.sb s2.eb s2.l := by rw [l2, ← hs2]; exact h.bf
    have hT2 : shE 1 T 20 ∈ A ++ (boL s2 ++ (C ++ [bkE r13 sf' sc' sh'])) := by
      simp only [List.mem_append] at hT ⊢
      rcases hT with h | h
      · exact .inl h
      · exact .inr (.inr (.inl h))
    have hG2 := hG.up m'
    have hw2 : ∀ {X}, RdSl ⟨X, ro'⟩ sw (ints want) := fun {X} => hw.mono (by simp) m'
    have hwl := (hw2 (X := [])).len
    rw [ints_length] at hwl
    have e32 : ByteArray.mk (List.toArray [(32 : UInt8)]) = bs [32] := rfl
    simp only [e32, bs_app, bs_size]
    refine ⟨by simp, itoa_c (by omega) (by omega) hT2 hG2 ⟨_, rfl, ?_⟩⟩
    rw [show (ByteArray.mk (Lib.itoa t).toArray) = bs (Lib.decDigits t.toNat) by rw [itoa_nn ht0]; rfl]
    have hdt := dec_len (n := t.toNat) (by omega)
    simp only [bs_app, bs_size]
    refine ⟨by simp only [List.length_append, List.length_cons, List.length_nil]; omega, fun str h' => str = bs (lineB 97 t want) ∧ h' = ⟨A ++ (boL s2 ++ (C ++ [bkE r13 sf' sc' sh'])), ro'⟩, ⟨fun m str i h' => h' = ⟨A ++ (boL s2 ++ (C ++ [bkE r13 sf' sc' sh'])), ro'⟩ ∧ m ≤ want.length ∧ i = ((want.length - m : Nat) : Int) ∧ str = bs (lineB 97 t (want.take (want.length - m))), ⟨want.length, gi ⟨rfl, Nat.le_refl _, by simp, by simp [lineB]⟩⟩, ?_⟩, ?_⟩
    · rintro m _ str i _ ⟨rfl, hmk, rfl, rfl⟩
      refine VIf_dec (fun hi => ?_) (fun hi => ?_)
      · obtain ⟨k, hk', hkl⟩ : ∃ k, want.length - m = k ∧ k < want.length := ⟨want.length - m, rfl, by omega⟩
        rw [hk']
        obtain ⟨ad, had⟩ := (hw2 (X := [])).addr (by rw [ints_length]; omega)
        have hg := List.getElem?_eq_getElem hkl
        refine ⟨ad, had, by omega, by omega, want[k], (RdSl.rdi hw2 had (i := ((k : Nat) : Int).toNat) (by rw [Int.toNat_natCast]; exact hg)), ?_⟩
        have hx := hwa _ (List.getElem_mem hkl)
        refine itoa_c (by omega) (by omega) hT2 hG2 ⟨_, rfl, ?_⟩
        rw [show (ByteArray.mk (Lib.itoa want[k]).toArray) = bs (Lib.decDigits want[k].toNat) by rw [itoa_nn hx.1]; rfl]
        have hdk := dec_len (n := want[k].toNat) (by omega)
        have hlk := lineB_len (w := 97) (want := want.take k) ⟨ht0, ht1⟩ (fun y hy => hwa y (List.mem_of_mem_take hy)) (by rw [List.length_take]; omega)
        simp only [e32, bs_app, bs_size]
        refine ⟨by simp only [List.length_append, List.length_cons, List.length_nil]; omega, by simp only [List.length_append, List.length_cons, List.length_nil]; omega, ⟨by omega, by omega⟩, m - 1, by omega, gi ⟨rfl, by omega, by omega, ?_⟩⟩
        rw [show want.length - (m - 1) = k + 1 by omega, bs_inj]
        rw [List.take_add_one, hg]
        simp only [lineB, List.flatMap_append, Option.toList_some, List.flatMap_cons, List.flatMap_nil, List.append_nil, List.cons_append, List.append_assoc, List.nil_append]
      · have : m = 0 := by omega
        subst this
        exact gi ⟨by simp, rfl⟩
    · rintro _ str _ ⟨rfl, rfl⟩
      have hn2 : 0 ≤ s2.n ∧ s2.n ≤ 60 := by omega
      have := do_J2 (s := s2) (w := 97) (t := t) (want := want) (post := post) A (C ++ [bkE r13 sf' sc' sh']) rfl hT2 hG2 b2 (by rw [l2]; omega) hn2 ⟨ht0, ht1⟩ hwa hw3 (fun sb' eb' hb2 => ?_)
      · rw [r2] at this
        exact this
      · have e4 : s2.l ++ lineF (lineB 97 t want) = x.l ++ lineF (lineB 97 t want) := by rw [l2]
        refine ⟨⟨A ++ (boL { s2 with pa := true, sb := sb', eb := eb', n := s2.n + 1, l := s2.l ++ lineF (lineB 97 t want) } ++ C), ro'⟩, Gh.drop ?_, ?_⟩
        · exact List.Sublist.append_left (List.Sublist.append_left (List.sublist_append_left _ _) _) _
        · have := hk { s2 with pa := true, sb := sb', eb := eb', n := s2.n + 1, l := s2.l ++ lineF (lineB 97 t want) } ro' m' (by
            rw [e2]
            refine ⟨?_, h.sh.mv, by rw [← e4]; exact hb2, e4, by dsimp only; omega, by dsimp only; omega, by simp only [List.length_append]; omega⟩
            rw [← hs2]
            exact hb') r2
          rw [e1, h0] at this
          exact this


set_option maxHeartbeats 800000 in
theorem do_back {s : BkS} {x : Bo} {t : Int} {want : List Int} {sw : SV} {own : List Ent} {ro : Addr → Option Value} {post : Value → H → Prop} {T : Nat} (A C : List Ent) (hown : own = A ++ (boL s ++ C)) (hT : shE 1 T 20 ∈ A ++ C) (hG : HasTab ro)
    (h : BOO s x ro) (hw : RdSl ⟨[], ro⟩ sw (ints want))
    (hk : ∀ s' ro', (∀ a v, ro a = some v → ro' a = some v) → BOO s' (bput x true t want) ro' → s'.r = s.r → post (errV (eno 60 (bcode x true t want))) ⟨A ++ (boL s' ++ C), ro'⟩) :
    SemCall Tryd.prog 27 (List.toArray [.pointer (some (Addr.mk s.r 0 none)), .string (bs [98]), .func (.func 28) #[] #[], .int .i64 t, .slice sw.a sw.len sw.cap]) ⟨own, ro⟩ post := by
  refine f27b_call (some (Addr.mk s.r 0 none)) (bs [98]) t sw _ post ?_
  have hm : boE s ∈ own := by rw [hown]; simp [boL]
  have hn := h.n; have hn60 := h.n60
  simp only [f27b_sem, add_mk', Nat.zero_add, Nat.add_zero]
  refine ⟨_, rfl, s.n, bo_rd hm 5 rfl, VIf_eq (fun h60 => ?_) (fun h60 => ?_)⟩
  · have e1 : bcode x true t want = 4 := by unfold bcode; rw [if_pos (by omega)]
    have e2 : bput x true t want = x := by unfold bput; rw [if_pos (by rw [e1]; decide)]
    have := hk s ro (fun _ _ h => h) (by rw [e2]; exact h) rfl
    rw [e1] at this
    rw [hown]
    exact ret this
  have e1 : bcode x true t want = bback x.b t want := by unfold bcode; rw [if_neg (by omega)]; simp
  have rdo : BkRd ⟨own, ro⟩ s.sf s.sc s.sh x.b := h.rd.mono (by simp) (fun _ _ h => h)
  have hwo : RdSl ⟨own, ro⟩ sw (ints want) := hw.mono (by simp) (fun _ _ h => h)
  refine ⟨_, rfl, s.sf, bo_rd hm 0 rfl, s.sc, bo_rd hm 1 rfl, s.sh, bo_rd hm 2 rfl, bank_back_c rdo hwo (fun hne => ?_) (fun h0 hA sf' sc' sh' ro' m' hb' => ?_)⟩
  · have m' : ∀ a v, ro a = some v → ro a = some v := fun _ _ h => h
    refine ⟨nilV, nilV, nilV, _, rfl, ?_⟩
    intro r13 _
    refine ⟨rfl, rfl, wro own ⟨some r13, [Value.slice none 0 0, .slice none 0 0, .slice none 0 0], 3⟩ [] ⟨rfl, rfl, rfl, trivial⟩ rfl rfl (by simp) (VIf_nerr (fun _ => ?_) (fun hc => absurd hc hne))⟩
    have e2 : bput x true t want = x := by unfold bput; rw [if_pos (by rw [e1]; exact hne)]
    have := hk s ro m' (by rw [e2]; exact h.up m') rfl
    rw [e1] at this
    exact ⟨⟨own, ro⟩, Gh.drop (by simp), by rw [hown]; exact this⟩
  · obtain ⟨hwa, hw3, ht0, ht1⟩ := want_all hA
    have hll := lineB_len (w := 98) ⟨ht0, ht1⟩ hwa hw3
    have hlf := lineF_len hll
    have hlx := h.ll
    have e2 : bput x true t want = ⟨bmv x.b t.toNat want (-1), x.l ++ lineF (lineB 98 t want), x.n + 1⟩ := by unfold bput; rw [if_neg (by rw [e1]; exact not_not_intro h0)]; simp
    refine ⟨sf', sc', sh', none, rfl, ?_⟩
    intro r13 _
    have E13 : ∀ cs : List Value, cs = [slV sf', slV sc', slV sh'] → True := fun _ _ => trivial
    refine ⟨rfl, rfl, wro own ⟨some r13, [Value.slice none 0 0, .slice none 0 0, .slice none 0 0], 3⟩ [] ⟨rfl, rfl, rfl, trivial⟩ rfl rfl (by simp) (VIf_nnil ?_)⟩
    have em : (⟨some r13, spl [Value.slice none 0 0, .slice none 0 0, .slice none 0 0] 0 [.slice sf'.a sf'.len sf'.cap, .slice sc'.a sc'.len sc'.cap, .slice sh'.a sh'.len sh'.cap], 3⟩ : Ent) = bkE r13 sf' sc' sh' := rfl
    dsimp only
    rw [em]
    have hm13 : bkE r13 sf' sc' sh' ∈ own ++ bkE r13 sf' sc' sh' :: [] := by simp
    refine ⟨sf', bkE_0 hm13, sc', bkE_1 hm13, sh', bkE_2 hm13, _, rfl, rfl, rfl, ?_⟩
    refine wro A (boE s) (shE s.r 52 6 :: s.eb :: (C ++ [bkE r13 sf' sc' sh'])) ⟨rfl, rfl, rfl, trivial⟩ (by rw [hown]; simp [boL]) rfl (by simp [boE]) ?_
    have eb1 : (⟨(boE s).aid, spl (boE s).cells 0 [.slice sf'.a sf'.len sf'.cap, .slice sc'.a sc'.len sc'.cap, .slice sh'.a sh'.len sh'.cap], (boE s).cap⟩ : Ent) = boE { s with sf := sf', sc := sc', sh := sh' } := rfl
    rw [eb1]
    have e3 : A ++ boE { s with sf := sf', sc := sc', sh := sh' } :: (shE s.r 52 6 :: s.eb :: (C ++ [bkE r13 sf' sc' sh'])) = A ++ (boL { s with sf := sf', sc := sc', sh := sh' } ++ (C ++ [bkE r13 sf' sc' sh'])) := by simp [boL]
    rw [e3]
    generalize hs2 : ({ s with sf := sf', sc := sc', sh := sh' } : BkS) = s2
    have r2 : s2.r = s.r := by rw [← hs2]
    have l2 : s2.l = x.l := by rw [← hs2]; exact h.l
    have n2 : s2.n = x.n := by rw [← hs2]; exact h.n
    have b2 : BufE s2.sb s2.eb s2.l := by rw [l2, ← hs2]; exact h.bf
    have hT2 : shE 1 T 20 ∈ A ++ (boL s2 ++ (C ++ [bkE r13 sf' sc' sh'])) := by
      simp only [List.mem_append] at hT ⊢
      rcases hT with h | h
      · exact .inl h
      · exact .inr (.inr (.inl h))
    have hG2 := hG.up m'
    have hw2 : ∀ {X}, RdSl ⟨X, ro'⟩ sw (ints want) := fun {X} => hw.mono (by simp) m'
    have hwl := (hw2 (X := [])).len
    rw [ints_length] at hwl
    have e32 : ByteArray.mk (List.toArray [(32 : UInt8)]) = bs [32] := rfl
    simp only [e32, bs_app, bs_size]
    refine ⟨by simp, itoa_c (by omega) (by omega) hT2 hG2 ⟨_, rfl, ?_⟩⟩
    rw [show (ByteArray.mk (Lib.itoa t).toArray) = bs (Lib.decDigits t.toNat) by rw [itoa_nn ht0]; rfl]
    have hdt := dec_len (n := t.toNat) (by omega)
    simp only [bs_app, bs_size]
    refine ⟨by simp only [List.length_append, List.length_cons, List.length_nil]; omega, fun str h' => str = bs (lineB 98 t want) ∧ h' = ⟨A ++ (boL s2 ++ (C ++ [bkE r13 sf' sc' sh'])), ro'⟩, ⟨fun m str i h' => h' = ⟨A ++ (boL s2 ++ (C ++ [bkE r13 sf' sc' sh'])), ro'⟩ ∧ m ≤ want.length ∧ i = ((want.length - m : Nat) : Int) ∧ str = bs (lineB 98 t (want.take (want.length - m))), ⟨want.length, gi ⟨rfl, Nat.le_refl _, by simp, by simp [lineB]⟩⟩, ?_⟩, ?_⟩
    · rintro m _ str i _ ⟨rfl, hmk, rfl, rfl⟩
      refine VIf_dec (fun hi => ?_) (fun hi => ?_)
      · obtain ⟨k, hk', hkl⟩ : ∃ k, want.length - m = k ∧ k < want.length := ⟨want.length - m, rfl, by omega⟩
        rw [hk']
        obtain ⟨ad, had⟩ := (hw2 (X := [])).addr (by rw [ints_length]; omega)
        have hg := List.getElem?_eq_getElem hkl
        refine ⟨ad, had, by omega, by omega, want[k], (RdSl.rdi hw2 had (i := ((k : Nat) : Int).toNat) (by rw [Int.toNat_natCast]; exact hg)), ?_⟩
        have hx := hwa _ (List.getElem_mem hkl)
        refine itoa_c (by omega) (by omega) hT2 hG2 ⟨_, rfl, ?_⟩
        rw [show (ByteArray.mk (Lib.itoa want[k]).toArray) = bs (Lib.decDigits want[k].toNat) by rw [itoa_nn hx.1]; rfl]
        have hdk := dec_len (n := want[k].toNat) (by omega)
        have hlk := lineB_len (w := 98) (want := want.take k) ⟨ht0, ht1⟩ (fun y hy => hwa y (List.mem_of_mem_take hy)) (by rw [List.length_take]; omega)
        simp only [e32, bs_app, bs_size]
        refine ⟨by simp only [List.length_append, List.length_cons, List.length_nil]; omega, by simp only [List.length_append, List.length_cons, List.length_nil]; omega, ⟨by omega, by omega⟩, m - 1, by omega, gi ⟨rfl, by omega, by omega, ?_⟩⟩
        rw [show want.length - (m - 1) = k + 1 by omega, bs_inj]
        rw [List.take_add_one, hg]
        simp only [lineB, List.flatMap_append, Option.toList_some, List.flatMap_cons, List.flatMap_nil, List.append_nil, List.cons_append, List.append_assoc, List.nil_append]
      · have : m = 0 := by omega
        subst this
        exact gi ⟨by simp, rfl⟩
    · rintro _ str _ ⟨rfl, rfl⟩
      have hn2 : 0 ≤ s2.n ∧ s2.n ≤ 60 := by omega
      have := do_J2 (s := s2) (w := 98) (t := t) (want := want) (post := post) A (C ++ [bkE r13 sf' sc' sh']) rfl hT2 hG2 b2 (by rw [l2]; omega) hn2 ⟨ht0, ht1⟩ hwa hw3 (fun sb' eb' hb2 => ?_)
      · rw [r2] at this
        exact this
      · have e4 : s2.l ++ lineF (lineB 98 t want) = x.l ++ lineF (lineB 98 t want) := by rw [l2]
        refine ⟨⟨A ++ (boL { s2 with pa := true, sb := sb', eb := eb', n := s2.n + 1, l := s2.l ++ lineF (lineB 98 t want) } ++ C), ro'⟩, Gh.drop ?_, ?_⟩
        · exact List.Sublist.append_left (List.Sublist.append_left (List.sublist_append_left _ _) _) _
        · have := hk { s2 with pa := true, sb := sb', eb := eb', n := s2.n + 1, l := s2.l ++ lineF (lineB 98 t want) } ro' m' (by
            rw [e2]
            refine ⟨?_, h.sh.mv, by rw [← e4]; exact hb2, e4, by dsimp only; omega, by dsimp only; omega, by simp only [List.length_append]; omega⟩
            rw [← hs2]
            exact hb') r2
          rw [e1, h0] at this
          exact this

end Go.Proofs.YtnppmcgmmdcpiaaDoor
