import Derived.Test.YtnppmcgmmdcpiaaGreatDoorKC
import Derived.Test.YtnppmcgmmdcpiaaGreatDoorT2
import Derived.RegionTactic
import Derived.BigCall
import Derived.WalkKit
import Derived.Lib.LaidTab
import Derived.Test.YtnppmcgmmdcpiaaGreatDoorKB
import Derived.Test.YtnppmcgmmdcpiaaGreatDoorEngJ
import Derived.Test.YtnppmcgmmdcpiaaGreatDoorEngL
namespace Go.Proofs.YtnppmcgmmdcpiaaGreatDoor
open Go.Eng
set_option maxRecDepth 20000
/-! ### what a book does -/
structure Bo where
  b : Bk
  l : List UInt8
  n : Nat
noncomputable def bcode (x : Bo) (back : Bool) (t : Int) (want : List Int) : Int :=
  if x.n ≥ 60 then 4 else if back = true then bback x.b t want else bask x.b t want
noncomputable def bput (x : Bo) (back : Bool) (t : Int) (want : List Int) : Bo :=
  if bcode x back t want ≠ 0 then x else ⟨bmv x.b t.toNat want (if back = true then -1 else 1), x.l ++ lineF (lineB (if back = true then 98 else 97) t want), x.n + 1⟩
/-- how banks are shaped -/
structure BSh (b : Bk) : Prop where
  n3 : b.free.length ≤ 3
  m5 : b.claim.length ≤ 5
  hl : b.has.length = b.claim.length
  cn : ∀ t, t < b.claim.length → ((b.claim[t]?).getD []).length = b.free.length ∧ ((b.has[t]?).getD []).length = b.free.length
theorem BOk.bsh {b : Bk} (h : BOk b) : BSh b := ⟨h.n3, h.m5, h.hl, h.cn⟩
theorem BSh.mv {b : Bk} (h : BSh b) {t : Nat} {want : List Int} {s : Int} : BSh (bmv b t want s) := by
  have h1 := h.n3; have h2 := h.m5; have h3 := h.hl
  refine ⟨by rw [bmv_fl]; exact h1, h2, by simp [bmv, h3], fun u hu => ?_⟩
  rw [bmv_fl]
  refine ⟨(h.cn u hu).1, ?_⟩
  have hu' : u < b.has.length := by rw [h3]; exact hu
  have := (h.cn u hu).2
  simp only [bmv, List.getElem?_set]
  split
  · rename_i e
    subst e
    rw [if_pos hu']
    simp
  · exact this
theorem BSh.sml {b : Bk} (h : BSh b) : Sml b := by
  have h1 := h.n3; have h2 := h.m5; have h3 := h.hl
  refine ⟨by omega, ⟨by omega, fun l hl => ?_⟩, ⟨by omega, fun l hl => ?_⟩⟩
  · obtain ⟨t, ht, rfl⟩ := List.mem_iff_getElem.1 hl
    have := (h.cn t ht).1
    rw [List.getElem?_eq_getElem ht] at this
    simp only [Option.getD_some] at this
    omega
  · obtain ⟨t, ht, rfl⟩ := List.mem_iff_getElem.1 hl
    have := (h.cn t (by omega)).2
    rw [List.getElem?_eq_getElem ht] at this
    simp only [Option.getD_some] at this
    omega
/-- a book holds what is told -/
structure BOO (s : BkS) (x : Bo) (ro : Addr → Option Value) : Prop where
  rd : BkRd ⟨[], ro⟩ s.sf s.sc s.sh x.b
  sh : BSh x.b
  bf : BufE s.sb s.eb x.l
  l : s.l = x.l
  n : s.n = (x.n : Int)
  n60 : x.n ≤ 60
  ll : x.l.length ≤ 112 * x.n
theorem BOO.up {s : BkS} {x : Bo} {ro ro' : Addr → Option Value} (h : BOO s x ro) (m : ∀ a v, ro a = some v → ro' a = some v) : BOO s x ro' := ⟨h.rd.mono (by simp) m, h.sh, h.bf, h.l, h.n, h.n60, h.ll⟩

theorem bo_rd {s : BkS} {own : List Ent} {ro : Addr → Option Value} (h : boE s ∈ own) (i : Nat) {v : Value} (hv : (boE s).cells[i]? = some v) : H.rd ⟨own, ro⟩ (Addr.mk s.r i none) v := rdo _ h rfl hv

set_option maxHeartbeats 400000 in
/-- behind the bank: the line is put down -/
theorem do_J2 {s : BkS} {w : UInt8} {t : Int} {want : List Int} {ro : Addr → Option Value} {post : Value → H → Prop} {own : List Ent} (A C : List Ent) (hown : own = A ++ (boL s ++ C)) {T : Nat} (hT : shE 4 T 20 ∈ own) (hG : HasTab ro)
    (hb : BufE s.sb s.eb s.l) (hl : s.l.length ≤ 112 * 60) (hn : 0 ≤ s.n ∧ s.n ≤ 60) (ht : 0 ≤ t ∧ t ≤ 1000) (hw : ∀ x ∈ want, 0 ≤ x ∧ x ≤ 1000) (h3 : want.length ≤ 3)
    (hk : ∀ sb' eb', BufE sb' eb' (s.l ++ lineF (lineB w t want)) → VRet ⟨A ++ (boL { s with pa := true, sb := sb', eb := eb', n := s.n + 1, l := s.l ++ lineF (lineB w t want) } ++ C), ro⟩ .nilIface post) :
    f38_J2 (some (Addr.mk s.r 0 none)) post (bs (lineB w t want)) ⟨own, ro⟩ := by
  have hll := lineB_len (w := w) ht hw h3
  have hlf := lineF_len hll
  have hsl := sumB_lt (lineB w t want)
  have hdl := dec_len (n := sumB (lineB w t want)) (by omega)
  have e10 : ByteArray.mk (List.toArray [(10 : UInt8)]) = bs [10] := rfl
  have e32 : ByteArray.mk (List.toArray [(32 : UInt8)]) = bs [32] := rfl
  simp only [f38_J2, add_mk', Nat.zero_add, Nat.add_zero, e10, e32, bs_app, bs_size]
  refine ⟨_, rfl, by simp only [List.length_cons, List.length_nil]; omega, sum_c (by rw [bs_size]; omega) ⟨_, rfl, ?_⟩⟩
  rw [bs_data]
  refine itoa_c (by omega) (by omega) hT hG ⟨_, rfl, ?_⟩
  rw [show (ByteArray.mk (Lib.itoa ((sumB (lineB w t want) : Nat) : Int)).toArray) = bs (Lib.decDigits (sumB (lineB w t want))) by rw [itoa_nn (by omega), Int.toNat_natCast]; rfl]
  simp only [bs_app, bs_size]
  refine ⟨by simp only [List.length_append, List.length_cons, List.length_nil]; omega, by simp only [List.length_append, List.length_cons, List.length_nil]; omega, ?_⟩
  have e1 : lineB w t want ++ [32] ++ Lib.decDigits (sumB (lineB w t want)) ++ [10] = lineF (lineB w t want) := by simp [lineF]
  rw [e1]
  have h0 : (bs (lineF (lineB w t want))).size ≠ 0 := by
    rw [bs_size]
    have := lineF_ne (lineB w t want)
    intro hc
    exact this (List.eq_nil_of_length_eq_zero hc)
  refine ws_c hb h0 (by rw [bs_size]; omega) A C hown (fun sb' eb' hb' => ?_)
  rw [bs_data] at hb' ⊢
  refine ⟨_, none, rfl, _, rfl, ?_⟩
  have hm : boE { s with pa := true, sb := sb', eb := eb', l := s.l ++ lineF (lineB w t want) } ∈ A ++ (boL { s with pa := true, sb := sb', eb := eb', l := s.l ++ lineF (lineB w t want) } ++ C) := by simp [boL]
  refine ⟨s.n, bo_rd hm 5 rfl, ⟨by omega, by omega⟩, _, rfl, ?_⟩
  refine wro A (boE { s with pa := true, sb := sb', eb := eb', l := s.l ++ lineF (lineB w t want) }) (shE s.r 56 6 :: eb' :: C) ⟨rfl, trivial⟩ (by simp [boL]) rfl (by simp [boE]) ?_
  have := hk sb' eb' hb'
  simpa [boL, boE, spl] using this
end Go.Proofs.YtnppmcgmmdcpiaaGreatDoor
namespace Go.Proofs.YtnppmcgmmdcpiaaGreatDoor
open Go.Eng
set_option maxRecDepth 20000

theorem want_all {b : Bk} {t : Int} {want : List Int} (h : BAsk b t want) : (∀ x ∈ want, 0 ≤ x ∧ x ≤ 1000) ∧ want.length ≤ 3 ∧ 0 ≤ t ∧ t ≤ 1000 := by
  have h1 := h.ok.n3; have h2 := h.l; have h3 := h.t0; have h4 := h.t1; have h5 := h.ok.m5
  refine ⟨fun x hx => ?_, by omega, h3, by omega⟩
  obtain ⟨k, hk, rfl⟩ := List.mem_iff_getElem.1 hx
  have := h.w k (by omega)
  rwa [gI_at2 (List.getElem?_eq_getElem hk)] at this


set_option maxHeartbeats 800000 in
theorem do_ask {s : BkS} {x : Bo} {t : Int} {want : List Int} {sw : SV} {own : List Ent} {ro : Addr → Option Value} {post : Value → H → Prop} {T : Nat} (A C : List Ent) (hown : own = A ++ (boL s ++ C)) (hT : shE 4 T 20 ∈ A ++ C) (hG : HasTab ro)
    (h : BOO s x ro) (hw : RdSl ⟨[], ro⟩ sw (ints want))
    (hk : ∀ s' ro', (∀ a v, ro a = some v → ro' a = some v) → BOO s' (bput x false t want) ro' → s'.r = s.r → post (errV (eno 57 (bcode x false t want))) ⟨A ++ (boL s' ++ C), ro'⟩) :
    SemCall Tryz.prog 38 (List.toArray [.pointer (some (Addr.mk s.r 0 none)), .string (bs [97]), .func (.func 39) #[] #[], .int .i64 t, .slice sw.a sw.len sw.cap]) ⟨own, ro⟩ post := by
  refine f38_call (some (Addr.mk s.r 0 none)) (bs [97]) t sw _ post ?_
  have hm : boE s ∈ own := by rw [hown]; simp [boL]
  have hn := h.n; have hn60 := h.n60
  simp only [f38_sem, add_mk', Nat.zero_add, Nat.add_zero]
  refine ⟨_, rfl, s.n, bo_rd hm 5 rfl, VIf_eq (fun h60 => ?_) (fun h60 => ?_)⟩
  · have e1 : bcode x false t want = 4 := by unfold bcode; rw [if_pos (by omega)]
    have e2 : bput x false t want = x := by unfold bput; rw [if_pos (by rw [e1]; decide)]
    have := hk s ro (fun _ _ h => h) (by rw [e2]; exact h) rfl
    rw [e1] at this
    rw [hown]
    exact ret this
  have e1 : bcode x false t want = bask x.b t want := by unfold bcode; rw [if_neg (by omega)]; simp
  have rdo : BkRd ⟨own, ro⟩ s.sf s.sc s.sh x.b := h.rd.mono (by simp) (fun _ _ h => h)
  have hwo : RdSl ⟨own, ro⟩ sw (ints want) := hw.mono (by simp) (fun _ _ h => h)
  refine ⟨_, rfl, s.sf, bo_rd hm 0 rfl, s.sc, bo_rd hm 1 rfl, s.sh, bo_rd hm 2 rfl, bank_ask_c rdo hwo (fun hne ro' m' => ?_) (fun h0 hA _ sf' sc' sh' ro' m' hb' => ?_)⟩
  · refine ⟨nilV, nilV, nilV, _, rfl, ?_⟩
    intro r13 _
    refine ⟨rfl, rfl, wro own ⟨some r13, [Value.slice none 0 0, .slice none 0 0, .slice none 0 0], 3⟩ [] ⟨rfl, rfl, rfl, trivial⟩ rfl rfl (by simp) (VIf_nerr (fun _ => ?_) (fun hc => absurd hc hne))⟩
    have e2 : bput x false t want = x := by unfold bput; rw [if_pos (by rw [e1]; exact hne)]
    have := hk s ro' m' (by rw [e2]; exact h.up m') rfl
    rw [e1] at this
    exact ⟨⟨own, ro'⟩, Gh.drop (by simp), by rw [hown]; exact this⟩
  · obtain ⟨hwa, hw3, ht0, ht1⟩ := want_all hA
    have hll := lineB_len (w := 97) ⟨ht0, ht1⟩ hwa hw3
    have hlf := lineF_len hll
    have hlx := h.ll
    have e2 : bput x false t want = ⟨bmv x.b t.toNat want 1, x.l ++ lineF (lineB 97 t want), x.n + 1⟩ := by unfold bput; rw [if_neg (by rw [e1]; exact not_not_intro h0)]; simp
    refine ⟨sf', sc', sh', none, rfl, ?_⟩
    intro r13 _
    have E13 : ∀ cs : List Value, cs = [slV sf', slV sc', slV sh'] → True := fun _ _ => trivial
    refine ⟨rfl, rfl, wro own ⟨some r13, [Value.slice none 0 0, .slice none 0 0, .slice none 0 0], 3⟩ [] ⟨rfl, rfl, rfl, trivial⟩ rfl rfl (by simp) (VIf_nnil ?_)⟩
    have em : (⟨some r13, spl [Value.slice none 0 0, .slice none 0 0, .slice none 0 0] 0 [.slice sf'.a sf'.len sf'.cap, .slice sc'.a sc'.len sc'.cap, .slice sh'.a sh'.len sh'.cap], 3⟩ : Ent) = bkE r13 sf' sc' sh' := rfl
    dsimp only
    rw [em]
    have hm13 : bkE r13 sf' sc' sh' ∈ own ++ bkE r13 sf' sc' sh' :: [] := by simp
    refine ⟨sf', bkE_0 hm13, sc', bkE_1 hm13, sh', bkE_2 hm13, _, rfl, rfl, rfl, ?_⟩
    refine wro A (boE s) (shE s.r 56 6 :: s.eb :: (C ++ [bkE r13 sf' sc' sh'])) ⟨rfl, rfl, rfl, trivial⟩ (by rw [hown]; simp [boL]) rfl (by simp [boE]) ?_
    have eb1 : (⟨(boE s).aid, spl (boE s).cells 0 [.slice sf'.a sf'.len sf'.cap, .slice sc'.a sc'.len sc'.cap, .slice sh'.a sh'.len sh'.cap], (boE s).cap⟩ : Ent) = boE { s with sf := sf', sc := sc', sh := sh' } := rfl
    rw [eb1]
    have e3 : A ++ boE { s with sf := sf', sc := sc', sh := sh' } :: (shE s.r 56 6 :: s.eb :: (C ++ [bkE r13 sf' sc' sh'])) = A ++ (boL { s with sf := sf', sc := sc', sh := sh' } ++ (C ++ [bkE r13 sf' sc' sh'])) := by simp [boL]
    rw [e3]
    generalize hs2 : ({ s with sf := sf', sc := sc', sh := sh' } : BkS) = s2
    have r2 : s2.r = s.r := by rw [← hs2]
    have l2 : s2.l = x.l := by rw [← hs2]; exact h.l
    have n2 : s2.n = x.n := by rw [← hs2]; exact h.n
    have b2 : BufE s2.sb s2.eb s2.l := by rw [l2, ← hs2]; exact h.bf
    have hT2 : shE 4 T 20 ∈ A ++ (boL s2 ++ (C ++ [bkE r13 sf' sc' sh'])) := by
      simp only [List.mem_append] at hT ⊢
      rcases hT with h | h
      · exact .inl h
      · exact .inr (.inr (.inl h))
    have hG2 := hG.up m'
    have hw2 : ∀ {X}, RdSl ⟨X, ro'⟩ sw (ints want) := fun {X} => hw.mono (by simp) m'
    have hwl := (hw2 (X := [])).len
    rw [ints_length] at hwl
    have e32 : ByteArray.mk (List.toArray [(32 : UInt8)]) = bs [32] := rfl
    simp only [e32, bs_app, bs_size]
    refine ⟨by simp, itoa_c (by omega) (by omega) hT2 hG2 ⟨_, rfl, ?_⟩⟩
    rw [show (ByteArray.mk (Lib.itoa t).toArray) = bs (Lib.decDigits t.toNat) by rw [itoa_nn ht0]; rfl]
    have hdt := dec_len (n := t.toNat) (by omega)
    simp only [bs_app, bs_size]
    refine ⟨by simp only [List.length_append, List.length_cons, List.length_nil]; omega, fun str h' => str = bs (lineB 97 t want) ∧ h' = ⟨A ++ (boL s2 ++ (C ++ [bkE r13 sf' sc' sh'])), ro'⟩, ⟨fun m str i h' => h' = ⟨A ++ (boL s2 ++ (C ++ [bkE r13 sf' sc' sh'])), ro'⟩ ∧ m ≤ want.length ∧ i = ((want.length - m : Nat) : Int) ∧ str = bs (lineB 97 t (want.take (want.length - m))), ⟨want.length, gi ⟨rfl, Nat.le_refl _, by simp, by simp [lineB]⟩⟩, ?_⟩, ?_⟩
    · rintro m _ str i _ ⟨rfl, hmk, rfl, rfl⟩
      refine VIf_dec (fun hi => ?_) (fun hi => ?_)
      · obtain ⟨k, hk', hkl⟩ : ∃ k, want.length - m = k ∧ k < want.length := ⟨want.length - m, rfl, by omega⟩
        rw [hk']
        obtain ⟨ad, had⟩ := (hw2 (X := [])).addr (by rw [ints_length]; omega)
        have hg := List.getElem?_eq_getElem hkl
        refine ⟨ad, had, by omega, by omega, want[k], (RdSl.rdi hw2 had (i := ((k : Nat) : Int).toNat) (by rw [Int.toNat_natCast]; exact hg)), ?_⟩
        have hx := hwa _ (List.getElem_mem hkl)
        refine itoa_c (by omega) (by omega) hT2 hG2 ⟨_, rfl, ?_⟩
        rw [show (ByteArray.mk (Lib.itoa want[k]).toArray) = bs (Lib.decDigits want[k].toNat) by rw [itoa_nn hx.1]; rfl]
        have hdk := dec_len (n := want[k].toNat) (by omega)
        have hlk := lineB_len (w := 97) (want := want.take k) ⟨ht0, ht1⟩ (fun y hy => hwa y (List.mem_of_mem_take hy)) (by rw [List.length_take]; omega)
        simp only [e32, bs_app, bs_size]
        refine ⟨by simp only [List.length_append, List.length_cons, List.length_nil]; omega, by simp only [List.length_append, List.length_cons, List.length_nil]; omega, ⟨by omega, by omega⟩, m - 1, by omega, gi ⟨rfl, by omega, by omega, ?_⟩⟩
        rw [show want.length - (m - 1) = k + 1 by omega, bs_inj]
        rw [List.take_add_one, hg]
        simp only [lineB, List.flatMap_append, Option.toList_some, List.flatMap_cons, List.flatMap_nil, List.append_nil, List.cons_append, List.append_assoc, List.nil_append]
      · have : m = 0 := by omega
        subst this
        exact gi ⟨by simp, rfl⟩
    · rintro _ str _ ⟨rfl, rfl⟩
      have hn2 : 0 ≤ s2.n ∧ s2.n ≤ 60 := by omega
      have := do_J2 (s := s2) (w := 97) (t := t) (want := want) (post := post) A (C ++ [bkE r13 sf' sc' sh']) rfl hT2 hG2 b2 (by rw [l2]; omega) hn2 ⟨ht0, ht1⟩ hwa hw3 (fun sb' eb' hb2 => ?_)
      · rw [r2] at this
        exact this
      · have e4 : s2.l ++ lineF (lineB 97 t want) = x.l ++ lineF (lineB 97 t want) := by rw [l2]
        refine ⟨⟨A ++ (boL { s2 with pa := true, sb := sb', eb := eb', n := s2.n + 1, l := s2.l ++ lineF (lineB 97 t want) } ++ C), ro'⟩, Gh.drop ?_, ?_⟩
        · exact List.Sublist.append_left (List.Sublist.append_left (List.sublist_append_left _ _) _) _
        · have := hk { s2 with pa := true, sb := sb', eb := eb', n := s2.n + 1, l := s2.l ++ lineF (lineB 97 t want) } ro' m' (by
            rw [e2]
            refine ⟨?_, h.sh.mv, by rw [← e4]; exact hb2, e4, by dsimp only; omega, by dsimp only; omega, by simp only [List.length_append]; omega⟩
            rw [← hs2]
            exact hb') r2
          rw [e1, h0] at this
          exact this


set_option maxHeartbeats 800000 in
theorem do_back {s : BkS} {x : Bo} {t : Int} {want : List Int} {sw : SV} {own : List Ent} {ro : Addr → Option Value} {post : Value → H → Prop} {T : Nat} (A C : List Ent) (hown : own = A ++ (boL s ++ C)) (hT : shE 4 T 20 ∈ A ++ C) (hG : HasTab ro)
    (h : BOO s x ro) (hw : RdSl ⟨[], ro⟩ sw (ints want))
    (hk : ∀ s' ro', (∀ a v, ro a = some v → ro' a = some v) → BOO s' (bput x true t want) ro' → s'.r = s.r → post (errV (eno 57 (bcode x true t want))) ⟨A ++ (boL s' ++ C), ro'⟩) :
    SemCall Tryz.prog 38 (List.toArray [.pointer (some (Addr.mk s.r 0 none)), .string (bs [98]), .func (.func 49) #[] #[], .int .i64 t, .slice sw.a sw.len sw.cap]) ⟨own, ro⟩ post := by
  refine f38b_call (some (Addr.mk s.r 0 none)) (bs [98]) t sw _ post ?_
  have hm : boE s ∈ own := by rw [hown]; simp [boL]
  have hn := h.n; have hn60 := h.n60
  simp only [f38b_sem, add_mk', Nat.zero_add, Nat.add_zero]
  refine ⟨_, rfl, s.n, bo_rd hm 5 rfl, VIf_eq (fun h60 => ?_) (fun h60 => ?_)⟩
  · have e1 : bcode x true t want = 4 := by unfold bcode; rw [if_pos (by omega)]
    have e2 : bput x true t want = x := by unfold bput; rw [if_pos (by rw [e1]; decide)]
    have := hk s ro (fun _ _ h => h) (by rw [e2]; exact h) rfl
    rw [e1] at this
    rw [hown]
    exact ret this
  have e1 : bcode x true t want = bback x.b t want := by unfold bcode; rw [if_neg (by omega)]; simp
  have rdo : BkRd ⟨own, ro⟩ s.sf s.sc s.sh x.b := h.rd.mono (by simp) (fun _ _ h => h)
  have hwo : RdSl ⟨own, ro⟩ sw (ints want) := hw.mono (by simp) (fun _ _ h => h)
  refine ⟨_, rfl, s.sf, bo_rd hm 0 rfl, s.sc, bo_rd hm 1 rfl, s.sh, bo_rd hm 2 rfl, bank_back_c rdo hwo (fun hne => ?_) (fun h0 hA sf' sc' sh' ro' m' hb' => ?_)⟩
  · have m' : ∀ a v, ro a = some v → ro a = some v := fun _ _ h => h
    refine ⟨nilV, nilV, nilV, _, rfl, ?_⟩
    intro r13 _
    refine ⟨rfl, rfl, wro own ⟨some r13, [Value.slice none 0 0, .slice none 0 0, .slice none 0 0], 3⟩ [] ⟨rfl, rfl, rfl, trivial⟩ rfl rfl (by simp) (VIf_nerr (fun _ => ?_) (fun hc => absurd hc hne))⟩
    have e2 : bput x true t want = x := by unfold bput; rw [if_pos (by rw [e1]; exact hne)]
    have := hk s ro m' (by rw [e2]; exact h.up m') rfl
    rw [e1] at this
    exact ⟨⟨own, ro⟩, Gh.drop (by simp), by rw [hown]; exact this⟩
  · obtain ⟨hwa, hw3, ht0, ht1⟩ := want_all hA
    have hll := lineB_len (w := 98) ⟨ht0, ht1⟩ hwa hw3
    have hlf := lineF_len hll
    have hlx := h.ll
    have e2 : bput x true t want = ⟨bmv x.b t.toNat want (-1), x.l ++ lineF (lineB 98 t want), x.n + 1⟩ := by unfold bput; rw [if_neg (by rw [e1]; exact not_not_intro h0)]; simp
    refine ⟨sf', sc', sh', none, rfl, ?_⟩
    intro r13 _
    have E13 : ∀ cs : List Value, cs = [slV sf', slV sc', slV sh'] → True := fun _ _ => trivial
    refine ⟨rfl, rfl, wro own ⟨some r13, [Value.slice none 0 0, .slice none 0 0, .slice none 0 0], 3⟩ [] ⟨rfl, rfl, rfl, trivial⟩ rfl rfl (by simp) (VIf_nnil ?_)⟩
    have em : (⟨some r13, spl [Value.slice none 0 0, .slice none 0 0, .slice none 0 0] 0 [.slice sf'.a sf'.len sf'.cap, .slice sc'.a sc'.len sc'.cap, .slice sh'.a sh'.len sh'.cap], 3⟩ : Ent) = bkE r13 sf' sc' sh' := rfl
    dsimp only
    rw [em]
    have hm13 : bkE r13 sf' sc' sh' ∈ own ++ bkE r13 sf' sc' sh' :: [] := by simp
    refine ⟨sf', bkE_0 hm13, sc', bkE_1 hm13, sh', bkE_2 hm13, _, rfl, rfl, rfl, ?_⟩
    refine wro A (boE s) (shE s.r 56 6 :: s.eb :: (C ++ [bkE r13 sf' sc' sh'])) ⟨rfl, rfl, rfl, trivial⟩ (by rw [hown]; simp [boL]) rfl (by simp [boE]) ?_
    have eb1 : (⟨(boE s).aid, spl (boE s).cells 0 [.slice sf'.a sf'.len sf'.cap, .slice sc'.a sc'.len sc'.cap, .slice sh'.a sh'.len sh'.cap], (boE s).cap⟩ : Ent) = boE { s with sf := sf', sc := sc', sh := sh' } := rfl
    rw [eb1]
    have e3 : A ++ boE { s with sf := sf', sc := sc', sh := sh' } :: (shE s.r 56 6 :: s.eb :: (C ++ [bkE r13 sf' sc' sh'])) = A ++ (boL { s with sf := sf', sc := sc', sh := sh' } ++ (C ++ [bkE r13 sf' sc' sh'])) := by simp [boL]
    rw [e3]
    generalize hs2 : ({ s with sf := sf', sc := sc', sh := sh' } : BkS) = s2
    have r2 : s2.r = s.r := by rw [← hs2]
    have l2 : s2.l = x.l := by rw [← hs2]; exact h.l
    have n2 : s2.n = x.n := by rw [← hs2]; exact h.n
    have b2 : BufE s2.sb s2.eb s2.l := by rw [l2, ← hs2]; exact h.bf
    have hT2 : shE 4 T 20 ∈ A ++ (boL s2 ++ (C ++ [bkE r13 sf' sc' sh'])) := by
      simp only [List.mem_append] at hT ⊢
      rcases hT with h | h
      · exact .inl h
      · exact .inr (.inr (.inl h))
    have hG2 := hG.up m'
    have hw2 : ∀ {X}, RdSl ⟨X, ro'⟩ sw (ints want) := fun {X} => hw.mono (by simp) m'
    have hwl := (hw2 (X := [])).len
    rw [ints_length] at hwl
    have e32 : ByteArray.mk (List.toArray [(32 : UInt8)]) = bs [32] := rfl
    simp only [e32, bs_app, bs_size]
    refine ⟨by simp, itoa_c (by omega) (by omega) hT2 hG2 ⟨_, rfl, ?_⟩⟩
    rw [show (ByteArray.mk (Lib.itoa t).toArray) = bs (Lib.decDigits t.toNat) by rw [itoa_nn ht0]; rfl]
    have hdt := dec_len (n := t.toNat) (by omega)
    simp only [bs_app, bs_size]
    refine ⟨by simp only [List.length_append, List.length_cons, List.length_nil]; omega, fun str h' => str = bs (lineB 98 t want) ∧ h' = ⟨A ++ (boL s2 ++ (C ++ [bkE r13 sf' sc' sh'])), ro'⟩, ⟨fun m str i h' => h' = ⟨A ++ (boL s2 ++ (C ++ [bkE r13 sf' sc' sh'])), ro'⟩ ∧ m ≤ want.length ∧ i = ((want.length - m : Nat) : Int) ∧ str = bs (lineB 98 t (want.take (want.length - m))), ⟨want.length, gi ⟨rfl, Nat.le_refl _, by simp, by simp [lineB]⟩⟩, ?_⟩, ?_⟩
    · rintro m _ str i _ ⟨rfl, hmk, rfl, rfl⟩
      refine VIf_dec (fun hi => ?_) (fun hi => ?_)
      · obtain ⟨k, hk', hkl⟩ : ∃ k, want.length - m = k ∧ k < want.length := ⟨want.length - m, rfl, by omega⟩
        rw [hk']
        obtain ⟨ad, had⟩ := (hw2 (X := [])).addr (by rw [ints_length]; omega)
        have hg := List.getElem?_eq_getElem hkl
        refine ⟨ad, had, by omega, by omega, want[k], (RdSl.rdi hw2 had (i := ((k : Nat) : Int).toNat) (by rw [Int.toNat_natCast]; exact hg)), ?_⟩
        have hx := hwa _ (List.getElem_mem hkl)
        refine itoa_c (by omega) (by omega) hT2 hG2 ⟨_, rfl, ?_⟩
        rw [show (ByteArray.mk (Lib.itoa want[k]).toArray) = bs (Lib.decDigits want[k].toNat) by rw [itoa_nn hx.1]; rfl]
        have hdk := dec_len (n := want[k].toNat) (by omega)
        have hlk := lineB_len (w := 98) (want := want.take k) ⟨ht0, ht1⟩ (fun y hy => hwa y (List.mem_of_mem_take hy)) (by rw [List.length_take]; omega)
        simp only [e32, bs_app, bs_size]
        refine ⟨by simp only [List.length_append, List.length_cons, List.length_nil]; omega, by simp only [List.length_append, List.length_cons, List.length_nil]; omega, ⟨by omega, by omega⟩, m - 1, by omega, gi ⟨rfl, by omega, by omega, ?_⟩⟩
        rw [show want.length - (m - 1) = k + 1 by omega, bs_inj]
        rw [List.take_add_one, hg]
        simp only [lineB, List.flatMap_append, Option.toList_some, List.flatMap_cons, List.flatMap_nil, List.append_nil, List.cons_append, List.append_assoc, List.nil_append]
      · have : m = 0 := by omega
        subst this
        exact gi ⟨by simp, rfl⟩
    · rintro _ str _ ⟨rfl, rfl⟩
      have hn2 : 0 ≤ s2.n ∧ s2.n ≤ 60 := by omega
      have := do_J2 (s := s2) (w := 98) (t := t) (want := want) (post := post) A (C ++ [bkE r13 sf' sc' sh']) rfl hT2 hG2 b2 (by rw [l2]; omega) hn2 ⟨ht0, ht1⟩ hwa hw3 (fun sb' eb' hb2 => ?_)
      · rw [r2] at this
        exact this
      · have e4 : s2.l ++ lineF (lineB 98 t want) = x.l ++ lineF (lineB 98 t want) := by rw [l2]
        refine ⟨⟨A ++ (boL { s2 with pa := true, sb := sb', eb := eb', n := s2.n + 1, l := s2.l ++ lineF (lineB 98 t want) } ++ C), ro'⟩, Gh.drop ?_, ?_⟩
        · exact List.Sublist.append_left (List.Sublist.append_left (List.sublist_append_left _ _) _) _
        · have := hk { s2 with pa := true, sb := sb', eb := eb', n := s2.n + 1, l := s2.l ++ lineF (lineB 98 t want) } ro' m' (by
            rw [e2]
            refine ⟨?_, h.sh.mv, by rw [← e4]; exact hb2, e4, by dsimp only; omega, by dsimp only; omega, by simp only [List.length_append]; omega⟩
            rw [← hs2]
            exact hb') r2
          rw [e1, h0] at this
          exact this

end Go.Proofs.YtnppmcgmmdcpiaaGreatDoor
namespace Go.Proofs.YtnppmcgmmdcpiaaGreatDoor
open Go.Eng
set_option maxRecDepth 20000
/-! ### a bank's copy, and how banks are shaped -/
set_option maxHeartbeats 1600000 in
theorem fresh_c {b : Bk} {sf sc sh : SV} {own : List Ent} {ro : Addr → Option Value} {post : Value → H → Prop} (hb : BkRd ⟨own, ro⟩ sf sc sh b) (ho : BSh b)
    (hk : ∀ (ef eC eH : Ent) (sF sC sH : SV) (X Y : List Ent) (ssC ssH : List SV), Wf ⟨own ++ (ef :: eC :: eH :: (X ++ Y)), ro⟩ → OwnsSl 1 sF ef (ints b.free) → OwnsSl 1 sC eC (ssC.map svV) → OwnsSl 1 sH eH (ssH.map svV) → OwPar X ssC b.claim → OwPar Y ssH b.has → post (bkV sF sC sH) ⟨own ++ (ef :: eC :: eH :: (X ++ Y)), ro⟩) :
    SemCall Tryz.prog 37 (List.toArray [bkV sf sc sh]) ⟨own, ro⟩ post := by
  refine SemCall.wf fun hwf => ?_
  refine f37_call sf sc sh _ post ?_
  intro r1 hf1 r3 hf3
  simp only [add_mk', Nat.zero_add, Nat.add_zero]
  have fl := hb.fl
  have cl := hb.cl
  have hl := hb.hl
  have hhl := ho.hl
  have hn3 := ho.n3
  have hm5 := ho.m5
  obtain ⟨E3, hE3⟩ : ∃ E3 : Ent, E3 = ⟨some r3, [Value.slice none 0 0, .slice none 0 0, .slice none 0 0], 3⟩ := ⟨_, rfl⟩
  have hE3' : (⟨some r3, [Value.slice none 0 0, .slice none 0 0, .slice none 0 0], List.length [Value.slice none 0 0, .slice none 0 0, .slice none 0 0]⟩ : Ent) = E3 := by rw [hE3]; rfl
  have hE1' : (⟨some r1, [Value.slice sf.a sf.len sf.cap, .slice sc.a sc.len sc.cap, .slice sh.a sh.len sh.cap], List.length [Value.slice sf.a sf.len sf.cap, .slice sc.a sc.len sc.cap, .slice sh.a sh.len sh.cap]⟩ : Ent) = bkE r1 sf sc sh := rfl
  have w1 := Wf.add (e := bkE r1 sf sc sh) hwf hf1 rfl
  rw [hE1'] at hf3
  have w3 := Wf.add (e := E3) w1 hf3 (by rw [hE3]; rfl)
  rw [hE1', hE3']
  have hup : ∀ {X : List Ent}, BkRd ⟨own ++ bkE r1 sf sc sh :: X, ro⟩ sf sc sh b := fun {X} => hb.mono (fun e he => List.mem_append_left _ he) (fun _ _ h => h)
  have hE : ∀ {X : List Ent}, bkE r1 sf sc sh ∈ own ++ bkE r1 sf sc sh :: X := fun {X} => by simp
  have hc2 : own ++ [bkE r1 sf sc sh] ++ [E3] = own ++ bkE r1 sf sc sh :: [E3] := by simp
  rw [hc2] at w3 ⊢
  refine ⟨sf, bkE_0 hE, SemCall.wfp (clone_c hup.f (by omega) (fun s8 ef of w8 => ⟨s8, rfl, ?_⟩))⟩
  have l8 := of.sl_len
  rw [ints_length] at l8
  have hc3 : own ++ bkE r1 sf sc sh :: [E3] ++ [ef] = own ++ bkE r1 sf sc sh :: E3 :: [ef] := by simp
  rw [hc3] at w8 ⊢
  intro r9 hf9
  have hE9' : (⟨some r9, [Value.slice none 0 0, .slice none 0 0, .slice none 0 0], List.length [Value.slice none 0 0, .slice none 0 0, .slice none 0 0]⟩ : Ent) = bkE r9 ⟨none, 0, 0⟩ ⟨none, 0, 0⟩ ⟨none, 0, 0⟩ := rfl
  have w9 := Wf.add (e := bkE r9 ⟨none, 0, 0⟩ ⟨none, 0, 0⟩ ⟨none, 0, 0⟩) w8 hf9 rfl
  rw [hE9']
  refine ⟨rfl, rfl, ?_⟩
  refine wro (own ++ bkE r1 sf sc sh :: E3 :: [ef]) (bkE r9 ⟨none, 0, 0⟩ ⟨none, 0, 0⟩ ⟨none, 0, 0⟩) [] ⟨rfl, rfl, rfl, trivial⟩ rfl rfl (by simp [bkE]) ?_
  have hE9 : (⟨(bkE r9 ⟨none, 0, 0⟩ ⟨none, 0, 0⟩ ⟨none, 0, 0⟩).aid, spl (bkE r9 ⟨none, 0, 0⟩ ⟨none, 0, 0⟩ ⟨none, 0, 0⟩).cells 0 [.slice s8.a s8.len s8.cap, .slice none 0 0, .slice none 0 0], (bkE r9 ⟨none, 0, 0⟩ ⟨none, 0, 0⟩ ⟨none, 0, 0⟩).cap⟩ : Ent) = bkE r9 s8 ⟨none, 0, 0⟩ ⟨none, 0, 0⟩ := rfl
  rw [hE9]
  have w10 : Wf ⟨own ++ bkE r1 sf sc sh :: E3 :: [ef] ++ [bkE r9 s8 ⟨none, 0, 0⟩ ⟨none, 0, 0⟩], ro⟩ := w9.mid rfl
  -- the layout
  let L : Ent → SV → SV → Ent → Ent → List Ent → List Ent → List Ent := fun ef sC sH eC eH X Y => own ++ bkE r1 sf sc sh :: E3 :: ef :: bkE r9 s8 sC sH :: eC :: eH :: (X ++ Y)
  refine ⟨sc, bkE_1 (r := r1) (sf := sf) (sh := sh) (by simp), ?_⟩
  refine ⟨fun h => ∃ (eC eH : Ent) (sC sH : SV) (X Y : List Ent) (ssC ssH : List SV), h = ⟨L ef sC sH eC eH X Y, ro⟩ ∧ Wf h ∧ OwnsSl 1 sC eC (ssC.map svV) ∧ OwnsSl 1 sH eH (ssH.map svV) ∧ OwPar X ssC b.claim ∧ OwPar Y ssH b.has,
    ⟨fun n x h => ∃ (k : Nat) (eC eH : Ent) (sC sH : SV) (X Y : List Ent) (ssC ssH : List SV), x = (k : Int) ∧ k ≤ b.claim.length ∧ n = b.claim.length - k ∧ h = ⟨L ef sC sH eC eH X Y, ro⟩ ∧ Wf h ∧ OwnsSl 1 sC eC (ssC.map svV) ∧ OwnsSl 1 sH eH (ssH.map svV) ∧ OwPar X ssC (b.claim.take k) ∧ OwPar Y ssH (b.has.take k),
      ⟨_, ⟨L ef ⟨none, 0, 0⟩ ⟨none, 0, 0⟩ ⟨none, [], 0⟩ ⟨none, [], 0⟩ [] [], ro⟩, ?_, 0, _, _, _, _, [], [], [], [], rfl, Nat.zero_le _, rfl, rfl, ?_, OwnsSl.nil 1, OwnsSl.nil 1, OwPar.nil, OwPar.nil⟩, ?_⟩, ?_⟩
  · have g1 := Gh.phantom (own ++ bkE r1 sf sc sh :: E3 :: [ef] ++ [bkE r9 s8 ⟨none, 0, 0⟩ ⟨none, 0, 0⟩]) [] ro 0
    have g2 := Gh.phantom (own ++ bkE r1 sf sc sh :: E3 :: [ef] ++ [bkE r9 s8 ⟨none, 0, 0⟩ ⟨none, 0, 0⟩]) [⟨none, [], 0⟩] ro 0
    simpa [L] using g1.trans g2
  · have w11 := Wf.ph (A := own ++ bkE r1 sf sc sh :: E3 :: [ef] ++ [bkE r9 s8 ⟨none, 0, 0⟩ ⟨none, 0, 0⟩]) (C := []) (by simpa using w10)
    have w12 := Wf.ph (A := own ++ bkE r1 sf sc sh :: E3 :: [ef] ++ [bkE r9 s8 ⟨none, 0, 0⟩ ⟨none, 0, 0⟩]) (C := [⟨none, [], 0⟩]) (by simpa using w11)
    simpa [L] using w12
  · rintro n _ x _ ⟨k, eC, eH, sC, sH, X, Y, ssC, ssH, rfl, hk', rfl, rfl, hw', oC, oH, pC, pH⟩
    refine VIf_dec (fun hi => ?_) (fun hi => gi ⟨eC, eH, sC, sH, X, Y, ssC, ssH, rfl, hw', oC, oH, ?_, ?_⟩)
    rotate_left
    · rwa [List.take_of_length_le (by omega)] at pC
    · rwa [List.take_of_length_le (by omega)] at pH
    have hkc : k < b.claim.length := by omega
    have hkh : k < b.has.length := by omega
    have lC := oC.sl_len
    have lH := oH.sl_len
    rw [List.length_map] at lC lH
    have pl := pC.l2
    have pl2 := pH.l2
    rw [List.length_take] at pl pl2
    have eclaim : b.claim[k]? = some ((b.claim[k]?).getD []) := by rw [List.getElem?_eq_getElem hkc]; rfl
    have ehas : b.has[k]? = some ((b.has[k]?).getD []) := by rw [List.getElem?_eq_getElem hkh]; rfl
    obtain ⟨cn1, cn2⟩ := ho.cn k hkc
    refine ⟨sC, bkE_1 (r := r9) (sf := s8) (sh := sH) (by simp [L]), sc, bkE_1 hE, hup.ca (by omega) (by omega) fun xc hxc hlc => ?_⟩
    rw [Int.toNat_natCast] at hxc hlc
    refine SemCall.wfp (clone_c hxc (by omega) (fun s26 e26 o26 w26 => ⟨⟨[e26], List.Perm.refl _⟩, s26, rfl, ?_⟩))
    refine app_rowW grows_rows (vs := [svV s26]) rfl ⟨rfl, trivial⟩ (own ++ bkE r1 sf sc sh :: E3 :: ef :: [bkE r9 s8 sC sH]) eC (eH :: (X ++ Y) ++ [e26]) (by simp [L]) oC w26 (by omega) (fun sC2 eC2 oC2 lC2 wC2 => ?_)
    refine wro (own ++ bkE r1 sf sc sh :: E3 :: [ef]) (bkE r9 s8 sC sH) (eC2 :: eH :: (X ++ Y) ++ [e26]) ⟨rfl, trivial⟩ (by simp) rfl (by simp [bkE]) ?_
    have hE92 : (⟨(bkE r9 s8 sC sH).aid, spl (bkE r9 s8 sC sH).cells 1 [.slice sC2.a sC2.len sC2.cap], (bkE r9 s8 sC sH).cap⟩ : Ent) = bkE r9 s8 sC2 sH := rfl
    rw [hE92]
    have wD : Wf ⟨own ++ bkE r1 sf sc sh :: E3 :: [ef] ++ bkE r9 s8 sC2 sH :: (eC2 :: eH :: (X ++ Y) ++ [e26]), ro⟩ := wC2.ids (by simp [bkE])
    refine ⟨sH, bkE_2 (r := r9) (sf := s8) (sc := sC2) (by simp), sh, bkE_2 (r := r1) (sf := sf) (sc := sc) (by simp), ?_⟩
    have hup2 : BkRd ⟨own ++ bkE r1 sf sc sh :: E3 :: [ef] ++ bkE r9 s8 sC2 sH :: (eC2 :: eH :: (X ++ Y) ++ [e26]), ro⟩ sf sc sh b := hb.mono (fun e he => by simp [he]) (fun _ _ h => h)
    refine hup2.ha (by omega) (by omega) fun xh hxh hlh => ?_
    rw [Int.toNat_natCast] at hxh hlh
    refine SemCall.wfp (clone_c hxh (by omega) (fun s38 e38 o38 w38 => ⟨⟨[e38], List.Perm.refl _⟩, s38, rfl, ?_⟩))
    refine app_rowW grows_rows (vs := [svV s38]) rfl ⟨rfl, trivial⟩ (own ++ bkE r1 sf sc sh :: E3 :: ef :: bkE r9 s8 sC2 sH :: [eC2]) eH ((X ++ Y) ++ [e26] ++ [e38]) (by simp) oH w38 (by omega) (fun sH2 eH2 oH2 lH2 wH2 => ?_)
    refine wro (own ++ bkE r1 sf sc sh :: E3 :: [ef]) (bkE r9 s8 sC2 sH) (eC2 :: eH2 :: (X ++ Y) ++ [e26] ++ [e38]) ⟨rfl, trivial⟩ (by simp) rfl (by simp [bkE]) ?_
    have hE93 : (⟨(bkE r9 s8 sC2 sH).aid, spl (bkE r9 s8 sC2 sH).cells 2 [.slice sH2.a sH2.len sH2.cap], (bkE r9 s8 sC2 sH).cap⟩ : Ent) = bkE r9 s8 sC2 sH2 := rfl
    rw [hE93]
    have wE : Wf ⟨own ++ bkE r1 sf sc sh :: E3 :: [ef] ++ bkE r9 s8 sC2 sH2 :: (eC2 :: eH2 :: (X ++ Y) ++ [e26] ++ [e38]), ro⟩ := wH2.ids (by simp [bkE])
    have hperm : (L ef sC2 sH2 eC2 eH2 (X ++ [e26]) (Y ++ [e38])).Perm (own ++ bkE r1 sf sc sh :: E3 :: [ef] ++ bkE r9 s8 sC2 sH2 :: (eC2 :: eH2 :: (X ++ Y) ++ [e26] ++ [e38])) := by
      simp only [L, List.append_assoc, List.cons_append, List.nil_append, List.singleton_append]
      refine List.Perm.append_left _ (.cons _ (.cons _ (.cons _ (.cons _ (.cons _ (.cons _ ?_))))))
      refine List.Perm.append_left _ ?_
      exact List.perm_middle.symm
    refine ⟨⟨by omega, by omega⟩, b.claim.length - (k + 1), by omega, ⟨L ef sC2 sH2 eC2 eH2 (X ++ [e26]) (Y ++ [e38]), ro⟩, Gh.perm hperm, k + 1, eC2, eH2, sC2, sH2, X ++ [e26], Y ++ [e38], ssC ++ [s26], ssH ++ [s38], by omega, by omega, rfl, rfl, wE.perm hperm, by simpa using oC2, by simpa using oH2, ?_, ?_⟩
    · rw [List.take_add_one, eclaim]; exact pC.app o26
    · rw [List.take_add_one, ehas]; exact pH.app o38
  rintro _ _ ⟨eC, eH, sC, sH, X, Y, ssC, ssH, rfl, hw2, oC, oH, pC, pH⟩
  have hm9 : bkE r9 s8 sC sH ∈ L ef sC sH eC eH X Y := by simp [L]
  refine ⟨s8, bkE_0 hm9, sC, bkE_1 hm9, sH, bkE_2 hm9, rfl, rfl, ?_⟩
  refine wro (own ++ [bkE r1 sf sc sh]) E3 (ef :: bkE r9 s8 sC sH :: eC :: eH :: (X ++ Y)) ⟨rfl, rfl, rfl, trivial⟩ (by simp [L]) (by rw [hE3]) (by rw [hE3]; simp) ?_
  have hE33 : (⟨E3.aid, spl E3.cells 0 [.slice s8.a s8.len s8.cap, .slice sC.a sC.len sC.cap, .slice sH.a sH.len sH.cap], E3.cap⟩ : Ent) = bkE r3 s8 sC sH := by rw [hE3]; rfl
  rw [hE33]
  refine ⟨s8, bkE_0 (r := r3) (sc := sC) (sh := sH) (by simp), sC, bkE_1 (r := r3) (sf := s8) (sh := sH) (by simp), sH, bkE_2 (r := r3) (sf := s8) (sc := sC) (by simp), ?_⟩
  have hwl2 : Wf ⟨own ++ (ef :: eC :: eH :: (X ++ Y)), ro⟩ := hw2.sub (by
    refine List.Sublist.append_left ?_ _
    refine .cons _ (.cons _ (.cons_cons _ (.cons _ (List.Sublist.refl _)))))
  refine ⟨⟨own ++ (ef :: eC :: eH :: (X ++ Y)), ro⟩, Gh.drop ?_, hk ef eC eH s8 sC sH X Y ssC ssH hwl2 of oC oH pC pH⟩
  rw [List.append_assoc]
  refine List.Sublist.append_left ?_ _
  exact .cons _ (.cons _ (.cons_cons _ (.cons _ (List.Sublist.refl _))))
/-- a copy that nobody writes -/
theorem fresh_ro {b : Bk} {sf sc sh : SV} {own : List Ent} {ro : Addr → Option Value} {post : Value → H → Prop} (hb : BkRd ⟨own, ro⟩ sf sc sh b) (ho : BSh b)
    (hk : ∀ (sf' sc' sh' : SV) ro', (∀ a v, ro a = some v → ro' a = some v) → BkRd ⟨[], ro'⟩ sf' sc' sh' b → VRet ⟨own, ro'⟩ (bkV sf' sc' sh') post) :
    SemCall Tryz.prog 37 (List.toArray [bkV sf sc sh]) ⟨own, ro⟩ fun v h => VRet h v post := by
  refine fresh_c hb ho (fun ef eC eH sF sC sH X Y ssC ssH hw oF oC oH pC pH => ?_)
  obtain ⟨ro', g, m, rd⟩ := bk_frz hw oF oC oH pC pH
  obtain ⟨h2, g2, hp⟩ := hk sF sC sH ro' m rd
  exact ⟨h2, g.trans g2, hp⟩

end Go.Proofs.YtnppmcgmmdcpiaaGreatDoor
namespace Go.Proofs.YtnppmcgmmdcpiaaGreatDoor
open Go.Eng
set_option maxRecDepth 20000
/-! ### book.New, walked by the kit: its block's type is known -/
theorem eno_ne {E : TypeId} {k : Int} (h : k ≠ 0) : errV (eno E k) = .iface E (.int .i64 k) := by unfold eno; rw [if_neg h]; rfl
theorem holds_sh {w : World} {own : List Ent} {ro : Addr → Option Value} {r T n : Nat} (hw : Holds w ⟨own, ro⟩) (hs : w.shape? r = some (T, n)) : Holds w ⟨own ++ [shE r T n], ro⟩ ∧ Fr w w ⟨own, ro⟩ ⟨own ++ [shE r T n], ro⟩ := by
  refine ⟨⟨?_, ?_, hw.ro, ?_⟩, rfl, rfl, rfl, Nat.le_refl _, fun _ _ => rfl, fun _ _ _ => rfl, ?_, fun _ _ h => h, fun _ _ h => .inl h⟩
  · have e : (own ++ [shE r T n]).filterMap Ent.id = own.filterMap Ent.id := by
      rw [List.filterMap_append]
      show own.filterMap Ent.id ++ [] = _
      rw [List.append_nil]
    show ((own ++ [shE r T n]).filterMap Ent.id).Nodup
    rw [e]
    exact hw.nd
  · intro e he
    simp only [List.mem_append, List.mem_singleton] at he
    rcases he with he | rfl
    · exact hw.ok e he
    · refine ⟨fun r hr => (by cases hr), fun a bs hf => (by cases hf), fun a hf => ?_⟩
      cases hf
      exact hs
  · intro a v hv e he
    simp only [List.mem_append, List.mem_singleton] at he
    rcases he with he | rfl
    · exact hw.ap a v hv e he
    · exact fun h => nomatch h
  · intro e he k hk
    simp only [List.mem_append, List.mem_singleton] at he
    rcases he with he | rfl
    · exact .inl ⟨e, he, hk⟩
    · cases hk
open Go.RowKit in
set_option maxRecDepth 100000 in
set_option maxHeartbeats 2000000 in
theorem new_c {b : Bk} {sf sc sh : SV} {own : List Ent} {ro : Addr → Option Value} {post : Value → H → Prop} (hb : BkRd ⟨own, ro⟩ sf sc sh b)
    (h0 : bcheck b ≠ 0 → post (.tuple #[.pointer none, errV (eno 57 (bcheck b))]) ⟨own, ro⟩)
    (h1 : BOk b → brow b = none → post (.tuple #[.pointer none, errV (eno 57 7)]) ⟨own, ro⟩)
    (h2 : BOk b → brow b ≠ none → ∀ s ro', (∀ a v, ro a = some v → ro' a = some v) → BOO s ⟨b, [], 0⟩ ro' → post (.tuple #[.pointer (some ⟨s.r, 0, none⟩), .nilIface]) ⟨own ++ boL s, ro'⟩) :
    SemCall Tryz.prog 24 (List.toArray [bkV sf sc sh]) ⟨own, ro⟩ post := by
  intro w hw
  obtain ⟨hw1, hf1⟩ := new_holds hw [.slice sf.a sf.len sf.cap, .slice sc.a sc.len sc.cap, .slice sh.a sh.len sh.cap] #[.slice sf.a sf.len sf.cap, .slice sc.a sc.len sc.cap, .slice sh.a sh.len sh.cap] 25 (bkE w.heap.size sf sc sh) rfl rfl rfl (List.prefix_refl _)
  have S22 := bank_safe_c (b := b) (sf := sf) (sc := sc) (sh := sh) (own := own ++ [bkE w.heap.size sf sc sh]) (ro := ro)
    (post := fun v h => (bcheck b ≠ 0 ∧ v = .tuple #[.bool false, .slice none 0 0, .iface 57 (.int .i64 (bcheck b))] ∧ h = ⟨own ++ [bkE w.heap.size sf sc sh], ro⟩) ∨ (BOk b ∧ brow b = none ∧ v = .tuple #[.bool false, .slice none 0 0, .nilIface] ∧ h = ⟨own ++ [bkE w.heap.size sf sc sh], ro⟩) ∨
      (BOk b ∧ brow b ≠ none ∧ ∃ s' e', v = .tuple #[.bool true, .slice s'.a s'.len s'.cap, .nilIface] ∧ h = (⟨own ++ [bkE w.heap.size sf sc sh] ++ [e'], ro⟩ : H)))
    (hb.mono (fun e he => by simp [he]) (fun _ _ h => h)) (fun h => .inl ⟨h, by rw [eno_ne h], rfl⟩) (fun ho hr => .inr (.inl ⟨ho, hr, rfl, rfl⟩)) (fun r s' e' ho hr _ => .inr (.inr ⟨ho, by rw [hr]; simp, s', e', rfl, rfl⟩)) _ hw1
  have q0 := rd_sound hw1 (bkE_0 (r := w.heap.size) (sf := sf) (sc := sc) (sh := sh) (by simp))
  have q1 := rd_sound hw1 (bkE_1 (r := w.heap.size) (sf := sf) (sc := sc) (sh := sh) (by simp))
  have q2 := rd_sound hw1 (bkE_2 (r := w.heap.size) (sf := sf) (sc := sc) (sh := sh) (by simp))
  have dropH : ∀ {w' : World} {X : List Ent}, Holds w' ⟨own ++ X, ro⟩ → Fr w w' ⟨own, ro⟩ ⟨own ++ X, ro⟩ → Holds w' ⟨own, ro⟩ ∧ Fr w w' ⟨own, ro⟩ ⟨own, ro⟩ := by
    intro w' X a c
    have g : Gh ⟨own ++ X, ro⟩ ⟨own, ro⟩ := Gh.drop (List.sublist_append_left _ _)
    exact ⟨g.holds _ a, c.trans (g.fr _)⟩
  unfold bkV
  go_enter Tryz.func24, Tryz.ntmps24
  go_wp2_with (go_at_call 48; refine S22.mono ?_; rintro e w2 ⟨v, h', rfl, hh2, hf2, hp⟩; refine Hid.out ?_)
  refine Lib.hid ?_
  rcases hp with ⟨hc, rfl, rfl⟩ | ⟨ho, hr, rfl, rfl⟩ | ⟨ho, hr, s', e', rfl, rfl⟩
  · go_wp2
    go_ret2
    obtain ⟨k1, k2⟩ := dropH hh2 (hf1.trans hf2)
    exact ⟨_, _, rfl, k1, k2, by rw [← eno_ne hc]; exact h0 hc⟩
  · go_wp2
    go_ret2
    obtain ⟨k1, k2⟩ := dropH hh2 (hf1.trans hf2)
    exact ⟨_, _, rfl, k1, k2, h1 ho hr⟩
  · have hh2' := hh2
    have p0 := rd_sound hh2 (bkE_0 (r := w.heap.size) (sf := sf) (sc := sc) (sh := sh) (by simp))
    have p1 := rd_sound hh2 (bkE_1 (r := w.heap.size) (sf := sf) (sc := sc) (sh := sh) (by simp))
    have p2 := rd_sound hh2 (bkE_2 (r := w.heap.size) (sf := sf) (sc := sc) (sh := sh) (by simp))
    have S17 := fresh_ro (b := b) (sf := sf) (sc := sc) (sh := sh) (own := own ++ [bkE w.heap.size sf sc sh] ++ [e']) (ro := ro)
      (post := fun v h => ∃ sf' sc' sh' ro', (∀ a v, ro a = some v → ro' a = some v) ∧ BkRd ⟨[], ro'⟩ sf' sc' sh' b ∧ v = .agg #[.slice sf'.a sf'.len sf'.cap, .slice sc'.a sc'.len sc'.cap, .slice sh'.a sh'.len sh'.cap] ∧ h = (⟨own, ro'⟩ : H))
      (hb.mono (fun e he => by simp [he]) (fun _ _ h => h)) ho.bsh (fun sf' sc' sh' ro' m rd => ⟨⟨own, ro'⟩, Gh.drop (by simp), sf', sc', sh', ro', m, rd, rfl, rfl⟩) _ hh2
    go_wp2_with (go_at_call 37; refine S17.mono ?_; rintro e w3 ⟨v, h', rfl, hh3, hf3, hp⟩; refine Hid.out ?_)
    refine Lib.hid ?_
    obtain ⟨h3, g3, sf', sc', sh', ro', m, rd, rfl, rfl⟩ := hp
    go_wp2
    go_ret2
    have hhA := g3.holds _ hh3
    have frA := hf1.trans (hf2.trans (hf3.trans (g3.fr w3)))
    obtain ⟨n1, n2⟩ := new_holds hhA (boE ⟨w3.heap.size, sf', sc', sh', false, ⟨none, 0, 0⟩, 0, ⟨none, [], 0⟩, []⟩).cells #[.slice sf'.a sf'.len sf'.cap, .slice sc'.a sc'.len sc'.cap, .slice sh'.a sh'.len sh'.cap, .pointer none, .slice none 0 0, .int .i64 0] 56 (boE ⟨w3.heap.size, sf', sc', sh', false, ⟨none, 0, 0⟩, 0, ⟨none, [], 0⟩, []⟩) rfl rfl rfl (List.prefix_refl _)
    obtain ⟨n3, n4⟩ := holds_sh (r := w3.heap.size) (T := 56) (n := 6) n1 (by
      have := heap_alloc_new w3 (.cells #[.slice sf'.a sf'.len sf'.cap, .slice sc'.a sc'.len sc'.cap, .slice sh'.a sh'.len sh'.cap, .pointer none, .slice none 0 0, .int .i64 0] 56)
      simp only [World.shape?, this]
      rfl)
    have g5 := Gh.phantom (own ++ [boE ⟨w3.heap.size, sf', sc', sh', false, ⟨none, 0, 0⟩, 0, ⟨none, [], 0⟩, []⟩] ++ [shE w3.heap.size 56 6]) [] ro' 0
    simp only [List.append_nil, List.append_assoc, List.cons_append, List.nil_append] at g5 n3 n4
    refine ⟨_, ⟨own ++ boL ⟨w3.heap.size, sf', sc', sh', false, ⟨none, 0, 0⟩, 0, ⟨none, [], 0⟩, []⟩, ro'⟩, rfl, g5.holds _ n3, (frA.trans n2).trans (n4.trans (g5.fr _)), ?_⟩
    exact h2 ho hr ⟨w3.heap.size, sf', sc', sh', false, ⟨none, 0, 0⟩, 0, ⟨none, [], 0⟩, []⟩ ro' m ⟨rd, ho.bsh, BufE.nil, rfl, rfl, Nat.zero_le _, by simp⟩
end Go.Proofs.YtnppmcgmmdcpiaaGreatDoor
namespace Go.Proofs.YtnppmcgmmdcpiaaGreatDoor
open Go.Eng
set_option maxRecDepth 20000
/-! ### the document's book -/
def dE (r : Nat) (sf sc sh : SV) (l : List UInt8) (n : Int) : Ent := ⟨some r, [.slice sf.a sf.len sf.cap, .slice sc.a sc.len sc.cap, .slice sh.a sh.len sh.cap, .string (bs l), .int .i64 n], 5⟩
def dV (sf sc sh : SV) (l : List UInt8) (n : Int) : Value := .agg (List.toArray [.slice sf.a sf.len sf.cap, .slice sc.a sc.len sc.cap, .slice sh.a sh.len sh.cap, .string (bs l), .int .i64 n])
theorem dE_rd {r : Nat} {sf sc sh : SV} {l : List UInt8} {n : Int} {own : List Ent} {ro : Addr → Option Value} (h : dE r sf sc sh l n ∈ own) (i : Nat) {v : Value} (hv : (dE r sf sc sh l n).cells[i]? = some v) : H.rd ⟨own, ro⟩ (Addr.mk r i none) v := rdo _ h rfl hv
theorem OwnExt.rfl' (h : H) : OwnExt h h := ⟨[], by simp⟩
theorem bs_nil : ByteArray.empty = bs [] := rfl
theorem bput_err {x : Bo} {back : Bool} {t : Int} {want : List Int} (h : bcode x back t want ≠ 0) : bput x back t want = x := by unfold bput; rw [if_pos h]
theorem bput_ok {x : Bo} {back : Bool} {t : Int} {want : List Int} (h : bcode x back t want = 0) : bput x back t want = ⟨bmv x.b t.toNat want (if back = true then -1 else 1), x.l ++ lineF (lineB (if back = true then 98 else 97) t want), x.n + 1⟩ := by unfold bput; rw [if_neg (by rw [h]; exact not_not_intro rfl)]

set_option maxHeartbeats 1000000 in
theorem dput_c {x : Bo} {sf sc sh sw : SV} (back : Bool) {t : Int} {want : List Int} {own : List Ent} {ro : Addr → Option Value} {post : Value → H → Prop} (hx : BkRd ⟨[], ro⟩ sf sc sh x.b) (hn60 : x.n ≤ 60) (hll : x.l.length ≤ 112 * x.n) (hw : RdSl ⟨[], ro⟩ sw (ints want))
    (hk : ∀ sf' sc' sh' ro', (∀ a v, ro a = some v → ro' a = some v) → BkRd ⟨[], ro'⟩ sf' sc' sh' (bput x back t want).b → post (.tuple (List.toArray [dV sf' sc' sh' (bput x back t want).l ((bput x back t want).n : Int), .int .i64 (bcode x back t want)])) ⟨own, ro'⟩) :
    SemCall Tryz.prog 62 (List.toArray [dV sf sc sh x.l (x.n : Int), .bool back, .int .i64 t, .slice sw.a sw.len sw.cap]) ⟨own, ro⟩ post := by
  refine f62_call sf sc sh (bs x.l) (x.n : Int) back t sw _ post ?_
  intro r1 _ r3 _
  simp only [add_mk', Nat.zero_add, Nat.add_zero]
  rw [show (⟨some r1, [Value.slice sf.a sf.len sf.cap, .slice sc.a sc.len sc.cap, .slice sh.a sh.len sh.cap, .string (bs x.l), .int .i64 (x.n : Int)], List.length [Value.slice sf.a sf.len sf.cap, .slice sc.a sc.len sc.cap, .slice sh.a sh.len sh.cap, .string (bs x.l), .int .i64 (x.n : Int)]⟩ : Ent) = dE r1 sf sc sh x.l x.n from rfl,
    show (⟨some r3, [Value.slice none 0 0, .slice none 0 0, .slice none 0 0, .string ByteArray.empty, .int .i64 0], List.length [Value.slice none 0 0, .slice none 0 0, .slice none 0 0, .string ByteArray.empty, .int .i64 0]⟩ : Ent) = dE r3 nilV nilV nilV [] 0 from rfl]
  have hm1 : ∀ {ro2 X}, dE r1 sf sc sh x.l x.n ∈ (⟨own ++ [dE r1 sf sc sh x.l x.n] ++ [dE r3 nilV nilV nilV [] 0] ++ X, ro2⟩ : H).own := fun {ro2 X} => by simp
  have hm1' : dE r1 sf sc sh x.l x.n ∈ own ++ [dE r1 sf sc sh x.l x.n] ++ [dE r3 nilV nilV nilV [] 0] := by simp
  -- what is handed back as it was
  have same : ∀ (X : List Ent) (ro2 : Addr → Option Value) (e : Int) (K : H → Prop), (K ⟨own ++ [dE r1 sf sc sh x.l x.n] ++ dE r3 sf sc sh x.l x.n :: X, ro2⟩) →
      H.wr ⟨own ++ [dE r1 sf sc sh x.l x.n] ++ [dE r3 nilV nilV nilV [] 0] ++ X, ro2⟩ (Addr.mk r3 0 none) [.slice sf.a sf.len sf.cap, .slice sc.a sc.len sc.cap, .slice sh.a sh.len sh.cap, .string (bs x.l), .int .i64 (x.n : Int)] K := by
    intro X ro2 e K hK
    refine wro (own ++ [dE r1 sf sc sh x.l x.n]) (dE r3 nilV nilV nilV [] 0) X ⟨rfl, rfl, rfl, rfl, rfl, trivial⟩ (by simp) rfl (by simp [dE]) ?_
    exact hK
  refine ⟨(x.n : Int), dE_rd hm1' 4 rfl, VIf_dec (fun h60 => ?_) (fun h60 => ?_)⟩
  · have e1 : bcode x back t want = 4 := by unfold bcode; rw [if_pos (by omega)]
    have hb : bput x back t want = x := bput_err (by rw [e1]; decide)
    refine ⟨sf, dE_rd hm1' 0 rfl, sc, dE_rd hm1' 1 rfl, sh, dE_rd hm1' 2 rfl, bs x.l, dE_rd hm1' 3 rfl, _, dE_rd hm1' 4 rfl, rfl, rfl, ?_⟩
    have := same [] ro 0
    rw [List.append_nil] at this
    refine this _ ?_
    have hm3 : dE r3 sf sc sh x.l x.n ∈ own ++ [dE r1 sf sc sh x.l x.n] ++ dE r3 sf sc sh x.l x.n :: [] := by simp
    refine ⟨sf, dE_rd hm3 0 rfl, sc, dE_rd hm3 1 rfl, sh, dE_rd hm3 2 rfl, bs x.l, dE_rd hm3 3 rfl, _, dE_rd hm3 4 rfl, ⟨⟨own, ro⟩, Gh.drop (by simp), ?_⟩⟩
    have := hk sf sc sh ro (fun _ _ h => h) (by rw [hb]; exact hx)
    rw [hb, e1] at this
    exact this
  have ecode : bcode x back t want = if back = true then bback x.b t want else bask x.b t want := by unfold bcode; rw [if_neg (by omega)]
  refine ⟨sf, dE_rd hm1' 0 rfl, sc, dE_rd hm1' 1 rfl, sh, dE_rd hm1' 2 rfl, ref4_lend_c back hx hw (fun hne ro' m' => ?_) (fun h0 hA sf' sc' sh' ro' m' hb' => ?_)⟩
  · rw [← ecode] at hne ⊢
    refine ⟨nilV, nilV, nilV, _, rfl, ?_⟩
    intro r26 _
    refine ⟨rfl, rfl, wro (own ++ [dE r1 sf sc sh x.l x.n] ++ [dE r3 nilV nilV nilV [] 0]) ⟨some r26, [Value.slice none 0 0, .slice none 0 0, .slice none 0 0], 3⟩ [] ⟨rfl, rfl, rfl, trivial⟩ rfl rfl (by simp) (VIf_ne (fun _ => ?_) (fun hc => absurd hc hne))⟩
    generalize (⟨some r26, spl [Value.slice none 0 0, .slice none 0 0, .slice none 0 0] 0 [.slice nilV.a nilV.len nilV.cap, .slice nilV.a nilV.len nilV.cap, .slice nilV.a nilV.len nilV.cap], 3⟩ : Ent) = e26
    have hm := hm1 (ro2 := ro') (X := [e26])
    refine ⟨sf, dE_rd hm 0 rfl, sc, dE_rd hm 1 rfl, sh, dE_rd hm 2 rfl, bs x.l, dE_rd hm 3 rfl, _, dE_rd hm 4 rfl, rfl, rfl, ?_⟩
    refine same [e26] ro' 0 _ ?_
    have hm3 : dE r3 sf sc sh x.l x.n ∈ own ++ [dE r1 sf sc sh x.l x.n] ++ dE r3 sf sc sh x.l x.n :: [e26] := by simp
    refine ⟨sf, dE_rd hm3 0 rfl, sc, dE_rd hm3 1 rfl, sh, dE_rd hm3 2 rfl, bs x.l, dE_rd hm3 3 rfl, _, dE_rd hm3 4 rfl, ⟨⟨own, ro'⟩, Gh.drop (by simp), ?_⟩⟩
    have hb := bput_err hne
    have := hk sf sc sh ro' m' (by rw [hb]; exact hx.mono (by simp) m')
    rw [hb] at this
    exact this
  rw [← ecode] at h0
  obtain ⟨hwa, hw3, ht0, ht1⟩ := want_all hA
  have hb := bput_ok h0
  refine ⟨sf', sc', sh', _, rfl, ?_⟩
  intro r26 _
  refine ⟨rfl, rfl, wro (own ++ [dE r1 sf sc sh x.l x.n] ++ [dE r3 nilV nilV nilV [] 0]) ⟨some r26, [Value.slice none 0 0, .slice none 0 0, .slice none 0 0], 3⟩ [] ⟨rfl, rfl, rfl, trivial⟩ rfl rfl (by simp) (VIf_ne (fun hc => absurd rfl hc) (fun _ => ?_))⟩
  have e26 : (⟨some r26, spl [Value.slice none 0 0, .slice none 0 0, .slice none 0 0] 0 [.slice sf'.a sf'.len sf'.cap, .slice sc'.a sc'.len sc'.cap, .slice sh'.a sh'.len sh'.cap], 3⟩ : Ent) = bkE r26 sf' sc' sh' := rfl
  dsimp only
  rw [e26]
  obtain ⟨W, hW⟩ : ∃ W : UInt8, W = if back = true then 98 else 97 := ⟨_, rfl⟩
  have hll' := lineB_len (w := W) ⟨ht0, ht1⟩ hwa hw3
  have hlf := lineF_len hll'
  have hdt := dec_len (n := t.toNat) (by omega)
  have hw2 : ∀ {X}, RdSl ⟨X, ro'⟩ sw (ints want) := fun {X} => hw.mono (by simp) m'
  have hwl := (hw2 (X := [])).len
  rw [ints_length] at hwl
  have e32 : ByteArray.mk (List.toArray [(32 : UInt8)]) = bs [32] := rfl
  generalize hH : (⟨own ++ [dE r1 sf sc sh x.l x.n] ++ [dE r3 nilV nilV nilV [] 0] ++ bkE r26 sf' sc' sh' :: [], ro'⟩ : H) = h28
  refine ⟨fun s h => s = bs [W, 32] ∧ h = h28, VIf_b (fun hbk => gi ⟨by rw [hW, if_pos hbk]; rfl, rfl⟩) (fun hbk => gi ⟨by rw [hW, if_neg (by rw [hbk]; decide)]; rfl, rfl⟩), ?_⟩
  rintro _ _ h' ⟨rfl, hh⟩
  rw [hh]
  clear hh h'
  refine digits_c ht0 (by omega) ⟨_, rfl, by rw [bs_size, bs_size]; simp only [List.length_cons, List.length_nil]; omega, ?_⟩
  rw [bs_app]
  refine ⟨fun str h' => str = bs (lineB W t want) ∧ h' = h28, ⟨fun m str i h' => h' = h28 ∧ m ≤ want.length ∧ i = ((want.length - m : Nat) : Int) ∧ str = bs (lineB W t (want.take (want.length - m))), ⟨want.length, gi ⟨rfl, Nat.le_refl _, by simp, by simp [lineB]⟩⟩, ?_⟩, ?_⟩
  · rintro m _ str i _ ⟨rfl, hmk, rfl, rfl⟩
    refine VIf_dec (fun hi => ?_) (fun hi => ?_)
    · obtain ⟨k, hk', hkl⟩ : ∃ k, want.length - m = k ∧ k < want.length := ⟨want.length - m, rfl, by omega⟩
      rw [hk']
      obtain ⟨ad, had⟩ := (hw2 (X := [])).addr (by rw [ints_length]; omega)
      have hg := List.getElem?_eq_getElem hkl
      have hlk := lineB_len (w := W) (want := want.take k) ⟨ht0, ht1⟩ (fun y hy => hwa y (List.mem_of_mem_take hy)) (by rw [List.length_take]; omega)
      have hx := hwa _ (List.getElem_mem hkl)
      have hdk := dec_len (n := want[k].toNat) (by omega)
      subst hH
      simp only [e32, bs_app, bs_size]
      refine ⟨by simp only [List.length_cons, List.length_nil]; omega, ad, had, by omega, by omega, want[k], (RdSl.rdi hw2 had (i := ((k : Nat) : Int).toNat) (by rw [Int.toNat_natCast]; exact hg)), ?_⟩
      refine digits_c hx.1 (by omega) ⟨_, rfl, by simp only [bs_size, List.length_append, List.length_cons, List.length_nil]; omega, ⟨by omega, by omega⟩, m - 1, by omega, gi ⟨rfl, by omega, by omega, ?_⟩⟩
      rw [bs_app, show want.length - (m - 1) = k + 1 by omega, bs_inj]
      rw [List.take_add_one, hg]
      simp only [lineB, List.flatMap_append, Option.toList_some, List.flatMap_cons, List.flatMap_nil, List.append_nil, List.cons_append, List.append_assoc, List.nil_append]
    · have : m = 0 := by omega
      subst this
      exact gi ⟨by simp, rfl⟩
  rintro _ _ _ ⟨rfl, rfl⟩
  subst hH
  have hsl := sumB_lt (lineB W t want)
  have hdl := dec_len (n := sumB (lineB W t want)) (by omega)
  have e10 : ByteArray.mk (List.toArray [(10 : UInt8)]) = bs [10] := rfl
  simp only [f62_J2, add_mk', Nat.zero_add, Nat.add_zero, e10, e32, bs_app, bs_size]
  have hm26 : bkE r26 sf' sc' sh' ∈ own ++ [dE r1 sf sc sh x.l x.n] ++ [dE r3 nilV nilV nilV [] 0] ++ bkE r26 sf' sc' sh' :: [] := by simp
  refine ⟨sf', bkE_0 hm26, sc', bkE_1 hm26, sh', bkE_2 hm26, rfl, rfl, ?_⟩
  refine wro own (dE r1 sf sc sh x.l x.n) ([dE r3 nilV nilV nilV [] 0] ++ bkE r26 sf' sc' sh' :: []) ⟨rfl, rfl, rfl, trivial⟩ (by simp) rfl (by simp [dE]) ?_
  rw [show (⟨(dE r1 sf sc sh x.l x.n).aid, spl (dE r1 sf sc sh x.l x.n).cells 0 [.slice sf'.a sf'.len sf'.cap, .slice sc'.a sc'.len sc'.cap, .slice sh'.a sh'.len sh'.cap], (dE r1 sf sc sh x.l x.n).cap⟩ : Ent) = dE r1 sf' sc' sh' x.l x.n from rfl]
  refine ⟨bs x.l, dE_rd (r := r1) (sf := sf') (sc := sc') (sh := sh') (l := x.l) (n := x.n) (by simp) 3 rfl, by rw [bs_size]; omega, ?_⟩
  simp only [bs_app, bs_size]
  refine ⟨by simp only [List.length_append, List.length_cons, List.length_nil]; omega, dsum_c (by omega) ⟨OwnExt.rfl' _, _, rfl, digits_c (by omega) (by omega) ⟨OwnExt.rfl' _, _, rfl, ?_⟩⟩⟩
  rw [Int.toNat_natCast]
  simp only [bs_app, bs_size]
  refine ⟨by simp only [List.length_append, List.length_cons, List.length_nil]; omega, by simp only [List.length_append, List.length_cons, List.length_nil]; omega, ?_⟩
  have e1 : x.l ++ lineB W t want ++ [32] ++ Lib.decDigits (sumB (lineB W t want)) ++ [10] = x.l ++ lineF (lineB W t want) := by simp [lineF]
  rw [e1]
  refine wro own (dE r1 sf' sc' sh' x.l x.n) ([dE r3 nilV nilV nilV [] 0] ++ bkE r26 sf' sc' sh' :: []) ⟨rfl, trivial⟩ rfl rfl (by simp [dE]) ?_
  rw [show (⟨(dE r1 sf' sc' sh' x.l x.n).aid, spl (dE r1 sf' sc' sh' x.l x.n).cells 3 [.string (bs (x.l ++ lineF (lineB W t want)))], (dE r1 sf' sc' sh' x.l x.n).cap⟩ : Ent) = dE r1 sf' sc' sh' (x.l ++ lineF (lineB W t want)) x.n from rfl]
  refine ⟨(x.n : Int), dE_rd (r := r1) (sf := sf') (sc := sc') (sh := sh') (l := x.l ++ lineF (lineB W t want)) (n := x.n) (by simp) 4 rfl, ⟨by omega, by omega⟩, ?_⟩
  refine wro own (dE r1 sf' sc' sh' (x.l ++ lineF (lineB W t want)) x.n) ([dE r3 nilV nilV nilV [] 0] ++ bkE r26 sf' sc' sh' :: []) ⟨rfl, trivial⟩ rfl rfl (by simp [dE]) ?_
  rw [show (⟨(dE r1 sf' sc' sh' (x.l ++ lineF (lineB W t want)) x.n).aid, spl (dE r1 sf' sc' sh' (x.l ++ lineF (lineB W t want)) x.n).cells 4 [.int .i64 ((x.n : Int) + 1)], (dE r1 sf' sc' sh' (x.l ++ lineF (lineB W t want)) x.n).cap⟩ : Ent) = dE r1 sf' sc' sh' (x.l ++ lineF (lineB W t want)) ((x.n : Int) + 1) from rfl]
  have hmz : dE r1 sf' sc' sh' (x.l ++ lineF (lineB W t want)) ((x.n : Int) + 1) ∈ own ++ dE r1 sf' sc' sh' (x.l ++ lineF (lineB W t want)) ((x.n : Int) + 1) :: ([dE r3 nilV nilV nilV [] 0] ++ bkE r26 sf' sc' sh' :: []) := by simp
  refine ⟨sf', dE_rd hmz 0 rfl, sc', dE_rd hmz 1 rfl, sh', dE_rd hmz 2 rfl, _, dE_rd hmz 3 rfl, _, dE_rd hmz 4 rfl, rfl, rfl, ?_⟩
  refine wro (own ++ [dE r1 sf' sc' sh' (x.l ++ lineF (lineB W t want)) ((x.n : Int) + 1)]) (dE r3 nilV nilV nilV [] 0) (bkE r26 sf' sc' sh' :: []) ⟨rfl, rfl, rfl, rfl, rfl, trivial⟩ (by simp) rfl (by simp [dE]) ?_
  rw [show (⟨(dE r3 nilV nilV nilV [] 0).aid, spl (dE r3 nilV nilV nilV [] 0).cells 0 [.slice sf'.a sf'.len sf'.cap, .slice sc'.a sc'.len sc'.cap, .slice sh'.a sh'.len sh'.cap, .string (bs (x.l ++ lineF (lineB W t want))), .int .i64 ((x.n : Int) + 1)], (dE r3 nilV nilV nilV [] 0).cap⟩ : Ent) = dE r3 sf' sc' sh' (x.l ++ lineF (lineB W t want)) ((x.n : Int) + 1) from rfl]
  have hmy : dE r3 sf' sc' sh' (x.l ++ lineF (lineB W t want)) ((x.n : Int) + 1) ∈ own ++ [dE r1 sf' sc' sh' (x.l ++ lineF (lineB W t want)) ((x.n : Int) + 1)] ++ dE r3 sf' sc' sh' (x.l ++ lineF (lineB W t want)) ((x.n : Int) + 1) :: (bkE r26 sf' sc' sh' :: []) := by simp
  refine ⟨sf', dE_rd hmy 0 rfl, sc', dE_rd hmy 1 rfl, sh', dE_rd hmy 2 rfl, _, dE_rd hmy 3 rfl, _, dE_rd hmy 4 rfl, ⟨⟨own, ro'⟩, Gh.drop (by simp), ?_⟩⟩
  have := hk sf' sc' sh' ro' m' (by rw [hb]; exact hb')
  rw [hb, h0, ← hW] at this
  exact this
end Go.Proofs.YtnppmcgmmdcpiaaGreatDoor
namespace Go.Proofs.YtnppmcgmmdcpiaaGreatDoor
open Go.Eng
set_option maxRecDepth 20000
/-! ### a book's calls; the document's New -/
theorem SemCall.vret {P : Program} {f : FuncId} {args : Array Value} {h : H} {q : Value → H → Prop} (H1 : SemCall P f args h fun v h' => VRet h' v q) : SemCall P f args h q :=
  fun w hw => (H1 w hw).mono fun _ w' ⟨v, _, a, b, c, h2, g, d⟩ => ⟨v, h2, a, g.holds _ b, c.trans (g.fr w'), d⟩
theorem text_c {s : BkS} {x : Bo} {ro0 : Addr → Option Value} (h : BOO s x ro0) {own : List Ent} {ro : Addr → Option Value} {post : Value → H → Prop} (A C : List Ent) (hown : own = A ++ (boL s ++ C))
    (hk : post (.string (bs x.l)) ⟨own, ro⟩) : SemCall Tryz.prog 13 (List.toArray [.pointer (some (Addr.mk s.r 0 none))]) ⟨own, ro⟩ post := by
  refine f13_call _ _ post ⟨_, rfl, ?_⟩
  simp only [add_mk', Nat.zero_add]
  exact str_c (by rw [h.l]; exact h.bf) A C hown ⟨_, rfl, ret (by rw [h.l]; exact hk)⟩
theorem bank_own {s : BkS} {x : Bo} {own : List Ent} {ro : Addr → Option Value} {post : Value → H → Prop} (h : BOO s x ro) (A C : List Ent) (hown : own = A ++ (boL s ++ C))
    (hk : ∀ (ef eC eH : Ent) (sF sC sH : SV) (X Y : List Ent) (ssC ssH : List SV), Wf ⟨own ++ (ef :: eC :: eH :: (X ++ Y)), ro⟩ → OwnsSl 1 sF ef (ints x.b.free) → OwnsSl 1 sC eC (ssC.map svV) → OwnsSl 1 sH eH (ssH.map svV) → OwPar X ssC x.b.claim → OwPar Y ssH x.b.has → post (bkV sF sC sH) ⟨own ++ (ef :: eC :: eH :: (X ++ Y)), ro⟩) :
    SemCall Tryz.prog 18 (List.toArray [.pointer (some (Addr.mk s.r 0 none))]) ⟨own, ro⟩ post := by
  refine f18_call _ _ post ?_
  intro r1 _
  simp only [add_mk', Nat.zero_add, Nat.add_zero]
  have hm : boE s ∈ own ++ [⟨some r1, [Value.slice none 0 0, .slice none 0 0, .slice none 0 0], List.length [Value.slice none 0 0, .slice none 0 0, .slice none 0 0]⟩] := by rw [hown]; simp [boL]
  refine ⟨_, rfl, s.sf, bo_rd hm 0 rfl, s.sc, bo_rd hm 1 rfl, s.sh, bo_rd hm 2 rfl, fresh_c (h.rd.mono (by simp) (fun _ _ h => h)) h.sh (fun ef eC eH sF sC sH X Y ssC ssH hw oF oC oH pC pH => ⟨sF, sC, sH, rfl, rfl, rfl, ?_⟩)⟩
  refine wro own ⟨some r1, [Value.slice none 0 0, .slice none 0 0, .slice none 0 0], 3⟩ (ef :: eC :: eH :: (X ++ Y)) ⟨rfl, rfl, rfl, trivial⟩ (by simp) rfl (by simp) ?_
  rw [show (⟨some r1, spl [Value.slice none 0 0, .slice none 0 0, .slice none 0 0] 0 [.slice sF.a sF.len sF.cap, .slice sC.a sC.len sC.cap, .slice sH.a sH.len sH.cap], 3⟩ : Ent) = bkE r1 sF sC sH from rfl]
  have hm1 : bkE r1 sF sC sH ∈ own ++ bkE r1 sF sC sH :: (ef :: eC :: eH :: (X ++ Y)) := by simp
  have hw2 : Wf ⟨own ++ (ef :: eC :: eH :: (X ++ Y)), ro⟩ := hw.sub (by rw [List.append_assoc]; exact List.Sublist.append_left (.cons _ (List.Sublist.refl _)) _)
  exact ⟨sF, bkE_0 hm1, sC, bkE_1 hm1, sH, bkE_2 hm1, ⟨⟨own ++ (ef :: eC :: eH :: (X ++ Y)), ro⟩, Gh.drop (List.Sublist.append_left (.cons _ (List.Sublist.refl _)) _), hk ef eC eH sF sC sH X Y ssC ssH hw2 oF oC oH pC pH⟩⟩
theorem bank_ro {s : BkS} {x : Bo} {own : List Ent} {ro : Addr → Option Value} {post : Value → H → Prop} (h : BOO s x ro) (A C : List Ent) (hown : own = A ++ (boL s ++ C))
    (hk : ∀ sf' sc' sh' ro', (∀ a v, ro a = some v → ro' a = some v) → BkRd ⟨[], ro'⟩ sf' sc' sh' x.b → post (bkV sf' sc' sh') ⟨own, ro'⟩) :
    SemCall Tryz.prog 18 (List.toArray [.pointer (some (Addr.mk s.r 0 none))]) ⟨own, ro⟩ post := by
  refine SemCall.vret (bank_own h A C hown (fun ef eC eH sF sC sH X Y ssC ssH hw oF oC oH pC pH => ?_))
  obtain ⟨ro', g, m, rd⟩ := bk_frz hw oF oC oH pC pH
  exact ⟨⟨own, ro'⟩, g, hk sF sC sH ro' m rd⟩
theorem ask_c {s : BkS} {x : Bo} {t : Int} {want : List Int} {sw : SV} {own : List Ent} {ro : Addr → Option Value} {post : Value → H → Prop} {T : Nat} (A C : List Ent) (hown : own = A ++ (boL s ++ C)) (hT : shE 4 T 20 ∈ A ++ C) (hG : HasTab ro)
    (h : BOO s x ro) (hw : RdSl ⟨[], ro⟩ sw (ints want))
    (hk : ∀ s' ro', (∀ a v, ro a = some v → ro' a = some v) → BOO s' (bput x false t want) ro' → s'.r = s.r → post (errV (eno 57 (bcode x false t want))) ⟨A ++ (boL s' ++ C), ro'⟩) :
    SemCall Tryz.prog 19 (List.toArray [.pointer (some (Addr.mk s.r 0 none)), .int .i64 t, .slice sw.a sw.len sw.cap]) ⟨own, ro⟩ post :=
  f19_call _ _ _ _ post (do_ask A C hown hT hG h hw (fun s' ro' m h' hr => ⟨_, rfl, ret (hk s' ro' m h' hr)⟩))
theorem back_c {s : BkS} {x : Bo} {t : Int} {want : List Int} {sw : SV} {own : List Ent} {ro : Addr → Option Value} {post : Value → H → Prop} {T : Nat} (A C : List Ent) (hown : own = A ++ (boL s ++ C)) (hT : shE 4 T 20 ∈ A ++ C) (hG : HasTab ro)
    (h : BOO s x ro) (hw : RdSl ⟨[], ro⟩ sw (ints want))
    (hk : ∀ s' ro', (∀ a v, ro a = some v → ro' a = some v) → BOO s' (bput x true t want) ro' → s'.r = s.r → post (errV (eno 57 (bcode x true t want))) ⟨A ++ (boL s' ++ C), ro'⟩) :
    SemCall Tryz.prog 26 (List.toArray [.pointer (some (Addr.mk s.r 0 none)), .int .i64 t, .slice sw.a sw.len sw.cap]) ⟨own, ro⟩ post :=
  f26_call _ _ _ _ post (do_back A C hown hT hG h hw (fun s' ro' m h' hr => ⟨_, rfl, ret (hk s' ro' m h' hr)⟩))

theorem dnew_c {b : Bk} {sf sc sh : SV} {own : List Ent} {ro : Addr → Option Value} {post : Value → H → Prop} (hb : BkRd ⟨[], ro⟩ sf sc sh b)
    (h0 : bcheck b ≠ 0 → post (.tuple (List.toArray [dV nilV nilV nilV [] 0, .int .i64 (bcheck b)])) ⟨own, ro⟩)
    (h1 : BOk b → brow b = none → ∀ ro', (∀ a v, ro a = some v → ro' a = some v) → post (.tuple (List.toArray [dV nilV nilV nilV [] 0, .int .i64 7])) ⟨own, ro'⟩)
    (h2 : BOk b → brow b ≠ none → ∀ ro', (∀ a v, ro a = some v → ro' a = some v) → post (.tuple (List.toArray [dV sf sc sh [] 0, .int .i64 0])) ⟨own, ro'⟩) :
    SemCall Tryz.prog 32 (List.toArray [bkV sf sc sh]) ⟨own, ro⟩ post := by
  refine f32_call sf sc sh _ post ?_
  intro r1 _ r3 _
  simp only [add_mk', Nat.zero_add, Nat.add_zero]
  rw [show (⟨some r3, [Value.slice none 0 0, .slice none 0 0, .slice none 0 0, .string ByteArray.empty, .int .i64 0], List.length [Value.slice none 0 0, .slice none 0 0, .slice none 0 0, .string ByteArray.empty, .int .i64 0]⟩ : Ent) = dE r3 nilV nilV nilV [] 0 from rfl,
    show (⟨some r1, [Value.slice sf.a sf.len sf.cap, .slice sc.a sc.len sc.cap, .slice sh.a sh.len sh.cap], List.length [Value.slice sf.a sf.len sf.cap, .slice sc.a sc.len sc.cap, .slice sh.a sh.len sh.cap]⟩ : Ent) = bkE r1 sf sc sh from rfl]
  have hE : ∀ {e : Ent} {X : List Ent}, bkE r1 sf sc sh ∈ own ++ [bkE r1 sf sc sh] ++ e :: X := fun {e X} => by simp
  have w3 : ∀ (x y z : SV) (n : Int) (X : List Ent) (ro2 : Addr → Option Value) (K : H → Prop), K ⟨own ++ [bkE r1 sf sc sh] ++ dE r3 x y z [] n :: X, ro2⟩ → H.wr ⟨own ++ [bkE r1 sf sc sh] ++ dE r3 nilV nilV nilV [] 0 :: X, ro2⟩ (Addr.mk r3 0 none) [.slice x.a x.len x.cap, .slice y.a y.len y.cap, .slice z.a z.len z.cap, .string ByteArray.empty, .int .i64 n] K := by
    intro x y z n X ro2 K hK
    exact wro (own ++ [bkE r1 sf sc sh]) (dE r3 nilV nilV nilV [] 0) X ⟨rfl, rfl, rfl, rfl, rfl, trivial⟩ rfl rfl (by simp [dE]) hK
  refine ⟨sf, bkE_0 hE, sc, bkE_1 hE, sh, bkE_2 hE, ref4_bank_c (hb.mono (by simp) (fun _ _ h => h)) ⟨_, rfl, VIf_ne (fun hc => ⟨rfl, rfl, w3 nilV nilV nilV 0 [] ro _ ?_⟩) (fun hc => ?_)⟩⟩
  · have hm : dE r3 nilV nilV nilV [] 0 ∈ own ++ [bkE r1 sf sc sh] ++ dE r3 nilV nilV nilV [] 0 :: [] := by simp
    exact ⟨nilV, dE_rd hm 0 rfl, nilV, dE_rd hm 1 rfl, nilV, dE_rd hm 2 rfl, bs [], dE_rd hm 3 rfl, _, dE_rd hm 4 rfl, ⟨⟨own, ro⟩, Gh.drop (by simp), h0 hc⟩⟩
  have ho := bcheck_zero.1 hc
  refine ⟨sf, bkE_0 hE, sc, bkE_1 hE, sh, bkE_2 hE, ref4_safe_c hb ho (fun hr ro' m => ⟨⟨none, 0, 0⟩, false, rfl, VIf_nb (fun _ => ⟨rfl, rfl, w3 nilV nilV nilV 0 [] ro' _ ?_⟩) (nomatch ·)⟩) (fun r s' ro' m hr _ => ⟨s', true, rfl, VIf_nb (nomatch ·) (fun _ => ?_)⟩)⟩
  · have hm : dE r3 nilV nilV nilV [] 0 ∈ own ++ [bkE r1 sf sc sh] ++ dE r3 nilV nilV nilV [] 0 :: [] := by simp
    exact ⟨nilV, dE_rd hm 0 rfl, nilV, dE_rd hm 1 rfl, nilV, dE_rd hm 2 rfl, bs [], dE_rd hm 3 rfl, _, dE_rd hm 4 rfl, ⟨⟨own, ro'⟩, Gh.drop (by simp), h1 ho hr ro' m⟩⟩
  · refine ⟨sf, bkE_0 hE, sc, bkE_1 hE, sh, bkE_2 hE, rfl, rfl, w3 sf sc sh 0 [] ro' _ ?_⟩
    have hm : dE r3 sf sc sh [] 0 ∈ own ++ [bkE r1 sf sc sh] ++ dE r3 sf sc sh [] 0 :: [] := by simp
    exact ⟨sf, dE_rd hm 0 rfl, sc, dE_rd hm 1 rfl, sh, dE_rd hm 2 rfl, bs [], dE_rd hm 3 rfl, _, dE_rd hm 4 rfl, ⟨⟨own, ro'⟩, Gh.drop (by simp), h2 ho (by rw [hr]; simp) ro' m⟩⟩
end Go.Proofs.YtnppmcgmmdcpiaaGreatDoor
namespace Go.Proofs.YtnppmcgmmdcpiaaGreatDoor
open Go.Eng
set_option maxRecDepth 20000
/-! ### BookPlays -/
theorem OwnExt.same {own : List Ent} {ro ro' : Addr → Option Value} : OwnExt ⟨own, ro⟩ ⟨own, ro'⟩ := ⟨[], by simp⟩
theorem drop2 {h : H} {s : SV} {xs : List Value} (r : RdSl h s xs) (hn : 2 ≤ s.len) (hc : s.len ≤ s.cap) : RdSl h ⟨if s.cap = (2 : Int).toNat then s.a else Option.map (fun z => Addr.add z ((2 : Int).toNat * 1)) s.a, s.len - (2 : Int).toNat, s.cap - (2 : Int).toNat⟩ (xs.drop 2) := r.drop hn hc
end Go.Proofs.YtnppmcgmmdcpiaaGreatDoor
namespace Go.Proofs.YtnppmcgmmdcpiaaGreatDoor
open Go.Eng
set_option maxRecDepth 20000
/-! ### from what is laid -/
theorem tab_of {W : World} (h : Lib.TabIs Tryz.prog W "internal/strconv.uint64pow10" .u64 Lib.pow10Tab) : ∃ T, W.shape? 4 = some (T, 20) ∧ HasTab W.cell? := by
  have hg : Tryz.prog.globalNamed "internal/strconv.uint64pow10" = some 4 := by kernel_rfl
  have h1 := fun i hi => h.cell hg i hi
  unfold Lib.TabIs World.var? at h
  rw [hg] at h
  simp only [Option.bind_some] at h
  split at h
  · rename_i arr e fz ha
    refine ⟨e, ?_, fun i hi => ?_⟩
    · simp only [World.shape?, ha]
      rw [Option.some.inj h]
      simp [Lib.pow10Tab]
    · have := h1 i (by rw [Lib.pow10Tab_length]; exact hi)
      rw [Lib.pow10Tab_at i hi] at this
      exact this
  · cases h
theorem law_sh {P : Program} {f : FuncId} {args : Array Value} {W : World} {T : Nat} (h : SemCall P f args ⟨[shE 4 T 20], W.cell?⟩ (fun v _ => v = .bool true)) (hs : W.shape? 4 = some (T, 20)) : Calls P f args W fun e W' => e = .returned (.bool true) ∧ Go.RowKit.Below W.heap.size W W' := by
  obtain ⟨hh, _⟩ := holds_sh (own := []) (holds_start W) hs
  refine (h W hh).mono ?_
  rintro e W' ⟨v, h', rfl, _, hf, rfl⟩
  refine ⟨rfl, hf.os, hf.tape, hf.output, hf.size, fun r hr => hf.keep r hr (fun e he => ?_)⟩
  simp only [List.nil_append, List.mem_singleton] at he
  subst he
  exact fun h => nomatch h
open Go.ChangeShapes Go.WideShapes Go.ChangeAt Go.RowKit Go.WideElems Go.Deep in
theorem in_int_rowsC {K : Type} {enc : TypeId × Value → K} {P : Program} {W : World} {t e q : TypeId} {v : Value} {d : DataW K} {ps : List MemPlace} (ht : P.underlying t = some (.slice e)) (he : P.underlying e = some (.slice q)) (hq : P.underlying q = some (.int .i64)) (ce : P.cellsOf e = 1) (cq : P.cellsOf q = 1) (hv : Value.okWide P W .any 0 t v) (h : DataW.Trod enc P W 0 (fun _ => true) true t v d ps) :
    ∃ (s : SV) (rows : List (SV × List Int)), v = .slice s.a s.len s.cap ∧ RdRowsOf ⟨[], W.cell?⟩ s rows ∧ (∀ r ∈ rows, ∀ x ∈ r.2, In64 x) ∧ s.len ≤ maxLen ∧ (∀ r ∈ rows, r.1.len ≤ maxLen) ∧ ∀ r ∈ rows, r.1.len ≤ r.1.cap := by
  obtain ⟨a0, len, cap, rfl⟩ := okWide_slice ht hv
  obtain ⟨fuel, hf⟩ := h
  have hcs0 : (Value.slice a0 len cap).cells.toList = [.slice a0 len cap] := rfl
  rcases open_int_rows ht he hq ce cq hf with ⟨hcs, hx⟩ | ⟨a, len', cap', A, L, C, Z, hcs, _, hl, hm, hx, hr⟩
  · rw [hcs0] at hcs
    injection hcs with h1 _
    injection h1 with h1 h2 h3
    subst h1; subst h2; subst h3
    exact ⟨⟨none, 0, 0⟩, [], rfl, ⟨⟨rfl, fun _ => rfl, fun b hb => nomatch hb⟩, by simp⟩, by simp, Nat.zero_le _, by simp, by simp⟩
  · rw [hcs0] at hcs
    injection hcs with h1 _
    injection h1 with h1 h2 h3
    subst h1; subst h2; subst h3
    refine ⟨⟨some a, len, cap⟩, (List.range len).map fun r => (⟨A r, L r, C r⟩, (Z r).take (L r)), rfl, ⟨⟨by simp, (fun h => nomatch h), ?_⟩, ?_⟩, ?_, Nat.le_trans hl hm, ?_, ?_⟩
    · intro b hb i v hv
      cases hb
      simp only [List.map_map, List.getElem?_map, Option.map_eq_some_iff, Function.comp] at hv
      obtain ⟨r, hr1, rfl⟩ := hv
      obtain ⟨hi, rfl⟩ := List.getElem?_eq_some_iff.1 hr1
      simp only [List.length_range] at hi
      simp only [List.getElem_range]
      exact rd_cell (hr i (by omega)).1
    · intro r hr1
      simp only [List.mem_map, List.mem_range] at hr1
      obtain ⟨i, hi, rfl⟩ := hr1
      obtain ⟨_, g2, g3, g4, g5, g6, g7⟩ := hr i (by omega)
      refine ⟨?_, fun hn => ?_, ?_⟩
      · simp [g4, g2]
      · have := g6 hn
        show L i = 0
        omega
      · intro b hb j v hv
        rw [ints_get, Option.map_eq_some_iff] at hv
        obtain ⟨n, hn, rfl⟩ := hv
        have hj : j < L i := by have := (List.getElem?_eq_some_iff.1 hn).1; simp at this; omega
        rw [List.getElem?_take_of_lt hj] at hn
        have := (g7 b hb).2 j (by omega)
        rw [List.getD_eq_getElem?_getD, hn] at this
        exact rd_cell this
    · intro r hr1 x hx
      simp only [List.mem_map, List.mem_range] at hr1
      obtain ⟨i, hi, rfl⟩ := hr1
      obtain ⟨_, g2, g3, g4, g5, g6, g7⟩ := hr i (by omega)
      have hw := g5 x (List.mem_of_mem_take hx)
      simp only [Lit.wf, Bool.and_eq_true, decide_eq_true_eq] at hw
      have e1 : IntKind.i64.min = -9223372036854775808 := by decide
      have e2 : IntKind.i64.max = 9223372036854775807 := by decide
      exact ⟨by omega, by omega⟩
    · intro r hr1
      simp only [List.mem_map, List.mem_range] at hr1
      obtain ⟨i, hi, rfl⟩ := hr1
      obtain ⟨_, g2, g3, g4, g5, g6, g7⟩ := hr i (by omega)
      exact Nat.le_trans g2 g3
    · intro r hr1
      simp only [List.mem_map, List.mem_range] at hr1
      obtain ⟨i, hi, rfl⟩ := hr1
      obtain ⟨_, g2, g3, g4, g5, g6, g7⟩ := hr i (by omega)
      exact g2
end Go.Proofs.YtnppmcgmmdcpiaaGreatDoor
namespace Go.Proofs.YtnppmcgmmdcpiaaGreatDoor
open Go.Eng
set_option maxRecDepth 20000
/-! ### a book in which something was asked and given back -/
noncomputable def bstep (x : Bo) (l : List Int) : Bo :=
  match l with
  | a :: t :: want => bput x (a != 0) t want
  | _ => x
noncomputable def btold (b : Bk) (rows : List (List Int)) : Bo := (rows.take 70).foldl bstep ⟨b, [], 0⟩
def tdI (own : List Ent) (ss : SV) (rows : List (List Int)) (b : Bk) (r0 : Nat) (ro : Addr → Option Value) (m : Nat) (i : Int) (h : H) : Prop :=
  ∃ (k : Nat) (s : BkS) (ro2 : Addr → Option Value), i = (k : Int) ∧ k ≤ ss.len ∧ k ≤ 70 ∧ m = ss.len - k ∧ (∀ a v, ro a = some v → ro2 a = some v) ∧ BOO s ((rows.take k).foldl bstep ⟨b, [], 0⟩) ro2 ∧ s.r = r0 ∧ h = ⟨own ++ boL s, ro2⟩
def tdF (xs : List Int) : Bool :=
  match xs with
  | a :: _ :: _ => a != 0
  | _ => false
theorem fold_next {rows : List (List Int)} {k : Nat} {xs : List Int} {x0 : Bo} (hg : rows[k]? = some xs) : (rows.take (k + 1)).foldl bstep x0 = bstep ((rows.take k).foldl bstep x0) xs := by
  rw [List.take_add_one, hg, List.foldl_append]
  rfl

set_option maxHeartbeats 800000 in
theorem told_J2 {own : List Ent} {ss t : SV} {rows : List (List Int)} {b : Bk} {r0 T : Nat} {ro ro2 : Addr → Option Value} {xs : List Int} {k : Nat} {s : BkS} (hT : shE 4 T 20 ∈ own) (hTab : HasTab ro) (hkl : k < ss.len) (hk70 : k < 70) (hg : rows[k]? = some xs)
    (htr : RdSl ⟨[], ro⟩ t (ints xs)) (htc : t.len ≤ t.cap) (m2 : ∀ a v, ro a = some v → ro2 a = some v) (hB : BOO s ((rows.take k).foldl bstep ⟨b, [], 0⟩) ro2) (hr : s.r = r0) :
    f12_J2 (some (Addr.mk r0 0 none)) (tdI own ss rows b r0 ro) (ss.len - k) (k : Int) t (tdF xs) ⟨own ++ boL s, ro2⟩ := by
  have htl := htr.len
  rw [ints_length] at htl
  have hTm : shE 4 T 20 ∈ own ++ [] := by simpa using hT
  have hnext := fold_next (x0 := ⟨b, [], 0⟩) hg
  have fin : ∀ (s' : BkS) (x' : Bo) ro4, x' = bstep ((rows.take k).foldl bstep ⟨b, [], 0⟩) xs → (∀ a v, ro2 a = some v → ro4 a = some v) → BOO s' x' ro4 → s'.r = s.r → tdI own ss rows b r0 ro (ss.len - (k + 1)) ((k : Int) + 1) ⟨own ++ boL s', ro4⟩ := by
    intro s' x' ro4 he m4 hB' hr'
    exact ⟨k + 1, s', ro4, by omega, by omega, by omega, rfl, fun a v h => m4 a v (m2 a v h), by rw [hnext, ← he]; exact hB', hr'.trans hr, rfl⟩
  simp only [f12_J2, f12_J1]
  match xs, htr, htl, fin with
  | [], htr, htl, fin =>
    simp at htl
    refine ⟨fun h => h = ⟨own ++ boL s, ro2⟩, VIf_b (nomatch ·) (fun _ => gi rfl), ?_⟩
    rintro _ _ rfl
    exact join_b false (VIf_dec (fun h => by omega) (fun _ => gi ⟨rfl, rfl⟩)) (VIf_b (nomatch ·) (fun _ => ⟨⟨by omega, by omega⟩, ss.len - (k + 1), by omega, gi (fin s _ ro2 rfl (fun _ _ h => h) hB rfl)⟩))
  | [_], htr, htl, fin =>
    simp at htl
    refine ⟨fun h => h = ⟨own ++ boL s, ro2⟩, VIf_b (nomatch ·) (fun _ => gi rfl), ?_⟩
    rintro _ _ rfl
    exact join_b false (VIf_dec (fun h => by omega) (fun _ => gi ⟨rfl, rfl⟩)) (VIf_b (nomatch ·) (fun _ => ⟨⟨by omega, by omega⟩, ss.len - (k + 1), by omega, gi (fin s _ ro2 rfl (fun _ _ h => h) hB rfl)⟩))
  | a :: tk :: want, htr, htl, fin =>
    simp only [List.length_cons] at htl
    obtain ⟨ad, had⟩ := htr.addr (by simp)
    have htX : ∀ {X ro4}, (∀ a v, ro2 a = some v → ro4 a = some v) → RdSl ⟨X, ro4⟩ t (ints (a :: tk :: want)) := fun {X ro4} m => htr.mono (by simp) (fun a v h => m a v (m2 a v h))
    have hwX : ∀ {X ro4}, (∀ a v, ro2 a = some v → ro4 a = some v) → RdSl ⟨X, ro4⟩ ⟨if t.cap = (2 : Int).toNat then t.a else Option.map (fun z => Addr.add z ((2 : Int).toNat * 1)) t.a, t.len - (2 : Int).toNat, t.cap - (2 : Int).toNat⟩ (ints want) := fun {X ro4} m => drop2 (htX m) (by omega) htc
    obtain ⟨sw, hsw⟩ : ∃ sw : SV, (⟨if t.cap = (2 : Int).toNat then t.a else Option.map (fun z => Addr.add z ((2 : Int).toNat * 1)) t.a, t.len - (2 : Int).toNat, t.cap - (2 : Int).toNat⟩ : SV) = sw := ⟨_, rfl⟩
    have hsv : Value.slice (if t.cap = (2 : Int).toNat then t.a else Option.map (fun z => Addr.add z ((2 : Int).toNat * 1)) t.a) (t.len - (2 : Int).toNat) (t.cap - (2 : Int).toNat) = Value.slice sw.a sw.len sw.cap := by rw [← hsw]
    rw [hsw] at hwX
    simp only [hsv]
    clear hsv hsw
    have e0 : ∀ {X ro4}, (∀ a v, ro2 a = some v → ro4 a = some v) → H.rd ⟨X, ro4⟩ (Addr.add (Addr.add ad ((0 : Int).toNat * 1)) 0) (.int .i64 a) := fun {X ro4} m => RdSl.rdi (htX m) had (i := (0 : Int).toNat) rfl
    have e1 : ∀ {X ro4}, (∀ a v, ro2 a = some v → ro4 a = some v) → H.rd ⟨X, ro4⟩ (Addr.add (Addr.add ad ((1 : Int).toNat * 1)) 0) (.int .i64 tk) := fun {X ro4} m => RdSl.rdi (htX m) had (i := (1 : Int).toNat) rfl
    have id2 : ∀ a v, ro2 a = some v → ro2 a = some v := fun _ _ h => h
    have l20 : (0 : Int) < ((t.len : Nat) : Int) := by omega
    have l21 : (1 : Int) < ((t.len : Nat) : Int) := by omega
    have l22 : (2 : Int) ≤ ((t.len : Nat) : Int) := by omega
    have hl2 : ((t.len : Nat) : Int) ≥ 2 := by omega
    clear htX htr htl
    by_cases ha : a = 0
    · have hab : (a != 0) = false := by simp [ha]
      rw [show tdF (a :: tk :: want) = false from hab]
      refine ⟨fun h => h = ⟨own ++ boL s, ro2⟩, VIf_b (nomatch ·) (fun _ => gi rfl), ?_⟩
      rintro _ _ rfl
      refine join_b true (VIf_dec (fun _ => ⟨ad, had, Int.le_refl _, l20, a, e0 id2, gi ⟨rfl, by simp [ha]⟩⟩) (fun h => absurd hl2 h)) (VIf_b (fun _ => ?_) (nomatch ·))
      rw [← hr]
      refine ⟨ad, had, by decide, l21, tk, e1 id2, by decide, l22, ask_c own [] (by simp) hTm (hTab.up m2) hB (hwX id2) (fun s' ro4 m4 hB' hr' => ⟨_, rfl, ⟨by omega, by omega⟩, ss.len - (k + 1), by omega, gi ?_⟩)⟩
      have := fin s' _ ro4 (by simp only [bstep, hab]) m4 hB' hr'
      rw [List.append_nil, hr]
      exact this
    · have hab : (a != 0) = true := by simp [ha]
      rw [show tdF (a :: tk :: want) = true from hab]
      refine ⟨fun h => ∃ s' ro4, (∀ a v, ro2 a = some v → ro4 a = some v) ∧ BOO s' (bput ((rows.take k).foldl bstep ⟨b, [], 0⟩) true tk want) ro4 ∧ s'.r = s.r ∧ h = ⟨own ++ boL s', ro4⟩, VIf_b (fun _ => ?_) (nomatch ·), ?_⟩
      · rw [← hr]
        refine ⟨ad, had, by decide, l21, tk, e1 id2, by decide, l22, back_c own [] (by simp) hTm (hTab.up m2) hB (hwX id2) (fun s' ro4 m4 hB' hr' => ⟨_, rfl, gi ⟨s', ro4, m4, hB', hr', by rw [List.append_nil]⟩⟩)⟩
      · rintro _ _ ⟨s', ro4, m4, hB', hr', rfl⟩
        refine join_b false (VIf_dec (fun _ => ⟨ad, had, Int.le_refl _, l20, a, e0 m4, gi ⟨rfl, by simp [ha]⟩⟩) (fun h => absurd hl2 h)) (VIf_b (nomatch ·) (fun _ => ⟨⟨by omega, by omega⟩, ss.len - (k + 1), by omega, gi (fin s' _ ro4 (by simp only [bstep, hab]) m4 hB' hr')⟩))

theorem told_c' {b : Bk} {sf sc sh ss : SV} {rows : List (SV × List Int)} {own : List Ent} {ro : Addr → Option Value} {post : Value → H → Prop} {T : Nat} (hT : shE 4 T 20 ∈ own) (hTab : HasTab ro) (hb : BkRd ⟨own, ro⟩ sf sc sh b) (hs : RdRowsOf ⟨[], ro⟩ ss rows) (hcap : ∀ r ∈ rows, r.1.len ≤ r.1.cap)
    (h0 : ¬ (BOk b ∧ brow b ≠ none) → post (.tuple (List.toArray [.pointer none, .bool false])) ⟨own, ro⟩)
    (h1 : BOk b → brow b ≠ none → ∀ s ro', (∀ a v, ro a = some v → ro' a = some v) → BOO s (btold b (rows.map Prod.snd)) ro' → post (.tuple (List.toArray [.pointer (some (Addr.mk s.r 0 none)), .bool true])) ⟨own ++ boL s, ro'⟩) :
    SemCall Tryz.prog 12 (List.toArray [bkV sf sc sh, .slice ss.a ss.len ss.cap]) ⟨own, ro⟩ post := by
  refine f12_call sf sc sh ss _ post ?_
  intro r1 _
  simp only [add_mk', Nat.zero_add, Nat.add_zero]
  rw [show (⟨some r1, [Value.slice sf.a sf.len sf.cap, .slice sc.a sc.len sc.cap, .slice sh.a sh.len sh.cap], List.length [Value.slice sf.a sf.len sf.cap, .slice sc.a sc.len sc.cap, .slice sh.a sh.len sh.cap]⟩ : Ent) = bkE r1 sf sc sh from rfl]
  have hE : bkE r1 sf sc sh ∈ own ++ [bkE r1 sf sc sh] := by simp
  have sl := hs.1.len
  rw [List.length_map] at sl
  refine ⟨sf, bkE_0 hE, sc, bkE_1 hE, sh, bkE_2 hE, new_c (hb.mono (fun e he => by simp [he]) (fun _ _ h => h)) (fun hc => ⟨none, _, rfl, VIf_nerr (fun _ => ⟨⟨own, ro⟩, Gh.drop (by simp), h0 (fun h => hc (bcheck_zero.2 h.1))⟩) (fun h => absurd h hc)⟩)
    (fun _ hr => ⟨none, _, rfl, VIf_nerr (fun _ => ⟨⟨own, ro⟩, Gh.drop (by simp), h0 (fun h => h.2 hr)⟩) (fun h => by cases h)⟩) (fun ho hr s0 ro3 m3 hB0 => ⟨_, none, rfl, VIf_nnil ?_⟩)⟩
  have hT' : shE 4 T 20 ∈ own ++ [bkE r1 sf sc sh] := by simp [hT]
  refine ⟨fun h => ∃ s ro2, (∀ a v, ro a = some v → ro2 a = some v) ∧ BOO s (btold b (rows.map Prod.snd)) ro2 ∧ s.r = s0.r ∧ h = ⟨own ++ [bkE r1 sf sc sh] ++ boL s, ro2⟩, ⟨tdI (own ++ [bkE r1 sf sc sh]) ss (rows.map Prod.snd) b s0.r ro, ⟨ss.len - 0, gi ⟨0, s0, ro3, rfl, Nat.zero_le _, Nat.zero_le _, rfl, m3, hB0, rfl, rfl⟩⟩, ?_⟩, ?_⟩
  · rintro m _ i _ ⟨k, s, ro2, rfl, hk, hk70, rfl, m2, hB, hr', rfl⟩
    by_cases hkl : k < ss.len ∧ k < 70
    · refine join_b true (VIf_dec (fun _ => gi ⟨rfl, decide_eq_true (by have := hkl.2; omega)⟩) (fun h => by omega)) (VIf_b (fun _ => ?_) (nomatch ·))
      have hs2 : RdRowsOf ⟨own ++ [bkE r1 sf sc sh] ++ boL s, ro2⟩ ss rows := hs.mono (by simp) m2
      refine hs2.idx (by omega) (by omega) (fun t xs hg hxt => ?_)
      rw [Int.toNat_natCast] at hg
      have htr : RdSl ⟨[], ro⟩ t (ints xs) := hs.2 _ (List.mem_of_getElem? hg)
      have htl := htr.len
      rw [ints_length] at htl
      refine join_b (tdF xs) (VIf_dec (fun h2 => ?_) (fun h2 => ?_)) (told_J2 hT' hTab hkl.1 hkl.2 (by rw [List.getElem?_map, hg]; rfl) htr (hcap _ (List.mem_of_getElem? hg)) m2 hB hr')
      · match xs, htr, hxt, htl with
        | [], _, _, h => simp at h; omega
        | [_], _, _, h => simp at h; omega
        | a :: tk :: want, htr, hxt, _ =>
          obtain ⟨ad, had⟩ := htr.addr (by simp)
          exact ⟨ad, had, Int.le_refl _, by omega, a, RdSl.rdi hxt had (i := (0 : Int).toNat) rfl, gi ⟨rfl, rfl⟩⟩
      · match xs, htl with
        | [], _ => exact gi ⟨rfl, rfl⟩
        | [_], _ => exact gi ⟨rfl, rfl⟩
        | a :: tk :: want, h => simp at h; omega
    · have hend : (rows.map Prod.snd).take k = (rows.map Prod.snd).take 70 := by
        by_cases h70 : k < 70
        · have : ss.len ≤ k := by
            rcases Nat.lt_or_ge k ss.len with h | h
            · exact absurd ⟨h, h70⟩ hkl
            · exact h
          rw [List.take_of_length_le (by rw [List.length_map]; omega), List.take_of_length_le (by rw [List.length_map]; omega)]
        · rw [show k = 70 by omega]
      have hB2 : BOO s (btold b (rows.map Prod.snd)) ro2 := by unfold btold; rw [← hend]; exact hB
      refine join_b false (VIf_dec (fun h => gi ⟨rfl, ?_⟩) (fun _ => gi ⟨rfl, rfl⟩)) (VIf_b (nomatch ·) (fun _ => gi ⟨s, ro2, m2, hB2, hr', rfl⟩))
      have : ¬ k < 70 := fun h70 => hkl ⟨by omega, h70⟩
      simp; omega
  · rintro _ _ ⟨s, ro2, m2, hB2, hr', rfl⟩
    refine ⟨⟨own ++ boL s, ro2⟩, Gh.drop (by rw [List.append_assoc]; exact List.Sublist.append_left (List.sublist_append_right _ _) _), ?_⟩
    rw [← hr']
    exact h1 ho hr s ro2 m2 hB2
end Go.Proofs.YtnppmcgmmdcpiaaGreatDoor
namespace Go.Proofs.YtnppmcgmmdcpiaaGreatDoor
open Go.Eng
set_option maxRecDepth 20000
/-! ### the closed fact -/
theorem small_c {own : List Ent} {ro : Addr → Option Value} {post : Value → H → Prop} 
    (hk : ∀ sf sc sh ro', (∀ a v, ro a = some v → ro' a = some v) → BkRd ⟨[], ro'⟩ sf sc sh ⟨[4], [[3], [3]], [[0], [0]]⟩ → post (bkV sf sc sh) ⟨own, ro'⟩) : SemCall Tryz.prog 25 (List.toArray []) ⟨own, ro⟩ post := by
  refine SemCall.wf fun hwf => ?_
  refine f25_call _ post ?_
  intro r1 f1 r3 f3 r5 f5 r7 f7 r9 f9 r11 f11 r13 f13 r15 f15
  have w1 : Wf ⟨own ++ [⟨some r1, [Value.slice none 0 0, .slice none 0 0, .slice none 0 0], 3⟩], ro⟩ := hwf.add f1 rfl
  have w3 : Wf ⟨own ++ [⟨some r1, [Value.slice none 0 0, .slice none 0 0, .slice none 0 0], 3⟩] ++ [⟨some r3, [.int .i64 4], 1⟩], ro⟩ := w1.add f3 rfl
  have w5 : Wf ⟨own ++ [⟨some r1, [Value.slice none 0 0, .slice none 0 0, .slice none 0 0], 3⟩] ++ [⟨some r3, [.int .i64 4], 1⟩] ++ [⟨some r5, [.int .i64 3], 1⟩], ro⟩ := w3.add f5 rfl
  have w7 : Wf ⟨own ++ [⟨some r1, [Value.slice none 0 0, .slice none 0 0, .slice none 0 0], 3⟩] ++ [⟨some r3, [.int .i64 4], 1⟩] ++ [⟨some r5, [.int .i64 3], 1⟩] ++ [⟨some r7, [.int .i64 3], 1⟩], ro⟩ := w5.add f7 rfl
  have w9 : Wf ⟨own ++ [⟨some r1, [Value.slice none 0 0, .slice none 0 0, .slice none 0 0], 3⟩] ++ [⟨some r3, [.int .i64 4], 1⟩] ++ [⟨some r5, [.int .i64 3], 1⟩] ++ [⟨some r7, [.int .i64 3], 1⟩] ++ [⟨some r9, [svV ⟨some (Addr.mk r5 0 none), 1, 1⟩, svV ⟨some (Addr.mk r7 0 none), 1, 1⟩], 2⟩], ro⟩ := w7.add f9 rfl
  have w11 : Wf ⟨own ++ [⟨some r1, [Value.slice none 0 0, .slice none 0 0, .slice none 0 0], 3⟩] ++ [⟨some r3, [.int .i64 4], 1⟩] ++ [⟨some r5, [.int .i64 3], 1⟩] ++ [⟨some r7, [.int .i64 3], 1⟩] ++ [⟨some r9, [svV ⟨some (Addr.mk r5 0 none), 1, 1⟩, svV ⟨some (Addr.mk r7 0 none), 1, 1⟩], 2⟩] ++ [⟨some r11, [.int .i64 0], 1⟩], ro⟩ := w9.add f11 rfl
  have w13 : Wf ⟨own ++ [⟨some r1, [Value.slice none 0 0, .slice none 0 0, .slice none 0 0], 3⟩] ++ [⟨some r3, [.int .i64 4], 1⟩] ++ [⟨some r5, [.int .i64 3], 1⟩] ++ [⟨some r7, [.int .i64 3], 1⟩] ++ [⟨some r9, [svV ⟨some (Addr.mk r5 0 none), 1, 1⟩, svV ⟨some (Addr.mk r7 0 none), 1, 1⟩], 2⟩] ++ [⟨some r11, [.int .i64 0], 1⟩] ++ [⟨some r13, [.int .i64 0], 1⟩], ro⟩ := w11.add f13 rfl
  have w15 : Wf ⟨own ++ [⟨some r1, [Value.slice none 0 0, .slice none 0 0, .slice none 0 0], 3⟩] ++ [⟨some r3, [.int .i64 4], 1⟩] ++ [⟨some r5, [.int .i64 3], 1⟩] ++ [⟨some r7, [.int .i64 3], 1⟩] ++ [⟨some r9, [svV ⟨some (Addr.mk r5 0 none), 1, 1⟩, svV ⟨some (Addr.mk r7 0 none), 1, 1⟩], 2⟩] ++ [⟨some r11, [.int .i64 0], 1⟩] ++ [⟨some r13, [.int .i64 0], 1⟩] ++ [⟨some r15, [svV ⟨some (Addr.mk r11 0 none), 1, 1⟩, svV ⟨some (Addr.mk r13 0 none), 1, 1⟩], 2⟩], ro⟩ := w13.add f15 rfl
  refine ⟨rfl, rfl, ?_⟩
  have hcat : own ++ [(⟨some r1, [Value.slice none 0 0, .slice none 0 0, .slice none 0 0], 3⟩ : Ent)] ++ [⟨some r3, [.int .i64 4], 1⟩] ++ [⟨some r5, [.int .i64 3], 1⟩] ++ [⟨some r7, [.int .i64 3], 1⟩] ++ [⟨some r9, [svV ⟨some (Addr.mk r5 0 none), 1, 1⟩, svV ⟨some (Addr.mk r7 0 none), 1, 1⟩], 2⟩] ++ [⟨some r11, [.int .i64 0], 1⟩] ++ [⟨some r13, [.int .i64 0], 1⟩] ++ [⟨some r15, [svV ⟨some (Addr.mk r11 0 none), 1, 1⟩, svV ⟨some (Addr.mk r13 0 none), 1, 1⟩], 2⟩] =
      own ++ ⟨some r1, [Value.slice none 0 0, .slice none 0 0, .slice none 0 0], 3⟩ :: [⟨some r3, [.int .i64 4], 1⟩, ⟨some r5, [.int .i64 3], 1⟩, ⟨some r7, [.int .i64 3], 1⟩, ⟨some r9, [svV ⟨some (Addr.mk r5 0 none), 1, 1⟩, svV ⟨some (Addr.mk r7 0 none), 1, 1⟩], 2⟩, ⟨some r11, [.int .i64 0], 1⟩, ⟨some r13, [.int .i64 0], 1⟩, ⟨some r15, [svV ⟨some (Addr.mk r11 0 none), 1, 1⟩, svV ⟨some (Addr.mk r13 0 none), 1, 1⟩], 2⟩] := by simp
  simp only [add_mk', Nat.zero_add, Nat.add_zero]
  refine bk_out (sf := ⟨some (Addr.mk r3 0 none), 1, 1⟩) (sc := ⟨some (Addr.mk r9 0 none), 2, 2⟩) (sh := ⟨some (Addr.mk r15 0 none), 2, 2⟩) own _ hcat rfl ?_
  rw [hcat] at w15
  have hp : (own ++ (⟨some r3, [.int .i64 4], 1⟩ :: ⟨some r9, [svV ⟨some (Addr.mk r5 0 none), 1, 1⟩, svV ⟨some (Addr.mk r7 0 none), 1, 1⟩], 2⟩ :: ⟨some r15, [svV ⟨some (Addr.mk r11 0 none), 1, 1⟩, svV ⟨some (Addr.mk r13 0 none), 1, 1⟩], 2⟩ :: ([⟨some r5, [.int .i64 3], 1⟩, ⟨some r7, [.int .i64 3], 1⟩] ++ [⟨some r11, [.int .i64 0], 1⟩, ⟨some r13, [.int .i64 0], 1⟩]) : List Ent)).Perm
      (own ++ [⟨some r3, [.int .i64 4], 1⟩, ⟨some r5, [.int .i64 3], 1⟩, ⟨some r7, [.int .i64 3], 1⟩, ⟨some r9, [svV ⟨some (Addr.mk r5 0 none), 1, 1⟩, svV ⟨some (Addr.mk r7 0 none), 1, 1⟩], 2⟩, ⟨some r11, [.int .i64 0], 1⟩, ⟨some r13, [.int .i64 0], 1⟩, ⟨some r15, [svV ⟨some (Addr.mk r11 0 none), 1, 1⟩, svV ⟨some (Addr.mk r13 0 none), 1, 1⟩], 2⟩]) := by
    refine List.Perm.append_left _ (.cons _ ?_)
    refine pm [_, _] [_, _, _] rfl ?_
    refine pm [_, _, _, _] [] rfl ?_
    exact List.Perm.refl _
  have w16 := (w15.sub (own' := own ++ [⟨some r3, [.int .i64 4], 1⟩, ⟨some r5, [.int .i64 3], 1⟩, ⟨some r7, [.int .i64 3], 1⟩, ⟨some r9, [svV ⟨some (Addr.mk r5 0 none), 1, 1⟩, svV ⟨some (Addr.mk r7 0 none), 1, 1⟩], 2⟩, ⟨some r11, [.int .i64 0], 1⟩, ⟨some r13, [.int .i64 0], 1⟩, ⟨some r15, [svV ⟨some (Addr.mk r11 0 none), 1, 1⟩, svV ⟨some (Addr.mk r13 0 none), 1, 1⟩], 2⟩]) (List.Sublist.append_left (.cons _ (List.Sublist.refl _)) _)).perm hp
  have one : ∀ (r : Nat) (v : Int), OwnsSl 1 ⟨some (Addr.mk r 0 none), 1, 1⟩ ⟨some r, [.int .i64 v], 1⟩ (ints [v]) := fun r v => OwnsSl.at0 (n := 1) 1 rfl (by decide) (by decide)
  have two : ∀ (r : Nat) (p q : SV), OwnsSl 1 ⟨some (Addr.mk r 0 none), 2, 2⟩ ⟨some r, [svV p, svV q], 2⟩ ([p, q].map svV) := fun r p q => OwnsSl.at0 (n := 2) 1 rfl (by decide) (by decide)
  obtain ⟨ro', g, m, rd⟩ := bk_frz (b := ⟨[4], [[3], [3]], [[0], [0]]⟩) (ssC := [⟨some (Addr.mk r5 0 none), 1, 1⟩, ⟨some (Addr.mk r7 0 none), 1, 1⟩]) (ssH := [⟨some (Addr.mk r11 0 none), 1, 1⟩, ⟨some (Addr.mk r13 0 none), 1, 1⟩]) w16 (one _ _)
    (two _ _ _) (two _ _ _) (by simpa using (OwPar.nil.app (one r5 3)).app (one r7 3)) (by simpa using (OwPar.nil.app (one r11 0)).app (one r13 0))
  exact ⟨⟨own, ro'⟩, (Gh.drop (List.Sublist.append_left (.cons _ (List.Sublist.refl _)) _)).trans ((Gh.perm hp).trans g), hk _ _ _ ro' m rd⟩
theorem bkS_ok : BOk ⟨[4], [[3], [3]], [[0], [0]]⟩ :=
  ⟨by decide, by decide, by decide, by decide, by decide, by decide, fun t k ht hk => (by decide : ∀ t, t < 2 → ∀ k, k < 1 → (0 ≤ g2 [[3], [3]] t k ∧ g2 [[3], [3]] t k ≤ 1000) ∧ (0 ≤ g2 [[0], [0]] t k ∧ g2 [[0], [0]] t k ≤ g2 [[3], [3]] t k)) t ht k hk,
    fun t k ht hk => (by decide : ∀ t, t < 2 → ∀ k, k < 1 → g2 [[3], [3]] t k ≤ ball ⟨[4], [[3], [3]], [[0], [0]]⟩ k) t ht k hk⟩
theorem bkT_ok : BOk ⟨[2], [[3], [3]], [[2], [0]]⟩ :=
  ⟨by decide, by decide, by decide, by decide, by decide, by decide, fun t k ht hk => (by decide : ∀ t, t < 2 → ∀ k, k < 1 → (0 ≤ g2 [[3], [3]] t k ∧ g2 [[3], [3]] t k ≤ 1000) ∧ (0 ≤ g2 [[2], [0]] t k ∧ g2 [[2], [0]] t k ≤ g2 [[3], [3]] t k)) t ht k hk,
    fun t k ht hk => (by decide : ∀ t, t < 2 → ∀ k, k < 1 → g2 [[3], [3]] t k ≤ ball ⟨[2], [[3], [3]], [[2], [0]]⟩ k) t ht k hk⟩
theorem bkS_row : brow ⟨[4], [[3], [3]], [[0], [0]]⟩ ≠ none := by decide
theorem bkS_ask : bask ⟨[4], [[3], [3]], [[0], [0]]⟩ 0 [2] = 0 := by
  have h : BAsk ⟨[4], [[3], [3]], [[0], [0]]⟩ 0 [2] := ⟨bkS_ok, by decide, by decide, by decide, by decide⟩
  rw [bask, if_neg (fun hc => hc (basked_of h)), if_neg, if_neg, if_neg]
  · decide
  · rintro ⟨k, hk, hc⟩
    exact absurd hc ((by decide : ∀ k, k < 1 → ¬ (gI [2] k > gI [4] k)) k hk)
  · rintro ⟨k, hk, hc⟩
    exact absurd hc ((by decide : ∀ k, k < 1 → ¬ (g2 [[0], [0]] (0 : Int).toNat k + gI [2] k > g2 [[3], [3]] (0 : Int).toNat k)) k hk)
theorem bkT_ask : bask ⟨[2], [[3], [3]], [[2], [0]]⟩ 1 [2] = 7 := by
  have h : BAsk ⟨[2], [[3], [3]], [[2], [0]]⟩ 1 [2] := ⟨bkT_ok, by decide, by decide, by decide, by decide⟩
  rw [bask, if_neg (fun hc => hc (basked_of h)), if_neg, if_neg, if_pos]
  · decide
  · rintro ⟨k, hk, hc⟩
    exact absurd hc ((by decide : ∀ k, k < 1 → ¬ (gI [2] k > gI [2] k)) k hk)
  · rintro ⟨k, hk, hc⟩
    exact absurd hc ((by decide : ∀ k, k < 1 → ¬ (g2 [[2], [0]] (1 : Int).toNat k + gI [2] k > g2 [[3], [3]] (1 : Int).toNat k)) k hk)
theorem bmv_S : bmv ⟨[4], [[3], [3]], [[0], [0]]⟩ (0 : Int).toNat [2] 1 = ⟨[2], [[3], [3]], [[2], [0]]⟩ := by rfl
theorem fact_line : lineF (lineB 97 0 [2]) = [97, 32, 48, 32, 50, 32, 54, 56, 51, 10] := by
  have d0 : Lib.decDigits 0 = [48] := by simp [Lib.decDigits]
  have d2 : Lib.decDigits 2 = [50] := by simp [Lib.decDigits]
  have d683 : Lib.decDigits 683 = [54, 56, 51] := by simp [Lib.decDigits]
  have e1 : lineB 97 0 [2] = [97, 32, 48, 32, 50] := by
    simp only [lineB, List.flatMap_cons, List.flatMap_nil]
    rw [show (0 : Int).toNat = 0 from rfl, show (2 : Int).toNat = 2 from rfl, d0, d2]
    rfl
  have e2 : sumB [97, 32, 48, 32, 50] = 683 := by decide
  rw [e1, lineF, e2, d683]
  rfl
theorem fact_c {own : List Ent} {ro : Addr → Option Value} {post : Value → H → Prop} {T : Nat} (hG : HasErrT ro) (hT : shE 4 T 20 ∈ own) (hTab : HasTab ro) (hk : ∀ ro', (∀ a v, ro a = some v → ro' a = some v) → post (.bool true) ⟨own, ro'⟩) :
    SemCall Tryz.prog 11 (List.toArray []) ⟨own, ro⟩ post := by
  refine f11_call _ post ?_
  refine small_c (fun sf sc sh ro1 m1 hb => ⟨sf, sc, sh, rfl, ?_⟩)
  refine new_c (hb.mono (by simp) (fun _ _ h => h)) (fun hc => absurd (bcheck_zero.2 bkS_ok) hc) (fun _ hr => absurd hr bkS_row) (fun _ _ s0 ro2 m2 hB0 => ⟨_, none, rfl, ?_⟩)
  have hTm : ∀ {X}, shE 4 T 20 ∈ own ++ X := fun {X} => List.mem_append_left _ hT
  have c0 : bcode ⟨⟨[4], [[3], [3]], [[0], [0]]⟩, [], 0⟩ false 0 [2] = 0 := by unfold bcode; rw [if_neg (by decide)]; simpa using bkS_ask
  have p0 : bput ⟨⟨[4], [[3], [3]], [[0], [0]]⟩, [], 0⟩ false 0 [2] = ⟨⟨[2], [[3], [3]], [[2], [0]]⟩, [97, 32, 48, 32, 50, 32, 54, 56, 51, 10], 1⟩ := by
    rw [bput_ok c0]
    simp only [Bool.false_eq_true, if_false, bmv_S, fact_line, List.nil_append, Nat.zero_add]
  have c1 : bcode ⟨⟨[2], [[3], [3]], [[2], [0]]⟩, [97, 32, 48, 32, 50, 32, 54, 56, 51, 10], 1⟩ false 1 [2] = 7 := by unfold bcode; rw [if_neg (by decide)]; simpa using bkT_ask
  have p1 : bput ⟨⟨[2], [[3], [3]], [[2], [0]]⟩, [97, 32, 48, 32, 50, 32, 54, 56, 51, 10], 1⟩ false 1 [2] = ⟨⟨[2], [[3], [3]], [[2], [0]]⟩, [97, 32, 48, 32, 50, 32, 54, 56, 51, 10], 1⟩ := bput_err (by rw [c1]; decide)
  refine ⟨fun c h => c = false ∧ ∃ s ro5 X, (∀ a v, ro a = some v → ro5 a = some v) ∧ BOO s ⟨⟨[2], [[3], [3]], [[2], [0]]⟩, [97, 32, 48, 32, 50, 32, 54, 56, 51, 10], 1⟩ ro5 ∧ s.r = s0.r ∧ h = ⟨own ++ (boL s ++ X), ro5⟩, VIf_nnil ?_, ?_⟩
  · intro r12 f12
    refine SemCall.frz (sz := 1) (s := ⟨some (Addr.mk r12 0 none), 1, 1⟩) (xs := ints [2]) (own ++ boL s0) ⟨some r12, [.int .i64 2], 1⟩ [] rfl (OwnsSl.at0 (n := 1) 1 rfl (by decide) (by decide)) (fun ro3 m3 hw3 => ?_)
    have mm3 : ∀ a v, ro a = some v → ro3 a = some v := fun a v h => m3 a v (m2 a v (m1 a v h))
    have hwr : RdSl ⟨[], ro3⟩ ⟨some (Addr.mk r12 0 none), 1, 1⟩ (ints [2]) := hw3.sl
    rw [List.append_nil]
    refine ask_c (sw := ⟨some (Addr.mk r12 0 none), 1, 1⟩) own [] (by simp) hTm (hTab.up mm3) (hB0.up m3) hwr (fun s1 ro4 m4 hB1 hr1 => ?_)
    rw [c0]
    rw [p0] at hB1
    refine ⟨none, rfl, VIf_nnil ?_⟩
    intro r18 f18
    refine SemCall.frz (sz := 1) (s := ⟨some (Addr.mk r18 0 none), 1, 1⟩) (xs := ints [2]) (own ++ (boL s1 ++ [])) ⟨some r18, [.int .i64 2], 1⟩ [] rfl (OwnsSl.at0 (n := 1) 1 rfl (by decide) (by decide)) (fun ro5 m5 hw5 => ?_)
    have mm5 : ∀ a v, ro a = some v → ro5 a = some v := fun a v h => m5 a v (m4 a v (mm3 a v h))
    have hwr5 : RdSl ⟨[], ro5⟩ ⟨some (Addr.mk r18 0 none), 1, 1⟩ (ints [2]) := hw5.sl
    rw [List.append_nil, ← hr1]
    refine ask_c (sw := ⟨some (Addr.mk r18 0 none), 1, 1⟩) own [] rfl hTm (hTab.up mm5) (hB1.up m5) hwr5 (fun s2 ro6 m6 hB2 hr2 => ?_)
    rw [c1]
    rw [p1] at hB2
    refine ⟨_, rfl, says_same' (hG.up (fun a v h => m6 a v (mm5 a v h))) rfl ⟨_, rfl, gi ⟨rfl, s2, ro6, [], fun a v h => m6 a v (mm5 a v h), hB2, hr2, rfl⟩⟩⟩
  · rintro _ c _ ⟨rfl, s, ro5, X, m5, hB, hr, rfl⟩
    refine VIf_b (nomatch ·) (fun _ => ?_)
    rw [← hr]
    refine text_c hB own X rfl ⟨_, rfl, ⟨⟨own, ro5⟩, Gh.drop (by simp), ?_⟩⟩
    have e : (ByteArray.toList (bs [97, 32, 48, 32, 50, 32, 54, 56, 51, 10]) == ByteArray.toList (ByteArray.mk (List.toArray [(97 : UInt8), (32 : UInt8), (48 : UInt8), (32 : UInt8), (50 : UInt8), (32 : UInt8), (54 : UInt8), (56 : UInt8), (51 : UInt8), (10 : UInt8)]))) = true := by
      rw [show (ByteArray.mk (List.toArray [(97 : UInt8), (32 : UInt8), (48 : UInt8), (32 : UInt8), (50 : UInt8), (32 : UInt8), (54 : UInt8), (56 : UInt8), (51 : UInt8), (10 : UInt8)])) = bs [97, 32, 48, 32, 50, 32, 54, 56, 51, 10] from rfl]
      exact beq_self_eq_true _
    dsimp only
    rw [e]
    exact hk ro5 m5
end Go.Proofs.YtnppmcgmmdcpiaaGreatDoor
