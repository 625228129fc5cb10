import Derived.Test.YtnppmcgmmdcpiaaDoorBn
namespace Go.Proofs.YtnppmcgmmdcpiaaDoor
open Go.Eng
set_option maxRecDepth 20000
/-! ### the document's book -/
def dE (r : Nat) (sf sc sh : SV) (l : List UInt8) (n : Int) : Ent := ⟨some r, [.slice sf.a sf.len sf.cap, .slice sc.a sc.len sc.cap, .slice sh.a sh.len sh.cap, .string (bs l), .int .i64 n], 5⟩
def dV (sf sc sh : SV) (l : List UInt8) (n : Int) : Value := .agg (List.toArray [.slice sf.a sf.len sf.cap, .slice sc.a sc.len sc.cap, .slice sh.a sh.len sh.cap, .string (bs l), .int .i64 n])
theorem dE_rd {r : Nat} {sf sc sh : SV} {l : List UInt8} {n : Int} {own : List Ent} {ro : Addr → Option Value} (h : dE r sf sc sh l n ∈ own) (i : Nat) {v : Value} (hv : (dE r sf sc sh l n).cells[i]? = some v) : H.rd ⟨own, ro⟩ (Addr.mk r i none) v := rdo _ h rfl hv
theorem OwnExt.rfl' (h : H) : OwnExt h h := ⟨[], by simp⟩
theorem bs_nil : ByteArray.empty = bs [] := rfl
theorem bput_err {x : Bo} {back : Bool} {t : Int} {want : List Int} (h : bcode x back t want ≠ 0) : bput x back t want = x := by unfold bput; rw [if_pos h]
theorem bput_ok {x : Bo} {back : Bool} {t : Int} {want : List Int} (h : bcode x back t want = 0) : bput x back t want = ⟨bmv x.b t.toNat want (if back = true then -1 else 1), x.l ++ lineF (lineB (if back = true then 98 else 97) t want), x.n + 1⟩ := by unfold bput; rw [if_neg (by rw [h]; exact not_not_intro rfl)]

set_option maxHeartbeats 1000000 in
theorem dput_c {x : Bo} {sf sc sh sw : SV} (back : Bool) {t : Int} {want : List Int} {own : List Ent} {ro : Addr → Option Value} {post : Value → H → Prop} (hx : BkRd ⟨[], ro⟩ sf sc sh x.b) (hn60 : x.n ≤ 60) (hll : x.l.length ≤ 112 * x.n) (hw : RdSl ⟨[], ro⟩ sw (ints want))
    (hk : ∀ sf' sc' sh' ro', (∀ a v, ro a = some v → ro' a = some v) → BkRd ⟨[], ro'⟩ sf' sc' sh' (bput x back t want).b → post (.tuple (List.toArray [dV sf' sc' sh' (bput x back t want).l ((bput x back t want).n : Int), .int .i64 (bcode x back t want)])) ⟨own, ro'⟩) :
    SemCall Tryd.prog 12 (List.toArray [dV sf sc sh x.l (x.n : Int), .bool back, .int .i64 t, .slice sw.a sw.len sw.cap]) ⟨own, ro⟩ post := by
  refine f12_call sf sc sh (bs x.l) (x.n : Int) back t sw _ post ?_
  intro r1 _ r3 _
  simp only [add_mk', Nat.zero_add, Nat.add_zero]
  rw [show (⟨some r1, [Value.slice sf.a sf.len sf.cap, .slice sc.a sc.len sc.cap, .slice sh.a sh.len sh.cap, .string (bs x.l), .int .i64 (x.n : Int)], List.length [Value.slice sf.a sf.len sf.cap, .slice sc.a sc.len sc.cap, .slice sh.a sh.len sh.cap, .string (bs x.l), .int .i64 (x.n : Int)]⟩ : Ent) = dE r1 sf sc sh x.l x.n from rfl,
    show (⟨some r3, [Value.slice none 0 0, .slice none 0 0, .slice none 0 0, .string ByteArray.empty, .int .i64 0], List.length [Value.slice none 0 0, .slice none 0 0, .slice none 0 0, .string ByteArray.empty, .int .i64 0]⟩ : Ent) = dE r3 nilV nilV nilV [] 0 from rfl]
  have hm1 : ∀ {ro2 X}, dE r1 sf sc sh x.l x.n ∈ (⟨own ++ [dE r1 sf sc sh x.l x.n] ++ [dE r3 nilV nilV nilV [] 0] ++ X, ro2⟩ : H).own := fun {ro2 X} => by simp
  have hm1' : dE r1 sf sc sh x.l x.n ∈ own ++ [dE r1 sf sc sh x.l x.n] ++ [dE r3 nilV nilV nilV [] 0] := by simp
  -- what is handed back as it was
  have same : ∀ (X : List Ent) (ro2 : Addr → Option Value) (e : Int) (K : H → Prop), (K ⟨own ++ [dE r1 sf sc sh x.l x.n] ++ dE r3 sf sc sh x.l x.n :: X, ro2⟩) →
      H.wr ⟨own ++ [dE r1 sf sc sh x.l x.n] ++ [dE r3 nilV nilV nilV [] 0] ++ X, ro2⟩ (Addr.mk r3 0 none) [.slice sf.a sf.len sf.cap, .slice sc.a sc.len sc.cap, .slice sh.a sh.len sh.cap, .string (bs x.l), .int .i64 (x.n : Int)] K := by
    intro X ro2 e K hK
    refine wro (own ++ [dE r1 sf sc sh x.l x.n]) (dE r3 nilV nilV nilV [] 0) X ⟨rfl, rfl, rfl, rfl, rfl, trivial⟩ (by simp) rfl (by simp [dE]) ?_
    exact hK
  refine ⟨(x.n : Int), dE_rd hm1' 4 rfl, VIf_dec (fun h60 => ?_) (fun h60 => ?_)⟩
  · have e1 : bcode x back t want = 4 := by unfold bcode; rw [if_pos (by omega)]
    have hb : bput x back t want = x := bput_err (by rw [e1]; decide)
    refine ⟨sf, dE_rd hm1' 0 rfl, sc, dE_rd hm1' 1 rfl, sh, dE_rd hm1' 2 rfl, bs x.l, dE_rd hm1' 3 rfl, _, dE_rd hm1' 4 rfl, rfl, rfl, ?_⟩
    have := same [] ro 0
    rw [List.append_nil] at this
    refine this _ ?_
    have hm3 : dE r3 sf sc sh x.l x.n ∈ own ++ [dE r1 sf sc sh x.l x.n] ++ dE r3 sf sc sh x.l x.n :: [] := by simp
    refine ⟨sf, dE_rd hm3 0 rfl, sc, dE_rd hm3 1 rfl, sh, dE_rd hm3 2 rfl, bs x.l, dE_rd hm3 3 rfl, _, dE_rd hm3 4 rfl, ⟨⟨own, ro⟩, Gh.drop (by simp), ?_⟩⟩
    have := hk sf sc sh ro (fun _ _ h => h) (by rw [hb]; exact hx)
    rw [hb, e1] at this
    exact this
  have ecode : bcode x back t want = if back = true then bback x.b t want else bask x.b t want := by unfold bcode; rw [if_neg (by omega)]
  refine ⟨sf, dE_rd hm1' 0 rfl, sc, dE_rd hm1' 1 rfl, sh, dE_rd hm1' 2 rfl, ref4_lend_c back hx hw (fun hne ro' m' => ?_) (fun h0 hA sf' sc' sh' ro' m' hb' => ?_)⟩
  · rw [← ecode] at hne ⊢
    refine ⟨nilV, nilV, nilV, _, rfl, ?_⟩
    intro r26 _
    refine ⟨rfl, rfl, wro (own ++ [dE r1 sf sc sh x.l x.n] ++ [dE r3 nilV nilV nilV [] 0]) ⟨some r26, [Value.slice none 0 0, .slice none 0 0, .slice none 0 0], 3⟩ [] ⟨rfl, rfl, rfl, trivial⟩ rfl rfl (by simp) (VIf_ne (fun _ => ?_) (fun hc => absurd hc hne))⟩
    generalize (⟨some r26, spl [Value.slice none 0 0, .slice none 0 0, .slice none 0 0] 0 [.slice nilV.a nilV.len nilV.cap, .slice nilV.a nilV.len nilV.cap, .slice nilV.a nilV.len nilV.cap], 3⟩ : Ent) = e26
    have hm := hm1 (ro2 := ro') (X := [e26])
    refine ⟨sf, dE_rd hm 0 rfl, sc, dE_rd hm 1 rfl, sh, dE_rd hm 2 rfl, bs x.l, dE_rd hm 3 rfl, _, dE_rd hm 4 rfl, rfl, rfl, ?_⟩
    refine same [e26] ro' 0 _ ?_
    have hm3 : dE r3 sf sc sh x.l x.n ∈ own ++ [dE r1 sf sc sh x.l x.n] ++ dE r3 sf sc sh x.l x.n :: [e26] := by simp
    refine ⟨sf, dE_rd hm3 0 rfl, sc, dE_rd hm3 1 rfl, sh, dE_rd hm3 2 rfl, bs x.l, dE_rd hm3 3 rfl, _, dE_rd hm3 4 rfl, ⟨⟨own, ro'⟩, Gh.drop (by simp), ?_⟩⟩
    have hb := bput_err hne
    have := hk sf sc sh ro' m' (by rw [hb]; exact hx.mono (by simp) m')
    rw [hb] at this
    exact this
  rw [← ecode] at h0
  obtain ⟨hwa, hw3, ht0, ht1⟩ := want_all hA
  have hb := bput_ok h0
  refine ⟨sf', sc', sh', _, rfl, ?_⟩
  intro r26 _
  refine ⟨rfl, rfl, wro (own ++ [dE r1 sf sc sh x.l x.n] ++ [dE r3 nilV nilV nilV [] 0]) ⟨some r26, [Value.slice none 0 0, .slice none 0 0, .slice none 0 0], 3⟩ [] ⟨rfl, rfl, rfl, trivial⟩ rfl rfl (by simp) (VIf_ne (fun hc => absurd rfl hc) (fun _ => ?_))⟩
  have e26 : (⟨some r26, spl [Value.slice none 0 0, .slice none 0 0, .slice none 0 0] 0 [.slice sf'.a sf'.len sf'.cap, .slice sc'.a sc'.len sc'.cap, .slice sh'.a sh'.len sh'.cap], 3⟩ : Ent) = bkE r26 sf' sc' sh' := rfl
  dsimp only
  rw [e26]
  obtain ⟨W, hW⟩ : ∃ W : UInt8, W = if back = true then 98 else 97 := ⟨_, rfl⟩
  have hll' := lineB_len (w := W) ⟨ht0, ht1⟩ hwa hw3
  have hlf := lineF_len hll'
  have hdt := dec_len (n := t.toNat) (by omega)
  have hw2 : ∀ {X}, RdSl ⟨X, ro'⟩ sw (ints want) := fun {X} => hw.mono (by simp) m'
  have hwl := (hw2 (X := [])).len
  rw [ints_length] at hwl
  have e32 : ByteArray.mk (List.toArray [(32 : UInt8)]) = bs [32] := rfl
  generalize hH : (⟨own ++ [dE r1 sf sc sh x.l x.n] ++ [dE r3 nilV nilV nilV [] 0] ++ bkE r26 sf' sc' sh' :: [], ro'⟩ : H) = h28
  refine ⟨fun s h => s = bs [W, 32] ∧ h = h28, VIf_b (fun hbk => gi ⟨by rw [hW, if_pos hbk]; rfl, rfl⟩) (fun hbk => gi ⟨by rw [hW, if_neg (by rw [hbk]; decide)]; rfl, rfl⟩), ?_⟩
  rintro _ _ h' ⟨rfl, hh⟩
  rw [hh]
  clear hh h'
  refine digits_c ht0 (by omega) ⟨_, rfl, by rw [bs_size, bs_size]; simp only [List.length_cons, List.length_nil]; omega, ?_⟩
  rw [bs_app]
  refine ⟨fun str h' => str = bs (lineB W t want) ∧ h' = h28, ⟨fun m str i h' => h' = h28 ∧ m ≤ want.length ∧ i = ((want.length - m : Nat) : Int) ∧ str = bs (lineB W t (want.take (want.length - m))), ⟨want.length, gi ⟨rfl, Nat.le_refl _, by simp, by simp [lineB]⟩⟩, ?_⟩, ?_⟩
  · rintro m _ str i _ ⟨rfl, hmk, rfl, rfl⟩
    refine VIf_dec (fun hi => ?_) (fun hi => ?_)
    · obtain ⟨k, hk', hkl⟩ : ∃ k, want.length - m = k ∧ k < want.length := ⟨want.length - m, rfl, by omega⟩
      rw [hk']
      obtain ⟨ad, had⟩ := (hw2 (X := [])).addr (by rw [ints_length]; omega)
      have hg := List.getElem?_eq_getElem hkl
      have hlk := lineB_len (w := W) (want := want.take k) ⟨ht0, ht1⟩ (fun y hy => hwa y (List.mem_of_mem_take hy)) (by rw [List.length_take]; omega)
      have hx := hwa _ (List.getElem_mem hkl)
      have hdk := dec_len (n := want[k].toNat) (by omega)
      subst hH
      simp only [e32, bs_app, bs_size]
      refine ⟨by simp only [List.length_cons, List.length_nil]; omega, ad, had, by omega, by omega, want[k], (RdSl.rdi hw2 had (i := ((k : Nat) : Int).toNat) (by rw [Int.toNat_natCast]; exact hg)), ?_⟩
      refine digits_c hx.1 (by omega) ⟨_, rfl, by simp only [bs_size, List.length_append, List.length_cons, List.length_nil]; omega, ⟨by omega, by omega⟩, m - 1, by omega, gi ⟨rfl, by omega, by omega, ?_⟩⟩
      rw [bs_app, show want.length - (m - 1) = k + 1 by omega, bs_inj]
      rw [List.take_add_one, hg]
      simp only [lineB, List.flatMap_append, Option.toList_some, List.flatMap_cons, List.flatMap_nil, List.append_nil, List.cons_append, List.append_assoc, List.nil_append]
    · have : m = 0 := by omega
      subst this
      exact gi ⟨by simp, rfl⟩
  rintro _ _ _ ⟨rfl, rfl⟩
  subst hH
  have hsl := sumB_lt (lineB W t want)
  have hdl := dec_len (n := sumB (lineB W t want)) (by omega)
  have e10 : ByteArray.mk (List.toArray [(10 : UInt8)]) = bs [10] := rfl
  simp only [f12_J2, add_mk', Nat.zero_add, Nat.add_zero, e10, e32, bs_app, bs_size]
  have hm26 : bkE r26 sf' sc' sh' ∈ own ++ [dE r1 sf sc sh x.l x.n] ++ [dE r3 nilV nilV nilV [] 0] ++ bkE r26 sf' sc' sh' :: [] := by simp
  refine ⟨sf', bkE_0 hm26, sc', bkE_1 hm26, sh', bkE_2 hm26, rfl, rfl, ?_⟩
  refine wro own (dE r1 sf sc sh x.l x.n) ([dE r3 nilV nilV nilV [] 0] ++ bkE r26 sf' sc' sh' :: []) ⟨rfl, rfl, rfl, trivial⟩ (by simp) rfl (by simp [dE]) ?_
  rw [show (⟨(dE r1 sf sc sh x.l x.n).aid, spl (dE r1 sf sc sh x.l x.n).cells 0 [.slice sf'.a sf'.len sf'.cap, .slice sc'.a sc'.len sc'.cap, .slice sh'.a sh'.len sh'.cap], (dE r1 sf sc sh x.l x.n).cap⟩ : Ent) = dE r1 sf' sc' sh' x.l x.n from rfl]
  refine ⟨bs x.l, dE_rd (r := r1) (sf := sf') (sc := sc') (sh := sh') (l := x.l) (n := x.n) (by simp) 3 rfl, by rw [bs_size]; omega, ?_⟩
  simp only [bs_app, bs_size]
  refine ⟨by simp only [List.length_append, List.length_cons, List.length_nil]; omega, dsum_c (by omega) ⟨OwnExt.rfl' _, _, rfl, digits_c (by omega) (by omega) ⟨OwnExt.rfl' _, _, rfl, ?_⟩⟩⟩
  rw [Int.toNat_natCast]
  simp only [bs_app, bs_size]
  refine ⟨by simp only [List.length_append, List.length_cons, List.length_nil]; omega, by simp only [List.length_append, List.length_cons, List.length_nil]; omega, ?_⟩
  have e1 : x.l ++ lineB W t want ++ [32] ++ Lib.decDigits (sumB (lineB W t want)) ++ [10] = x.l ++ lineF (lineB W t want) := by simp [lineF]
  rw [e1]
  refine wro own (dE r1 sf' sc' sh' x.l x.n) ([dE r3 nilV nilV nilV [] 0] ++ bkE r26 sf' sc' sh' :: []) ⟨rfl, trivial⟩ rfl rfl (by simp [dE]) ?_
  rw [show (⟨(dE r1 sf' sc' sh' x.l x.n).aid, spl (dE r1 sf' sc' sh' x.l x.n).cells 3 [.string (bs (x.l ++ lineF (lineB W t want)))], (dE r1 sf' sc' sh' x.l x.n).cap⟩ : Ent) = dE r1 sf' sc' sh' (x.l ++ lineF (lineB W t want)) x.n from rfl]
  refine ⟨(x.n : Int), dE_rd (r := r1) (sf := sf') (sc := sc') (sh := sh') (l := x.l ++ lineF (lineB W t want)) (n := x.n) (by simp) 4 rfl, ⟨by omega, by omega⟩, ?_⟩
  refine wro own (dE r1 sf' sc' sh' (x.l ++ lineF (lineB W t want)) x.n) ([dE r3 nilV nilV nilV [] 0] ++ bkE r26 sf' sc' sh' :: []) ⟨rfl, trivial⟩ rfl rfl (by simp [dE]) ?_
  rw [show (⟨(dE r1 sf' sc' sh' (x.l ++ lineF (lineB W t want)) x.n).aid, spl (dE r1 sf' sc' sh' (x.l ++ lineF (lineB W t want)) x.n).cells 4 [.int .i64 ((x.n : Int) + 1)], (dE r1 sf' sc' sh' (x.l ++ lineF (lineB W t want)) x.n).cap⟩ : Ent) = dE r1 sf' sc' sh' (x.l ++ lineF (lineB W t want)) ((x.n : Int) + 1) from rfl]
  have hmz : dE r1 sf' sc' sh' (x.l ++ lineF (lineB W t want)) ((x.n : Int) + 1) ∈ own ++ dE r1 sf' sc' sh' (x.l ++ lineF (lineB W t want)) ((x.n : Int) + 1) :: ([dE r3 nilV nilV nilV [] 0] ++ bkE r26 sf' sc' sh' :: []) := by simp
  refine ⟨sf', dE_rd hmz 0 rfl, sc', dE_rd hmz 1 rfl, sh', dE_rd hmz 2 rfl, _, dE_rd hmz 3 rfl, _, dE_rd hmz 4 rfl, rfl, rfl, ?_⟩
  refine wro (own ++ [dE r1 sf' sc' sh' (x.l ++ lineF (lineB W t want)) ((x.n : Int) + 1)]) (dE r3 nilV nilV nilV [] 0) (bkE r26 sf' sc' sh' :: []) ⟨rfl, rfl, rfl, rfl, rfl, trivial⟩ (by simp) rfl (by simp [dE]) ?_
  rw [show (⟨(dE r3 nilV nilV nilV [] 0).aid, spl (dE r3 nilV nilV nilV [] 0).cells 0 [.slice sf'.a sf'.len sf'.cap, .slice sc'.a sc'.len sc'.cap, .slice sh'.a sh'.len sh'.cap, .string (bs (x.l ++ lineF (lineB W t want))), .int .i64 ((x.n : Int) + 1)], (dE r3 nilV nilV nilV [] 0).cap⟩ : Ent) = dE r3 sf' sc' sh' (x.l ++ lineF (lineB W t want)) ((x.n : Int) + 1) from rfl]
  have hmy : dE r3 sf' sc' sh' (x.l ++ lineF (lineB W t want)) ((x.n : Int) + 1) ∈ own ++ [dE r1 sf' sc' sh' (x.l ++ lineF (lineB W t want)) ((x.n : Int) + 1)] ++ dE r3 sf' sc' sh' (x.l ++ lineF (lineB W t want)) ((x.n : Int) + 1) :: (bkE r26 sf' sc' sh' :: []) := by simp
  refine ⟨sf', dE_rd hmy 0 rfl, sc', dE_rd hmy 1 rfl, sh', dE_rd hmy 2 rfl, _, dE_rd hmy 3 rfl, _, dE_rd hmy 4 rfl, ⟨⟨own, ro'⟩, Gh.drop (by simp), ?_⟩⟩
  have := hk sf' sc' sh' ro' m' (by rw [hb]; exact hb')
  rw [hb, h0, ← hW] at this
  exact this
end Go.Proofs.YtnppmcgmmdcpiaaDoor
