import Derived.Test.YtnppmcgmmdcpiaaDoorBq
namespace Go.Proofs.YtnppmcgmmdcpiaaDoor
open Go.Eng
set_option maxRecDepth 20000
/-! ### BookPlays -/
theorem OwnExt.same {own : List Ent} {ro ro' : Addr → Option Value} : OwnExt ⟨own, ro⟩ ⟨own, ro'⟩ := ⟨[], by simp⟩
theorem drop2 {h : H} {s : SV} {xs : List Value} (r : RdSl h s xs) (hn : 2 ≤ s.len) (hc : s.len ≤ s.cap) : RdSl h ⟨if s.cap = (2 : Int).toNat then s.a else Option.map (fun z => Addr.add z ((2 : Int).toNat * 1)) s.a, s.len - (2 : Int).toNat, s.cap - (2 : Int).toNat⟩ (xs.drop 2) := r.drop hn hc
def plA (T r1 : Nat) (sf sc sh : SV) (r14 : Nat) (x5 x6 x7 : SV) (x : Bo) : List Ent := [shE 1 T 20, bkE r1 sf sc sh, dE r14 x5 x6 x7 x.l x.n]
def plI (T r1 : Nat) (sf sc sh ss : SV) (r14 r : Nat) (ro : Addr → Option Value) (m : Nat) (i : Int) (h : H) : Prop :=
  ∃ (k : Nat) (x : Bo) (s : BkS) (x5 x6 x7 : SV) (ro2 : Addr → Option Value), i = (k : Int) ∧ k ≤ ss.len ∧ m = ss.len - k ∧ (∀ a v, ro a = some v → ro2 a = some v) ∧ BkRd ⟨[], ro2⟩ x5 x6 x7 x.b ∧ BOO s x ro2 ∧ s.r = r ∧ h = ⟨plA T r1 sf sc sh r14 x5 x6 x7 x ++ boL s, ro2⟩
theorem plI.mk' {T r1 : Nat} {sf sc sh ss : SV} {r14 r : Nat} {ro : Addr → Option Value} {k : Nat} {x : Bo} {s : BkS} {x5 x6 x7 : SV} {ro2 : Addr → Option Value} (hk : k ≤ ss.len) (m : ∀ a v, ro a = some v → ro2 a = some v) (hx : BkRd ⟨[], ro2⟩ x5 x6 x7 x.b) (hB : BOO s x ro2) (hr : s.r = r) {i : Int} (hi : i = (k : Int)) :
    plI T r1 sf sc sh ss r14 r ro (ss.len - k) i ⟨plA T r1 sf sc sh r14 x5 x6 x7 x ++ boL s, ro2⟩ := ⟨k, x, s, x5, x6, x7, ro2, hi, hk, rfl, m, hx, hB, hr, rfl⟩
theorem plA_d {T r1 : Nat} {sf sc sh : SV} {r14 : Nat} {x5 x6 x7 : SV} {x : Bo} {X : List Ent} : dE r14 x5 x6 x7 x.l x.n ∈ plA T r1 sf sc sh r14 x5 x6 x7 x ++ X := by simp [plA]
theorem plA_t {T r1 : Nat} {sf sc sh : SV} {r14 : Nat} {x5 x6 x7 : SV} {x : Bo} {X : List Ent} : shE 1 T 20 ∈ plA T r1 sf sc sh r14 x5 x6 x7 x ++ X := by simp [plA]

/-- behind an ask: what is told, put down and left is the document's -/
theorem play_J1 {T r1 : Nat} {sf sc sh ss : SV} {r14 r0 : Nat} {ro ro4 : Addr → Option Value} {post : Value → H → Prop} (hG : HasErrT ro) {k : Nat} (hkl : k < ss.len) (hk70 : k < 70) {y : Bo} {s' : BkS} {y5 y6 y7 : SV} {e64 : Ent} {code : Int}
    (m4' : ∀ a v, ro a = some v → ro4 a = some v) (hy : BkRd ⟨[], ro4⟩ y5 y6 y7 y.b) (hB' : BOO s' y ro4) (hrr : s'.r = r0) :
    f4_J1 post r14 (some (Addr.mk r0 0 none)) (plI T r1 sf sc sh ss r14 r0 ro) (ss.len - k) (k : Int) code (eno 60 code) ⟨plA T r1 sf sc sh r14 y5 y6 y7 y ++ (boL s' ++ [e64]), ro4⟩ := by
  simp only [f4_J1, add_mk', Nat.zero_add, Nat.add_zero]
  subst hrr
  refine ⟨fun c h => c = false ∧ ∃ ro5, (∀ a v, ro4 a = some v → ro5 a = some v) ∧ h = ⟨plA T r1 sf sc sh r14 y5 y6 y7 y ++ (boL s' ++ [e64]), ro5⟩, says_same' (hG.up m4') rfl ⟨_, rfl, VIf_nb (nomatch ·) (fun _ => ?_)⟩, ?_⟩
  · refine ⟨bs y.l, dE_rd plA_d 3 rfl, text_c hB' _ _ rfl ⟨OwnExt.same, _, rfl, VIf_nb (fun hc => by simp at hc) (fun _ => ?_)⟩⟩
    refine ⟨y5, dE_rd plA_d 0 rfl, y6, dE_rd plA_d 1 rfl, y7, dE_rd plA_d 2 rfl, bank_ro hB' _ _ rfl (fun z5 z6 z7 ro5 m5 hz => ⟨OwnExt.same, z5, z6, z7, rfl, ?_⟩)⟩
    exact same_banks_c (hz.mono (by simp) (fun _ _ h => h)) (hy.mono (by simp) (fun a v h => m5 a v h)) hB'.sh.sml (fun _ => ⟨true, rfl, gi ⟨rfl, ro5, m5, rfl⟩⟩) (fun h => absurd rfl h)
  · rintro _ c _ ⟨rfl, ro5, m5, rfl⟩
    refine VIf_b (nomatch ·) (fun _ => ⟨⟨by omega, by omega⟩, ss.len - (k + 1), by omega, ⟨⟨plA T r1 sf sc sh r14 y5 y6 y7 y ++ boL s', ro5⟩, Gh.drop ?_, plI.mk' (by omega) (fun a v h => m5 a v (m4' a v h)) (hy.mono (by simp) (fun a v h => m5 a v h)) (hB'.up m5) rfl (by omega)⟩⟩)
    exact List.Sublist.append_left (List.sublist_append_left _ _) _

set_option maxHeartbeats 800000 in
/-- one ask of a row -/
theorem play_J2 {T r1 : Nat} {sf sc sh ss : SV} {rows : List (SV × List Int)} {r14 r0 : Nat} {ro ro2 : Addr → Option Value} {post : Value → H → Prop} {R : H → Prop} (hG : HasErrT ro) (hT : HasTab ro) (hs : RdRowsOf ⟨[], ro⟩ ss rows) (hcap : ∀ r ∈ rows, r.1.len ≤ r.1.cap)
    {k : Nat} (hkl : k < ss.len) (hk70 : k < 70) {x : Bo} {s : BkS} {x5 x6 x7 : SV} (m2 : ∀ a v, ro a = some v → ro2 a = some v) (hx : BkRd ⟨[], ro2⟩ x5 x6 x7 x.b) (hB : BOO s x ro2) (hr : s.r = r0) :
    f4_J2 ss post r14 (some (Addr.mk r0 0 none)) R (plI T r1 sf sc sh ss r14 r0 ro) (ss.len - k) (k : Int) true ⟨plA T r1 sf sc sh r14 x5 x6 x7 x ++ boL s, ro2⟩ := by
  simp only [f4_J2, add_mk', Nat.zero_add, Nat.add_zero]
  refine VIf_b (fun _ => ?_) (nomatch ·)
  have hs2 : RdRowsOf ⟨plA T r1 sf sc sh r14 x5 x6 x7 x ++ boL s, ro2⟩ ss rows := hs.mono (by simp) m2
  refine hs2.idx (by omega) (by omega) (fun t xs hg hxt => VIf_dec (fun h2 => ⟨⟨by omega, by omega⟩, ss.len - (k + 1), by omega, gi (plI.mk' (by omega) m2 hx hB hr (by omega))⟩) (fun h2 => ?_))
  rw [Int.toNat_natCast] at hg
  have htc := hcap _ (List.mem_of_getElem? hg)
  have htr : RdSl ⟨[], ro⟩ t (ints xs) := hs.2 _ (List.mem_of_getElem? hg)
  have htl := htr.len
  rw [ints_length] at htl
  clear hs2 hxt hg hs hcap
  obtain ⟨a, tk, want, rfl⟩ : ∃ a tk want, xs = a :: tk :: want := by
    match xs, htl with
    | [], h => simp at h; omega
    | [_], h => simp at h; omega
    | a :: tk :: want, _ => exact ⟨a, tk, want, rfl⟩
  obtain ⟨ad, had⟩ := htr.addr (by simp)
  have htX : ∀ {X ro4}, (∀ a v, ro2 a = some v → ro4 a = some v) → RdSl ⟨X, ro4⟩ t (ints (a :: tk :: want)) := fun {X ro4} m => htr.mono (by simp) (fun a v h => m a v (m2 a v h))
  have hwX : ∀ {X ro4}, (∀ a v, ro2 a = some v → ro4 a = some v) → RdSl ⟨X, ro4⟩ ⟨if t.cap = (2 : Int).toNat then t.a else Option.map (fun z => Addr.add z ((2 : Int).toNat * 1)) t.a, t.len - (2 : Int).toNat, t.cap - (2 : Int).toNat⟩ (ints want) := fun {X ro4} m => drop2 (htX m) (by omega) htc
  obtain ⟨sw, hsw⟩ : ∃ sw : SV, (⟨if t.cap = (2 : Int).toNat then t.a else Option.map (fun z => Addr.add z ((2 : Int).toNat * 1)) t.a, t.len - (2 : Int).toNat, t.cap - (2 : Int).toNat⟩ : SV) = sw := ⟨_, rfl⟩
  have hsv : Value.slice (if t.cap = (2 : Int).toNat then t.a else Option.map (fun z => Addr.add z ((2 : Int).toNat * 1)) t.a) (t.len - (2 : Int).toNat) (t.cap - (2 : Int).toNat) = Value.slice sw.a sw.len sw.cap := by rw [← hsw]
  rw [hsw] at hwX
  simp only [hsv]
  clear hsv hsw
  have e0 : ∀ {X ro4}, (∀ a v, ro2 a = some v → ro4 a = some v) → H.rd ⟨X, ro4⟩ (Addr.add (Addr.add ad ((0 : Int).toNat * 1)) 0) (.int .i64 a) := fun {X ro4} m => RdSl.rdi (htX m) had (i := (0 : Int).toNat) rfl
  have e1 : ∀ {X ro4}, (∀ a v, ro2 a = some v → ro4 a = some v) → H.rd ⟨X, ro4⟩ (Addr.add (Addr.add ad ((1 : Int).toNat * 1)) 0) (.int .i64 tk) := fun {X ro4} m => RdSl.rdi (htX m) had (i := (1 : Int).toNat) rfl
  have id2 : ∀ a v, ro2 a = some v → ro2 a = some v := fun _ _ h => h
  have l20 : (0 : Int) < ((t.len : Nat) : Int) := by omega
  have l21 : (1 : Int) < ((t.len : Nat) : Int) := by omega
  have l22 : (2 : Int) ≤ ((t.len : Nat) : Int) := by omega
  clear htX htr htl h2
  refine ⟨ad, had, Int.le_refl _, l20, ad, had, by decide, l21, by decide, l22, x5, dE_rd plA_d 0 rfl, x6, dE_rd plA_d 1 rfl, x7, dE_rd plA_d 2 rfl, _, dE_rd plA_d 3 rfl, _, dE_rd plA_d 4 rfl, a, e0 id2, tk, e1 id2, ?_⟩
  refine dput_c (a != 0) hx hB.n60 hB.ll (hwX id2) (fun y5 y6 y7 ro3' m3' hy => ⟨OwnExt.same, y5, y6, y7, _, _, _, rfl, ?_⟩)
  generalize hcd : bcode x (a != 0) tk want = code
  generalize hy' : bput x (a != 0) tk want = y at hy
  intro r64 _
  refine ⟨rfl, rfl, wro (plA T r1 sf sc sh r14 x5 x6 x7 x ++ boL s) ⟨some r64, [Value.slice none 0 0, .slice none 0 0, .slice none 0 0, .string ByteArray.empty, .int .i64 0], 5⟩ [] ⟨rfl, rfl, rfl, rfl, rfl, trivial⟩ rfl rfl (by simp) ?_⟩
  have E64 : (⟨some r64, spl [Value.slice none 0 0, .slice none 0 0, .slice none 0 0, .string ByteArray.empty, .int .i64 0] 0 [.slice y5.a y5.len y5.cap, .slice y6.a y6.len y6.cap, .slice y7.a y7.len y7.cap, .string (bs y.l), .int .i64 (y.n : Int)], 5⟩ : Ent) = dE r64 y5 y6 y7 y.l y.n := rfl
  rw [E64]
  have h64 : dE r64 y5 y6 y7 y.l y.n ∈ plA T r1 sf sc sh r14 x5 x6 x7 x ++ boL s ++ dE r64 y5 y6 y7 y.l y.n :: [] := by simp
  refine ⟨y5, dE_rd h64 0 rfl, y6, dE_rd h64 1 rfl, y7, dE_rd h64 2 rfl, _, dE_rd h64 3 rfl, _, dE_rd h64 4 rfl, rfl, rfl, ?_⟩
  refine wro [shE 1 T 20, bkE r1 sf sc sh] (dE r14 x5 x6 x7 x.l x.n) (boL s ++ dE r64 y5 y6 y7 y.l y.n :: []) ⟨rfl, rfl, rfl, rfl, rfl, trivial⟩ (by simp [plA]) rfl (by simp [dE]) ?_
  have E14 : [shE 1 T 20, bkE r1 sf sc sh] ++ (⟨(dE r14 x5 x6 x7 x.l x.n).aid, spl (dE r14 x5 x6 x7 x.l x.n).cells 0 [.slice y5.a y5.len y5.cap, .slice y6.a y6.len y6.cap, .slice y7.a y7.len y7.cap, .string (bs y.l), .int .i64 (y.n : Int)], (dE r14 x5 x6 x7 x.l x.n).cap⟩ : Ent) :: (boL s ++ dE r64 y5 y6 y7 y.l y.n :: []) = plA T r1 sf sc sh r14 y5 y6 y7 y ++ (boL s ++ [dE r64 y5 y6 y7 y.l y.n]) := rfl
  rw [E14]
  generalize dE r64 y5 y6 y7 y.l y.n = e64
  have m3 : ∀ a v, ro a = some v → ro3' a = some v := fun a v h => m3' a v (m2 a v h)
  have hTm : shE 1 T 20 ∈ plA T r1 sf sc sh r14 y5 y6 y7 y ++ [e64] := plA_t
  refine ⟨ad, had, Int.le_refl _, l20, a, e0 m3', ?_⟩
  refine ⟨fun o h => o = eno 60 code ∧ ∃ s' ro4, (∀ a v, ro3' a = some v → ro4 a = some v) ∧ BOO s' y ro4 ∧ s'.r = s.r ∧ h = ⟨plA T r1 sf sc sh r14 y5 y6 y7 y ++ (boL s' ++ [e64]), ro4⟩, VIf_ne (fun ha => ?_) (fun ha => ?_), ?_⟩
  · have hab : (a != 0) = true := by simp [ha]
    rw [hab] at hy' hcd
    rw [← hr]
    refine ⟨ad, had, by decide, l21, tk, e1 m3', by decide, l22, back_c _ _ rfl hTm (hT.up m3) (hB.up m3') (hwX m3') (fun s' ro4 m4 hB' hr' => ⟨_, rfl, _, rfl, gi ⟨by rw [hcd], s', ro4, m4, ?_, hr', rfl⟩⟩)⟩
    rw [← hy']
    exact hB'
  · have hab : (a != 0) = false := by simp [ha]
    rw [hab] at hy' hcd
    rw [← hr]
    refine ⟨ad, had, by decide, l21, tk, e1 m3', by decide, l22, ask_c _ _ rfl hTm (hT.up m3) (hB.up m3') (hwX m3') (fun s' ro4 m4 hB' hr' => ⟨_, rfl, _, rfl, gi ⟨by rw [hcd], s', ro4, m4, ?_, hr', rfl⟩⟩)⟩
    rw [← hy']
    exact hB'
  · rintro _ o _ ⟨rfl, s', ro4, m4, hB', hr', rfl⟩
    exact play_J1 hG hkl hk70 (fun a v h => m4 a v (m3 a v h)) (hy.mono (by simp) m4) hB' (hr'.trans hr)

set_option maxHeartbeats 800000 in
theorem bookPlays_c {b : Bk} {sf sc sh ss : SV} {rows : List (SV × List Int)} {ro : Addr → Option Value} {post : Value → H → Prop} {T : Nat} (hG : HasErrT ro) (hT : HasTab ro) (hb : BkRd ⟨[], ro⟩ sf sc sh b) (hs : RdRowsOf ⟨[], ro⟩ ss rows) (hcap : ∀ r ∈ rows, r.1.len ≤ r.1.cap) (hpost : ∀ h, post (.bool true) h) :
    SemCall Tryd.prog 4 (List.toArray [bkV sf sc sh, .slice ss.a ss.len ss.cap]) ⟨[shE 1 T 20], ro⟩ post := by
  refine f4_call sf sc sh ss _ post ?_
  intro r1 _
  simp only [add_mk', Nat.zero_add, Nat.add_zero]
  rw [show (⟨some r1, [Value.slice sf.a sf.len sf.cap, .slice sc.a sc.len sc.cap, .slice sh.a sh.len sh.cap], List.length [Value.slice sf.a sf.len sf.cap, .slice sc.a sc.len sc.cap, .slice sh.a sh.len sh.cap]⟩ : Ent) = bkE r1 sf sc sh from rfl]
  have hbX : ∀ {X ro2}, (∀ a v, ro a = some v → ro2 a = some v) → BkRd ⟨X, ro2⟩ sf sc sh b := fun {X ro2} m => hb.mono (by simp) m
  have hE : bkE r1 sf sc sh ∈ [shE 1 T 20] ++ [bkE r1 sf sc sh] := by simp
  have hE2 : ∀ {e : Ent}, bkE r1 sf sc sh ∈ [shE 1 T 20] ++ [bkE r1 sf sc sh] ++ [e] := fun {e} => by simp
  have w14 : ∀ (r14 : Nat) (x y z : SV) (l : List UInt8) (n : Int) (ro2 : Addr → Option Value) (K : H → Prop), K ⟨[shE 1 T 20] ++ [bkE r1 sf sc sh] ++ [dE r14 x y z l n], ro2⟩ →
      H.wr ⟨[shE 1 T 20] ++ [bkE r1 sf sc sh] ++ [⟨some r14, [Value.slice none 0 0, .slice none 0 0, .slice none 0 0, .string ByteArray.empty, .int .i64 0], List.length [Value.slice none 0 0, .slice none 0 0, .slice none 0 0, .string ByteArray.empty, .int .i64 0]⟩], ro2⟩ (Addr.mk r14 0 none) [.slice x.a x.len x.cap, .slice y.a y.len y.cap, .slice z.a z.len z.cap, .string (bs l), .int .i64 n] K := by
    intro r14 x y z l n ro2 K hK
    exact wro ([shE 1 T 20] ++ [bkE r1 sf sc sh]) ⟨some r14, [Value.slice none 0 0, .slice none 0 0, .slice none 0 0, .string ByteArray.empty, .int .i64 0], 5⟩ [] ⟨rfl, rfl, rfl, rfl, rfl, trivial⟩ rfl rfl (by simp) hK
  have told : ∀ (e : Int) (r14 : Nat) (x : Ent) (ro2 : Addr → Option Value), (∀ a v, ro a = some v → ro2 a = some v) → f4_J4 ss post e r14 none (eno 60 e) true ⟨[shE 1 T 20] ++ [bkE r1 sf sc sh] ++ [x], ro2⟩ := by
    intro e r14 x ro2 m
    exact VIf_b (fun _ => says_same' (hG.up m) rfl ⟨_, rfl, ret (hpost _)⟩) (nomatch ·)
  refine ⟨sf, bkE_0 hE, sc, bkE_1 hE, sh, bkE_2 hE, dnew_c hb (fun hz => ⟨nilV, nilV, nilV, bs [], 0, _, rfl, ?_⟩) (fun ho hr ro2 m2 => ⟨nilV, nilV, nilV, bs [], 0, _, rfl, ?_⟩) (fun ho hr ro2 m2 => ⟨sf, sc, sh, bs [], 0, _, rfl, ?_⟩)⟩
  · intro r14 _
    refine ⟨rfl, rfl, w14 r14 nilV nilV nilV [] 0 ro _ ?_⟩
    refine ⟨sf, bkE_0 hE2, sc, bkE_1 hE2, sh, bkE_2 hE2, new_c (hbX (fun _ _ h => h)) (fun _ => ⟨none, _, rfl, join_b true (VIf_ne (fun _ => gi ⟨rfl, rfl⟩) (fun h => absurd h hz)) (told _ _ _ _ (fun _ _ h => h))⟩) (fun ho _ => absurd (bcheck_zero.2 ho) hz) (fun ho _ => absurd (bcheck_zero.2 ho) hz)⟩
  · intro r14 _
    refine ⟨rfl, rfl, w14 r14 nilV nilV nilV [] 0 ro2 _ ?_⟩
    refine ⟨sf, bkE_0 hE2, sc, bkE_1 hE2, sh, bkE_2 hE2, new_c (hbX m2) (fun hz => absurd (bcheck_zero.2 ho) hz) (fun _ _ => ⟨none, _, rfl, join_b true (VIf_ne (fun _ => gi ⟨rfl, rfl⟩) (fun h => by cases h)) (told 7 _ _ _ m2)⟩) (fun _ h => absurd hr h)⟩
  intro r14 _
  refine ⟨rfl, rfl, w14 r14 sf sc sh [] 0 ro2 _ ?_⟩
  refine ⟨sf, bkE_0 hE2, sc, bkE_1 hE2, sh, bkE_2 hE2, new_c (hbX m2) (fun hz => absurd (bcheck_zero.2 ho) hz) (fun _ h => absurd h hr) (fun _ _ s0 ro3 m3 hB0 => ⟨_, none, rfl, join_b false (VIf_ne (fun h => absurd rfl h) (fun _ => ⟨rfl, gi ⟨rfl, rfl⟩⟩)) (VIf_b (nomatch ·) (fun _ => ?_))⟩)⟩
  have mm0 : ∀ a v, ro a = some v → ro3 a = some v := fun a v h => m3 a v (m2 a v h)
  refine ⟨fun _ => True, ⟨plI T r1 sf sc sh ss r14 s0.r ro, ⟨ss.len - 0, gi (plI.mk' (x := ⟨b, [], 0⟩) (Nat.zero_le _) mm0 (hbX mm0) hB0 rfl rfl)⟩, ?_⟩, fun _ _ _ => ret (hpost _)⟩
  rintro m _ i _ ⟨k, x, s, x5, x6, x7, ro4, rfl, hk, rfl, m4, hx, hB, hr', rfl⟩
  by_cases hkl : k < ss.len ∧ k < 70
  · exact join_b true (VIf_dec (fun _ => gi ⟨rfl, decide_eq_true (by have := hkl.2; omega)⟩) (fun h => by omega)) (play_J2 hG hT hs hcap hkl.1 hkl.2 m4 hx hB hr')
  · refine join_b false (VIf_dec (fun h => gi ⟨rfl, ?_⟩) (fun _ => gi ⟨rfl, rfl⟩)) (VIf_b (nomatch ·) (fun _ => gi trivial))
    have : ¬ k < 70 := fun h70 => hkl ⟨by omega, h70⟩
    simp; omega
end Go.Proofs.YtnppmcgmmdcpiaaDoor
