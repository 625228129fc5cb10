import Derived.Test.YtnepjdobknjecaaDoorB7
import Derived.Test.YtnepjdobknjecaaDoorTl
import Derived.Test.YtnepjdobknjecaaDoorEngM
namespace Go.Proofs.YtnepjdobknjecaaDoor
open Go.Eng
set_option maxRecDepth 20000
/-! ### the bank: the laws -/
theorem bcheck_ne7 (b : Bk) : bcheck b ≠ 7 := by
  intro h
  unfold bcheck at h
  (repeat' split at h) <;> cases h
theorem basked_ne7 (b : Bk) (t : Int) (want : List Int) : basked b t want ≠ 7 := by
  intro h
  unfold basked at h
  split at h
  · exact bcheck_ne7 b h
  · (repeat' split at h) <;> cases h
theorem bask_seven {b : Bk} {t : Int} {want : List Int} (h : bask b t want = 7) : BAsk b t want ∧ BOk (bmv b t.toNat want 1) ∧ brow (bmv b t.toNat want 1) = none := by
  unfold bask at h
  split at h
  · exact absurd h (basked_ne7 b t want)
  rename_i h0
  have hA := basked_zero (Classical.byContradiction h0)
  split at h
  · cases h
  rename_i h1
  split at h
  · cases h
  rename_i h2
  split at h
  · rename_i h3
    exact ⟨hA, bask_mv hA (fun k hk => Classical.byContradiction fun hc => h1 ⟨k, hk, by omega⟩) (fun k hk => Classical.byContradiction fun hc => h2 ⟨k, hk, by omega⟩), h3⟩
  · cases h
theorem bask_nil {b : Bk} {t : Int} {want : List Int} (h : bask b t want = 0) : ∃ r, brow (bmv b t.toNat want 1) = some r := by
  unfold bask at h
  split at h
  · rename_i h0; exact absurd h h0
  split at h
  · cases h
  split at h
  · cases h
  split at h
  · cases h
  · rename_i h3
    exact Option.ne_none_iff_exists'.1 h3
set_option maxHeartbeats 800000 in
theorem bankRow_c {b : Bk} {sf sc sh sx : SV} {xs : List Int} {ro : Addr → Option Value} {post : Value → H → Prop} (hG : HasErrT ro) (hb : BkRd ⟨[], ro⟩ sf sc sh b) (hx : RdSl ⟨[], ro⟩ sx (ints xs)) (hpost : ∀ h, post (.bool true) h) :
    SemCall Tryd.prog 3 (List.toArray [bkV sf sc sh, .slice sx.a sx.len sx.cap]) ⟨[], ro⟩ post := by
  refine f3_call sf sc sh sx _ post ?_
  intro r1 _
  refine bank_fact_c hG (fun ro1 m1 => ⟨true, rfl, VIf_nb (nomatch ·) (fun _ => ?_)⟩)
  simp only [add_mk', Nat.zero_add, Nat.add_zero]
  have hb : ∀ {X}, BkRd ⟨X, ro1⟩ sf sc sh b := fun {X} => hb.mono (by simp) m1
  have hx : ∀ {X}, RdSl ⟨X, ro1⟩ sx (ints xs) := fun {X} => hx.mono (by simp) m1
  have hE : ∀ {X}, bkE r1 sf sc sh ∈ [] ++ bkE r1 sf sc sh :: X := fun {X} => by simp
  have hE0 : bkE r1 sf sc sh ∈ [] ++ [bkE r1 sf sc sh] := by simp
  have sxl := (hx (X := [])).len
  rw [ints_length] at sxl
  refine ⟨sf, bkE_0 hE0, sc, bkE_1 hE0, sh, bkE_2 hE0, bank_safe_c hb (fun hc => ⟨false, nilV, _, rfl, VIf_nerr (fun _ => ?_) (fun h => absurd h hc)⟩) (fun ho hr => ⟨false, nilV, none, rfl, VIf_nnil ?_⟩) (fun r s' e' ho hr o => ⟨true, s', none, rfl, VIf_nnil ?_⟩)⟩
  · exact join_b (h := ⟨[] ++ [bkE r1 sf sc sh], ro1⟩) true (VIf_nb (fun _ => gi ⟨rfl, rfl⟩) (nomatch ·)) (ret (hpost _))
  · refine join_b (h := ⟨[] ++ [bkE r1 sf sc sh], ro1⟩) false (VIf_b (nomatch ·) (fun _ => gi ⟨rfl, rfl⟩)) (VIf_b (nomatch ·) (fun _ => ?_))
    refine ⟨sf, bkE_0 hE0, sc, bkE_1 hE0, sh, bkE_2 hE0, law_ends_c hb hx ho (fun hrow => ?_) (fun _ => ⟨false, rfl, VIf_nb (fun _ => ret (hpost _)) (nomatch ·)⟩)⟩
    obtain ⟨l, _, hl⟩ := hrow
    obtain ⟨r, h1, _⟩ := brow_of ho hl
    rw [h1] at hr; cases hr
  · have hEm : bkE r1 sf sc sh ∈ [] ++ [bkE r1 sf sc sh] ++ [e'] := by simp
    have hrs : RdSl ⟨[] ++ [bkE r1 sf sc sh] ++ [e'], ro1⟩ s' (ints (r.map Int.ofNat)) := RdSl.of_own (e := e') (by simp) o
    have sl := o.sl_len
    rw [ints_length, nats_len] at sl
    refine join_b (h := ⟨[] ++ [bkE r1 sf sc sh] ++ [e'], ro1⟩) false (VIf_b (fun _ => ?_) (nomatch ·)) (VIf_b (nomatch ·) (fun _ => ?_))
    · refine ⟨sf, bkE_0 hEm, sc, bkE_1 hEm, sh, bkE_2 hEm, law_ends_c hb hrs ho (fun _ => ⟨true, rfl, gi ⟨rfl, rfl⟩⟩) (fun hn => absurd ⟨r, rfl, brow_row hr⟩ hn)⟩
    refine ⟨sf, bkE_0 hEm, sc, bkE_1 hEm, sh, bkE_2 hEm, law_ends_c hb hx ho (fun hrow => ⟨true, rfl, VIf_nb (nomatch ·) (fun _ => VIf_nb (nomatch ·) (fun _ => ?_))⟩) (fun _ => ⟨false, rfl, VIf_nb (fun _ => ret (hpost _)) (nomatch ·)⟩)⟩
    obtain ⟨l, rfl, hl⟩ := hrow
    obtain ⟨r', h1, hbr, hle⟩ := brow_of ho hl
    rw [hr] at h1
    cases h1
    have ll := hl.len
    have lr := hbr.len
    rw [nats_len] at sxl
    refine ⟨fun h => True, ⟨fun n i h => ∃ k : Nat, i = (k : Int) ∧ k ≤ r.length ∧ n = r.length - k ∧ h = ⟨[] ++ [bkE r1 sf sc sh] ++ [e'], ro1⟩ ∧ r.take k = l.take k, ⟨_, gi ⟨0, rfl, Nat.zero_le _, rfl, rfl, by simp⟩⟩, ?_⟩, ?_⟩
    rotate_left
    · rintro _ h _; exact ret (hpost _)
    rintro n _ i _ ⟨k, rfl, hk, rfl, rfl, ht⟩
    refine VIf_dec (fun hi => ?_) (fun hi => gi trivial)
    have hm5 := ho.m5
    have kr : k < r.length := by omega
    have kl : k < l.length := by omega
    have er : gI (r.map Int.ofNat) k = (r[k] : Int) := gI_at2 (by rw [List.getElem?_map, List.getElem?_eq_getElem kr]; rfl)
    have el : gI (l.map Int.ofNat) k = (l[k] : Int) := gI_at2 (by rw [List.getElem?_map, List.getElem?_eq_getElem kl]; rfl)
    refine idxG hrs (by omega) (by rw [nats_len]; omega) (idxG hx (by omega) (by rw [nats_len]; omega) ?_)
    rw [Int.toNat_natCast, er, el]
    refine VIf_ne (fun hne => ?_) (fun he => ⟨⟨by omega, by omega⟩, r.length - (k + 1), by omega, gi ⟨k + 1, by omega, by omega, rfl, rfl, ?_⟩⟩)
    · refine idxG hrs (by omega) (by rw [nats_len]; omega) (idxG hx (by omega) (by rw [nats_len]; omega) ?_)
      rw [Int.toNat_natCast, er, el]
      have := hle k _ _ ht (List.getElem?_eq_getElem kr) (List.getElem?_eq_getElem kl) (by omega)
      rw [decide_eq_true (by omega)]
      exact ret (hpost _)
    · rw [List.take_add_one, List.take_add_one, ht, List.getElem?_eq_getElem kr, List.getElem?_eq_getElem kl, show r[k] = l[k] by omega]
set_option maxHeartbeats 800000 in
theorem bankMore_c {b : Bk} {sf sc sh : SV} {k more : Int} {ro : Addr → Option Value} {post : Value → H → Prop} (hG : HasErrT ro) (hb : BkRd ⟨[], ro⟩ sf sc sh b) (hpost : ∀ h, post (.bool true) h) :
    SemCall Tryd.prog 4 (List.toArray [bkV sf sc sh, .int .i64 k, .int .i64 more]) ⟨[], ro⟩ post := by
  refine f4_call sf sc sh k more _ post ?_
  intro r1 _
  refine bank_fact_c hG (fun ro1 m1 => ⟨true, rfl, VIf_nb (nomatch ·) (fun _ => ?_)⟩)
  simp only [add_mk', Nat.zero_add, Nat.add_zero]
  have hb : ∀ {X}, BkRd ⟨X, ro1⟩ sf sc sh b := fun {X} => hb.mono (by simp) m1
  have fl := (hb (X := [])).fl
  have hE0 : bkE r1 sf sc sh ∈ [] ++ [bkE r1 sf sc sh] := by simp
  -- behind the first answer
  have rest : ∀ (is : Bool) (sl : SV) (X : List Ent) (l : List Nat), BOk b → X = bkE r1 sf sc sh :: X.tail → (is = true → ∃ e ∈ X, brow b = some l ∧ OwnsSl 1 sl e (ints (l.map Int.ofNat))) →
      ∃ R14 : Bool → H → Prop, (∃ x15 : SV, H.rd ⟨X, ro1⟩ (Addr.mk r1 0 none) (.slice x15.a x15.len x15.cap) ∧ In64 (((x15.len : Nat) : Int) - 1) ∧ SemCall Tryd.prog 12 (List.toArray [.int .i64 k, .int .i64 0, .int .i64 (((x15.len : Nat) : Int) - 1)]) ⟨X, ro1⟩ fun v16 h17 =>
        ∃ x18 : Bool, v16 = .bool x18 ∧ VIf (!x18) (∃ h19, Gh h17 h19 ∧ R14 true h19) (SemCall Tryd.prog 12 (List.toArray [.int .i64 more, .int .i64 0, .int .i64 100]) h17 fun v20 h21 => ∃ x22 : Bool, v20 = .bool x22 ∧ (∃ h23, Gh h21 h23 ∧ R14 (!x22) h23))) ∧
      ∀ (_ : F) (x24 : Bool) (h25 : H), R14 x24 h25 → f4_J2 k more post r1 is sl x24 h25 := by
    intro is sl X l ho hX hl
    have hE : bkE r1 sf sc sh ∈ X := by rw [hX]; simp
    have hn3 := ho.n3
    refine join_b (h := ⟨X, ro1⟩) (decide (¬ ((0 ≤ k ∧ k < b.free.length) ∧ (0 ≤ more ∧ more ≤ 100)))) ⟨sf, bkE_0 hE, ⟨by omega, by omega⟩, in_i (fun hc => ⟨_, rfl, VIf_nb (fun _ => gi ⟨rfl, (decide_eq_true (by omega)).symm⟩) (nomatch ·)⟩) (fun c0 c1 => ⟨_, rfl, VIf_nb (nomatch ·) (fun _ => in_c ⟨_, rfl, gi ⟨rfl, ?_⟩⟩)⟩)⟩ (VIf_dec (fun _ => ret (hpost _)) (fun hc => ?_))
    · by_cases h : 0 ≤ more ∧ more ≤ 100
      · rw [decide_eq_true h, decide_eq_false (by omega)]; rfl
      · rw [decide_eq_false h, decide_eq_true (p := ¬ ((0 ≤ k ∧ k < b.free.length) ∧ (0 ≤ more ∧ more ≤ 100))) (fun hh => h hh.2)]; rfl
    obtain ⟨⟨k0, k1⟩, o0, o1⟩ := Classical.byContradiction hc
    simp only [add_mk', Nat.zero_add, Nat.add_zero]
    refine ⟨sc, bkE_1 hE, sh, bkE_2 hE, ?_⟩
    intro r28 _
    refine ⟨rfl, rfl, ?_⟩
    refine wro X ⟨some r28, [Value.slice none 0 0, .slice none 0 0, .slice none 0 0], 3⟩ [] ⟨rfl, rfl, rfl, trivial⟩ rfl rfl (by simp) ?_
    have hE28 : (⟨some r28, spl [Value.slice none 0 0, .slice none 0 0, .slice none 0 0] 0 [.slice none 0 0, .slice sc.a sc.len sc.cap, .slice sh.a sh.len sh.cap], 3⟩ : Ent) = bkE r28 nilV sc sh := rfl
    rw [hE28]
    have hm1 : bkE r1 sf sc sh ∈ X ++ [bkE r28 nilV sc sh] := by simp [hE]
    refine ⟨nilV, bkE_0 (r := r28) (sf := nilV) (sc := sc) (sh := sh) (by simp), sf, bkE_0 hm1, app_new hb.f (by omega) (fun s' e' o l9 _ => ?_)⟩
    refine wro X (bkE r28 nilV sc sh) [e'] ⟨rfl, trivial⟩ (by simp) rfl (by simp [bkE]) ?_
    have hE29 : (⟨(bkE r28 nilV sc sh).id, spl (bkE r28 nilV sc sh).cells 0 [.slice s'.a s'.len s'.cap], (bkE r28 nilV sc sh).cap⟩ : Ent) = bkE r28 s' sc sh := rfl
    rw [hE29]
    have hkk : k.toNat < b.free.length := by omega
    have hf := ho.f k.toNat hkk
    have hro : RdSl ⟨X ++ bkE r28 s' sc sh :: [e'], ro1⟩ s' (ints b.free) := RdSl.of_own (e := e') (by simp) o
    refine ⟨s', bkE_0 (r := r28) (sc := sc) (sh := sh) (by simp), s', bkE_0 (r := r28) (sc := sc) (sh := sh) (by simp), idxG hro k0 k1 ⟨⟨by omega, by omega⟩, wr_at (X ++ [bkE r28 s' sc sh]) e' [] (by simp) o k0 (by omega) (fun e2 o2 _ => ?_)⟩⟩
    have hcat : X ++ [bkE r28 s' sc sh] ++ e2 :: [] = X ++ [bkE r28 s' sc sh, e2] := by simp
    rw [hcat]
    have hm28 : bkE r28 s' sc sh ∈ X ++ [bkE r28 s' sc sh, e2] := by simp
    have hb2 : BkRd ⟨X ++ [bkE r28 s' sc sh, e2], ro1⟩ s' sc sh (bmore b k.toNat more) := ⟨RdSl.of_own (e := e2) (by simp) o2, hb.c, hb.h⟩
    have hm1' : ∀ {Y}, bkE r1 sf sc sh ∈ X ++ [bkE r28 s' sc sh, e2] ++ Y := fun {Y} => by simp [hE]
    refine ⟨s', bkE_0 hm28, sc, bkE_1 hm28, sh, bkE_2 hm28, bank_safe_c hb2 (fun hc => ⟨false, nilV, _, rfl, VIf_nerr (fun _ => ?_) (fun h => absurd h hc)⟩) (fun ho2 hr => ⟨false, nilV, none, rfl, VIf_nnil ?_⟩) (fun r s2 e3 ho2 hr o3 => ⟨true, s2, none, rfl, VIf_nnil ?_⟩)⟩
    · refine ⟨sf, bkE_0 (by simpa using hm1' (Y := [])), idxG hb.f k0 k1 ⟨⟨by omega, by omega⟩, ?_⟩⟩
      have : gI b.free k.toNat + more > 1000 := Classical.byContradiction fun hle => hc (bcheck_zero.2 (bmore_ok ho hkk o0 (by omega)))
      rw [decide_eq_true this]
      exact ret (hpost _)
    · refine VIf_nb (fun _ => ret (hpost _)) (fun his => ?_)
      obtain ⟨e, _, hbr, _⟩ := hl his
      obtain ⟨r', h1, _⟩ := brow_of ho2 (bmore_row hkk o0 (brow_row hbr))
      rw [h1] at hr; cases hr
    · refine VIf_nb (fun _ => ret (hpost _)) (fun his => ?_)
      obtain ⟨e, hem, hbr, oe⟩ := hl his
      have hrow := brow_row hbr
      obtain ⟨r', h1, hr2, hle⟩ := brow_of ho2 (bmore_row hkk o0 hrow)
      rw [hr] at h1
      cases h1
      have l1 := hrow.len
      have l2 : r.length = b.claim.length := hr2.len
      have z1 := oe.sl_len
      have z2 := o3.sl_len
      rw [ints_length, nats_len] at z1 z2
      have hm5 := ho.m5
      refine join_b (h := ⟨X ++ [bkE r28 s' sc sh, e2] ++ [e3], ro1⟩) false (VIf_nb (nomatch ·) (fun _ => gi ⟨rfl, ?_⟩)) (VIf_b (nomatch ·) (fun _ => ?_))
      · simp; omega
      have g1 : RdSl ⟨X ++ [bkE r28 s' sc sh, e2] ++ [e3], ro1⟩ sl (ints (l.map Int.ofNat)) := RdSl.of_own (e := e) (by simp [hem]) oe
      have g2 : RdSl ⟨X ++ [bkE r28 s' sc sh, e2] ++ [e3], ro1⟩ s2 (ints (r.map Int.ofNat)) := RdSl.of_own (e := e3) (by simp) o3
      refine ⟨fun h => True, ⟨fun n i h => ∃ k : Nat, i = (k : Int) ∧ k ≤ l.length ∧ n = l.length - k ∧ h = ⟨X ++ [bkE r28 s' sc sh, e2] ++ [e3], ro1⟩ ∧ r.take k = l.take k, ⟨_, gi ⟨0, rfl, Nat.zero_le _, rfl, rfl, by simp⟩⟩, ?_⟩, ?_⟩
      rotate_left
      · rintro _ h _; exact ret (hpost _)
      rintro n _ i _ ⟨j, rfl, hj, rfl, rfl, ht⟩
      refine VIf_dec (fun hi => ?_) (fun hi => gi trivial)
      have kr : j < r.length := by omega
      have kl : j < l.length := by omega
      have er : gI (r.map Int.ofNat) j = (r[j] : Int) := gI_at2 (by rw [List.getElem?_map, List.getElem?_eq_getElem kr]; rfl)
      have el : gI (l.map Int.ofNat) j = (l[j] : Int) := gI_at2 (by rw [List.getElem?_map, List.getElem?_eq_getElem kl]; rfl)
      refine idxG g2 (by omega) (by rw [nats_len]; omega) (idxG g1 (by omega) (by rw [nats_len]; omega) ?_)
      rw [Int.toNat_natCast, er, el]
      refine VIf_ne (fun hne => ?_) (fun he => ⟨⟨by omega, by omega⟩, l.length - (j + 1), by omega, gi ⟨j + 1, by omega, by omega, rfl, rfl, ?_⟩⟩)
      · refine idxG g2 (by omega) (by rw [nats_len]; omega) (idxG g1 (by omega) (by rw [nats_len]; omega) ?_)
        rw [Int.toNat_natCast, er, el]
        have := hle j _ _ ht (List.getElem?_eq_getElem kr) (List.getElem?_eq_getElem kl) (by omega)
        rw [decide_eq_true (by omega)]
        exact ret (hpost _)
      · rw [List.take_add_one, List.take_add_one, ht, List.getElem?_eq_getElem kr, List.getElem?_eq_getElem kl, show r[j] = l[j] by omega]
  refine ⟨sf, bkE_0 hE0, sc, bkE_1 hE0, sh, bkE_2 hE0, bank_safe_c hb (fun hc => ⟨false, nilV, _, rfl, VIf_nerr (fun _ => ret (hpost _)) (fun h => absurd h hc)⟩) (fun ho hr => ⟨false, nilV, none, rfl, VIf_nnil ?_⟩) (fun r s' e' ho hr o => ⟨true, s', none, rfl, VIf_nnil ?_⟩)⟩
  · exact rest false nilV _ [] ho rfl (fun h => by cases h)
  · exact rest true s' _ r ho rfl (fun _ => ⟨e', by simp, hr, o⟩)
set_option maxHeartbeats 800000 in
theorem bankKeeps_c {b : Bk} {sf sc sh sw : SV} {t : Int} {want : List Int} {ro : Addr → Option Value} {post : Value → H → Prop} (hG : HasErrT ro) (hb : BkRd ⟨[], ro⟩ sf sc sh b) (hw : RdSl ⟨[], ro⟩ sw (ints want)) (hpost : ∀ h, post (.bool true) h) :
    SemCall Tryd.prog 6 (List.toArray [bkV sf sc sh, .int .i64 t, .slice sw.a sw.len sw.cap]) ⟨[], ro⟩ post := by
  refine f6_call sf sc sh t sw _ post ?_
  intro r1 _
  refine bank_fact_c hG (fun ro1 m1 => ⟨true, rfl, VIf_nb (nomatch ·) (fun _ => ?_)⟩)
  simp only [add_mk', Nat.zero_add, Nat.add_zero]
  have hb : BkRd ⟨[], ro1⟩ sf sc sh b := hb.mono (by simp) m1
  have hw : RdSl ⟨[], ro1⟩ sw (ints want) := hw.mono (by simp) m1
  have hbX : ∀ {X ro2}, (∀ a v, ro1 a = some v → ro2 a = some v) → BkRd ⟨X, ro2⟩ sf sc sh b := fun {X ro2} m => hb.mono (by simp) m
  have hwX : ∀ {X ro2}, (∀ a v, ro1 a = some v → ro2 a = some v) → RdSl ⟨X, ro2⟩ sw (ints want) := fun {X ro2} m => hw.mono (by simp) m
  have hE0 : bkE r1 sf sc sh ∈ [] ++ [bkE r1 sf sc sh] := by simp
  refine ⟨sf, bkE_0 hE0, sc, bkE_1 hE0, sh, bkE_2 hE0, bank_ask_c (hbX (fun _ _ h => h)) (hwX (fun _ _ h => h)) (fun hne ro2 m2 => ⟨nilV, nilV, nilV, _, rfl, ?_⟩) (fun h0 hA ho2 sf' sc' sh' ro2 m2 hb2 => ⟨sf', sc', sh', none, rfl, ?_⟩)⟩
  · intro r15 _
    refine ⟨rfl, rfl, ?_⟩
    refine wro _ ⟨some r15, [Value.slice none 0 0, .slice none 0 0, .slice none 0 0], 3⟩ [] ⟨rfl, rfl, rfl, trivial⟩ rfl rfl (by simp) ?_
    refine VIf_nerr (fun _ => ?_) (fun h => absurd h hne)
    refine same_error_c (HasErrT.up hG (fun a v h => m2 a v (m1 a v h))) ⟨_, rfl, VIf_not (fun _ => ret (hpost _)) (fun h7 => ?_)⟩
    obtain ⟨hA, ho2, hr⟩ := bask_seven h7
    have hE2 : ∀ {e : Ent}, bkE r1 sf sc sh ∈ [] ++ [bkE r1 sf sc sh] ++ [e] := fun {e} => by simp
    refine ⟨sf, bkE_0 hE2, sc, bkE_1 hE2, sh, bkE_2 hE2, ref4_moved_c (hbX m2) (hwX m2) hA.ok hA.t0 hA.t1 hA.l hA.w (.inl rfl) (fun sf2 sc2 sh2 ro3 m3 hb3 => ⟨sf2, sc2, sh2, rfl, ?_⟩)⟩
    refine bank_safe_c (hb3.mono (by simp) (fun _ _ h => h)) (fun hc => absurd (bcheck_zero.2 ho2) hc) (fun _ _ => ⟨false, nilV, none, rfl, ?_⟩) (fun r s' e' _ h => by rw [hr] at h; cases h)
    exact ⟨fun x _ => x = true, VIf_nil (gi rfl), fun _ x h hx => by subst hx; exact ret (hpost _)⟩
  · obtain ⟨r, hr⟩ := bask_nil h0
    intro r15 _
    refine ⟨rfl, rfl, ?_⟩
    refine wro _ ⟨some r15, [Value.slice none 0 0, .slice none 0 0, .slice none 0 0], 3⟩ [] ⟨rfl, rfl, rfl, trivial⟩ rfl rfl (by simp) ?_
    have hE15 : (⟨some r15, spl [Value.slice none 0 0, .slice none 0 0, .slice none 0 0] 0 [.slice sf'.a sf'.len sf'.cap, .slice sc'.a sc'.len sc'.cap, .slice sh'.a sh'.len sh'.cap], 3⟩ : Ent) = bkE r15 sf' sc' sh' := rfl
    rw [hE15]
    refine VIf_nnil ?_
    have hm15 : ∀ {Y}, bkE r15 sf' sc' sh' ∈ [] ++ [bkE r1 sf sc sh] ++ bkE r15 sf' sc' sh' :: Y := fun {Y} => by simp
    have hm15' : ∀ {Y : List Ent}, bkE r15 sf' sc' sh' ∈ [] ++ [bkE r1 sf sc sh] ++ bkE r15 sf' sc' sh' :: [] ++ Y := fun {Y} => by simp
    refine ⟨sf', bkE_0 hm15, sc', bkE_1 hm15, sh', bkE_2 hm15, bank_safe_c (hb2.mono (by simp) (fun _ _ h => h)) (fun hc => absurd (bcheck_zero.2 ho2) hc) (fun _ h => by rw [hr] at h; cases h) (fun r' s' e' _ hr' o => ⟨true, s', none, rfl, ?_⟩)⟩
    have hlen : (bmv b t.toNat want 1).claim.length = b.claim.length := rfl
    have hA2 : BAsk (bmv b t.toNat want 1) t want := ⟨ho2, hA.t0, hA.t1, by rw [bmv_fl]; exact hA.l, fun k hk => hA.w k (by rwa [bmv_fl] at hk)⟩
    have htl : t.toNat < b.has.length := by have := hA.t0; have := hA.t1; have := hA.ok.hl; omega
    have hbk : bback (bmv b t.toNat want 1) t want = 0 := by
      rw [bback, if_neg (fun hc => hc (basked_of hA2)), if_neg]
      rintro ⟨k, hk, hc⟩
      have hk' : k < b.free.length := by rw [← hA.l]; exact hk
      rw [bmv_has htl hk', if_pos rfl] at hc
      have := (hA.ok.c t.toNat k (by have := hA.t0; have := hA.t1; omega) hk').2.1
      omega
    refine ⟨sf', bkE_0 hm15', sc', bkE_1 hm15', sh', bkE_2 hm15', bank_back_c (hb2.mono (by simp) (fun _ _ h => h)) (hwX m2) (fun hne => absurd hbk hne) (fun _ _ sf3 sc3 sh3 ro3 m3 hb3 => ⟨sf3, sc3, sh3, none, rfl, ?_⟩)⟩
    rw [bmv_back hA.ok (by have := hA.t0; have := hA.t1; omega)] at hb3
    intro r56 _
    refine ⟨rfl, rfl, ?_⟩
    refine wro _ ⟨some r56, [Value.slice none 0 0, .slice none 0 0, .slice none 0 0], 3⟩ [] ⟨rfl, rfl, rfl, trivial⟩ rfl rfl (by simp) ?_
    have hE56 : (⟨some r56, spl [Value.slice none 0 0, .slice none 0 0, .slice none 0 0] 0 [.slice sf3.a sf3.len sf3.cap, .slice sc3.a sc3.len sc3.cap, .slice sh3.a sh3.len sh3.cap], 3⟩ : Ent) = bkE r56 sf3 sc3 sh3 := rfl
    rw [hE56]
    have hm56 : bkE r56 sf3 sc3 sh3 ∈ [] ++ [bkE r1 sf sc sh] ++ bkE r15 sf' sc' sh' :: [] ++ [e'] ++ bkE r56 sf3 sc3 sh3 :: [] := by simp
    have hm1 : bkE r1 sf sc sh ∈ [] ++ [bkE r1 sf sc sh] ++ bkE r15 sf' sc' sh' :: [] ++ [e'] ++ bkE r56 sf3 sc3 sh3 :: [] := by simp
    have mm := fun a v h => m3 a v (m2 a v h)
    refine join_b (h := ⟨[] ++ [bkE r1 sf sc sh] ++ bkE r15 sf' sc' sh' :: [] ++ [e'] ++ bkE r56 sf3 sc3 sh3 :: [], ro3⟩) false (VIf_nnil (VIf_nb (nomatch ·) (fun _ => VIf_nnil ?_))) (VIf_b (nomatch ·) (fun _ => ?_))
    · refine ⟨sf3, bkE_0 hm56, sc3, bkE_1 hm56, sh3, bkE_2 hm56, sf, bkE_0 hm1, sc, bkE_1 hm1, sh, bkE_2 hm1, same_banks_c (hb3.mono (by simp) (fun _ _ h => h)) (hbX mm) hA.ok.sml (fun _ => ⟨true, rfl, gi ⟨rfl, rfl⟩⟩) (fun h => absurd rfl h)⟩
    obtain ⟨r2, hr2, _⟩ := brow_of hA.ok (bmv_safe hA.ok (t := t.toNat) (want := want) (by have := hA.t0; have := hA.t1; omega) (fun k hk => (hA.w k hk).1) (brow_row hr))
    simp only [add_mk', Nat.zero_add, Nat.add_zero]
    refine ⟨sf, bkE_0 hm1, sc, bkE_1 hm1, sh, bkE_2 hm1, bank_safe_c (hbX mm) (fun hc => absurd (bcheck_zero.2 hA.ok) hc) (fun _ h => by rw [hr2] at h; cases h) (fun r3 s3 e3 _ _ _ => ⟨true, s3, none, rfl, ?_⟩)⟩
    exact ⟨fun x _ => x = true, VIf_nil (gi rfl), fun _ x h hx => by subst hx; exact ret (hpost _)⟩
/-! ### a bank that came in -/
theorem in_bank {K : Type} {enc : TypeId × Value → K} {W : World} {v : Value} {d : DataW K} {ps : List MemPlace} (hv : Value.okWide Tryd.prog W .any 0 25 v) (h : DataW.Trod enc Tryd.prog W 0 (fun _ => true) true 25 v d ps) :
    ∃ (sf sc sh : SV) (b : Bk), v = bkV sf sc sh ∧ BkRd ⟨[], W.cell?⟩ sf sc sh b := by
  obtain ⟨s, sc, sh, xs, rc, rh, rfl, h1, h2, h3⟩ := in_three (e := 3) Tryd.underlying25 ⟨rfl, rfl, rfl⟩ rfl rfl rfl rfl rfl Tryd.underlying22 Tryd.underlying3 rfl Tryd.underlying23 hv h
  exact ⟨s, sc, sh, ⟨xs, rc.map Prod.snd, rh.map Prod.snd⟩, rfl, h1, ⟨rc, h2, rfl⟩, ⟨rh, h3, rfl⟩⟩
end Go.Proofs.YtnepjdobknjecaaDoor
