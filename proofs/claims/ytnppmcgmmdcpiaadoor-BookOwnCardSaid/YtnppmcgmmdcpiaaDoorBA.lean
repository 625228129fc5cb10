import Derived.Test.YtnppmcgmmdcpiaaDoorB9
namespace Go.Proofs.YtnppmcgmmdcpiaaDoor
open Go.Eng
set_option maxRecDepth 20000
/-! ### the document's bank: rows -/
theorem app_row2 {P : Program} {t e : TypeId} {sz : Nat} (g : Grows P t e sz) {s : SV} {K : SV → H → Prop} {vs : List Value} {r : Nat} {c : Nat} (hl : vs.length = sz) (h1 : allOne vs)
    (A : List Ent) (en : Ent) (C : List Ent) {own : List Ent} {xs : List Value} {ro : Addr → Option Value} (hr : (⟨some r, vs, c⟩ : Ent) ∈ own) (hs : (A ++ en :: C).Sublist own) (ho : OwnsSl sz s en xs) (hb : s.len + 1 ≤ 1000000000)
    (hk : ∀ (s' : SV) (en' : Ent), OwnsSl sz s' en' (xs ++ vs) → s'.len = s.len + 1 → K s' ⟨A ++ en' :: C, ro⟩) :
    appVC P t (.slice s.a s.len s.cap) (.slice (some (Addr.mk r 0 none)) 1 1) ⟨own, ro⟩ K := by
  refine appVC_of (s2 := ⟨some (Addr.mk r 0 none), 1, 1⟩) g (ys := vs) (by simp [hl]) ?_ h1 (by simp) (Gh.drop (own' := A ++ en :: C) hs) ho hb (fun s' en' o1 o2 _ _ hid => hk s' en' o1 o2)
  intro j v hv
  rw [add_mk']
  exact rdo ⟨some r, vs, c⟩ hr rfl (by simpa using hv)
structure Shp (b : Bk) (t : Nat) : Prop where
  n : b.free.length ≤ 3
  m : b.has.length ≤ 5
  tc : t < b.claim.length
  th : t < b.has.length
  lc : ((b.claim[t]?).getD []).length = b.free.length
  lh : ((b.has[t]?).getD []).length = b.free.length
  f : ∀ k, k < b.free.length → 0 ≤ gI b.free k ∧ gI b.free k ≤ 100000
  c : ∀ k, k < b.free.length → 0 ≤ g2 b.claim t k ∧ g2 b.claim t k ≤ 1000
  h : ∀ k, k < b.free.length → 0 ≤ g2 b.has t k ∧ g2 b.has t k ≤ 1000
set_option maxHeartbeats 800000 in
theorem ref4_ended_c {b : Bk} {sf sc sh : SV} {t : Nat} {own : List Ent} {ro : Addr → Option Value} {post : Value → H → Prop} (hb : BkRd ⟨[], ro⟩ sf sc sh b) (hs : Shp b t)
    (h1 : bends b b.free t = false → post (.tuple (List.toArray [bkV sf sc sh, .bool false])) ⟨own, ro⟩)
    (h2 : bends b b.free t = true → ∀ sf' sh' ro', (∀ a v, ro a = some v → ro' a = some v) → BkRd ⟨[], ro'⟩ sf' sc sh' (bended b t) → post (.tuple (List.toArray [bkV sf' sc sh', .bool true])) ⟨own, ro'⟩) :
    SemCall Tryd.prog 44 (List.toArray [bkV sf sc sh, .int .i64 t]) ⟨own, ro⟩ post := by
  refine SemCall.wf fun hwf => ?_
  refine f44_call sf sc sh t _ post ?_
  intro r1 hf1 r3 hf3
  simp only [add_mk', Nat.zero_add, Nat.add_zero]
  obtain ⟨hn, hm, htc, hth, hlc, hlh, hf, hc, hh⟩ := hs
  have fl := hb.fl
  have cl := hb.cl
  have hl := hb.hl
  obtain ⟨E3, hE3⟩ : ∃ E3 : Ent, E3 = ⟨some r3, [Value.slice none 0 0, .slice none 0 0, .slice none 0 0], 3⟩ := ⟨_, rfl⟩
  have hE3' : (⟨some r3, [Value.slice none 0 0, .slice none 0 0, .slice none 0 0], List.length [Value.slice none 0 0, .slice none 0 0, .slice none 0 0]⟩ : Ent) = E3 := by rw [hE3]; rfl
  have hE1' : (⟨some r1, [Value.slice sf.a sf.len sf.cap, .slice sc.a sc.len sc.cap, .slice sh.a sh.len sh.cap], List.length [Value.slice sf.a sf.len sf.cap, .slice sc.a sc.len sc.cap, .slice sh.a sh.len sh.cap]⟩ : Ent) = bkE r1 sf sc sh := rfl
  have w1 := Wf.add (e := bkE r1 sf sc sh) hwf hf1 rfl
  rw [hE1'] at hf3
  have w3 := Wf.add (e := E3) w1 hf3 (by rw [hE3]; rfl)
  have hc2 : own ++ [bkE r1 sf sc sh] ++ [E3] = own ++ [bkE r1 sf sc sh, E3] := by simp
  rw [hc2] at w3
  rw [hE1', hE3', hc2]
  have hup : ∀ {own}, BkRd ⟨own, ro⟩ sf sc sh b := fun {X} => hb.mono (by simp) (fun _ _ h => h)
  have hE : ∀ {X : List Ent}, bkE r1 sf sc sh ∈ own ++ bkE r1 sf sc sh :: X := fun {X} => by simp
  refine ⟨fun s h => ∃ ef, h = ⟨own ++ [bkE r1 sf sc sh, E3, ef], ro⟩ ∧ Wf h ∧ OwnsSl 1 s ef (ints (badd b b.free t)) ∧ bends b b.free t = true,
    ⟨fun n s x h => ∃ (k : Nat) (ef : Ent), x = (k : Int) ∧ k ≤ b.free.length ∧ n = b.free.length - k ∧ h = ⟨own ++ [bkE r1 sf sc sh, E3, ef], ro⟩ ∧ Wf h ∧ OwnsSl 1 s ef (ints ((List.range k).map fun k => gI b.free k + g2 b.has t k)) ∧ ∀ j, j < k → g2 b.claim t j - g2 b.has t j ≤ gI b.free j,
      ⟨_, ⟨own ++ [bkE r1 sf sc sh, E3, ⟨none, [], 0⟩], ro⟩, by simpa using Gh.phantom (own ++ [bkE r1 sf sc sh, E3]) [] ro 0, 0, _, rfl, Nat.zero_le _, rfl, rfl, by simpa using Wf.ph (A := own ++ [bkE r1 sf sc sh, E3]) (C := []) (by simpa using w3), OwnsSl.nil 1, fun j hj => by omega⟩, ?_⟩, ?_⟩
  · rintro n _ s x _ ⟨k, ef, rfl, hk', rfl, rfl, hw2, oF, hall⟩
    have lF := oF.sl_len
    rw [ints_length, List.length_map, List.length_range] at lF
    simp only [f44_L1, add_mk', Nat.zero_add, Nat.add_zero]
    refine ⟨sf, bkE_0 hE, VIf_dec (fun hi => ?_) (fun hi => gi ⟨ef, rfl, hw2, ?_, bends_iff.2 fun j hj => hall j (by omega)⟩)⟩
    rotate_left
    · have : k = b.free.length := by omega
      subst this; exact oF
    have hkf : k < b.free.length := by omega
    have h5 := hf k hkf
    have h6 := hc k hkf
    have h7 := hh k hkf
    have e1 : gI ((b.claim[((t : Nat) : Int).toNat]?).getD []) ((k : Nat) : Int).toNat = g2 b.claim t k := rfl
    have e2 : gI ((b.has[((t : Nat) : Int).toNat]?).getD []) ((k : Nat) : Int).toNat = g2 b.has t k := rfl
    refine ⟨sc, bkE_1 hE, hup.ca (by omega) (by omega) fun xc hxc hlc' => idxG hxc (by omega) (by rw [Int.toNat_natCast]; omega) ⟨sh, bkE_2 hE, hup.ha (by omega) (by omega) fun xh hxh hlh' => idxG hxh (by omega) (by rw [Int.toNat_natCast]; omega) ?_⟩⟩
    rw [e1, e2]
    refine ⟨⟨by omega, by omega⟩, sf, bkE_0 hE, idxG hup.f (by omega) (by omega) ?_⟩
    rw [Int.toNat_natCast]
    refine VIf_dec (fun hgt => ?_) (fun hle => ?_)
    · have hbf : bends b b.free t = false := by
        cases hbe : bends b b.free t with
        | false => rfl
        | true => have := bends_iff.1 hbe k hkf; omega
      refine ⟨sf, bkE_0 hE, sc, bkE_1 hE, sh, bkE_2 hE, rfl, rfl, ?_⟩
      refine bk_out (cs := [Value.slice none 0 0, .slice none 0 0, .slice none 0 0]) (own ++ [bkE r1 sf sc sh]) [ef] (by simp [hE3]) rfl ?_
      exact ⟨⟨own, ro⟩, Gh.drop (by simp), h1 hbf⟩
    refine ⟨sf, bkE_0 hE, idxG hup.f (by omega) (by omega) ⟨sh, bkE_2 hE, hup.ha (by omega) (by omega) fun xh hxh hlh' => idxG hxh (by omega) (by rw [Int.toNat_natCast]; omega) ?_⟩⟩
    rw [e2, Int.toNat_natCast]
    refine ⟨⟨by omega, by omega⟩, ?_⟩
    refine app_rowW grows_ints (vs := [.int .i64 (gI b.free k + g2 b.has t k)]) rfl ⟨rfl, trivial⟩ (own ++ [bkE r1 sf sc sh, E3]) ef [] (by simp) oF hw2 (by omega) (fun s2 ef2 oF2 lF2 hw3 => ?_)
    have hc5 : own ++ [bkE r1 sf sc sh, E3] ++ ef2 :: [] = own ++ [bkE r1 sf sc sh, E3, ef2] := by simp
    rw [hc5] at hw3 ⊢
    refine ⟨⟨by omega, by omega⟩, b.free.length - (k + 1), by omega, gi ⟨k + 1, ef2, by omega, by omega, rfl, rfl, hw3, by simpa [List.range_succ, ints, intV] using oF2, fun j hj => ?_⟩⟩
    by_cases he : j = k
    · subst he; omega
    · exact hall j (by omega)
  rintro _ s _ ⟨ef, rfl, hw2, oF, hbe⟩
  have lF := oF.sl_len
  rw [ints_length, badd_len] at lF
  obtain ⟨rh, rh1, rh2⟩ := hb.h
  have rhl : rh.length = b.has.length := by rw [← rh2]; simp
  have rhs : rh.map (fun r => Value.slice r.1.a r.1.len r.1.cap) = (rh.map Prod.fst).map svV := by rw [List.map_map]; rfl
  simp only [f44_J2, add_mk', Nat.zero_add, Nat.add_zero]
  refine ⟨sh, bkE_2 hE, app_newW grows_rows (vs := (rh.map Prod.fst).map svV) (by rw [← rhs]; exact rh1.1.mono (by simp) (fun _ _ h => h)) (allOne_svV _) hw2 (by omega) (fun s2 e2 o2 l2 hw3 => ?_)⟩
  have hl2 := o2.sl_len
  rw [List.length_map, List.length_map] at hl2
  refine ⟨by omega, by omega, by omega, by omega, ?_⟩
  intro r53 hf53
  rw [repl_ints, Int.toNat_natCast]
  obtain ⟨E53, hE53⟩ : ∃ E53 : Ent, E53 = ⟨some r53, ints (List.replicate s.len 0), s.len⟩ := ⟨_, rfl⟩
  have hE53' : (⟨some r53, ints (List.replicate s.len 0), (ints (List.replicate s.len 0)).length⟩ : Ent) = E53 := by rw [hE53]; simp
  have hw4 := hw3.add (e := E53) hf53 (by rw [hE53]; rfl)
  rw [hE53']
  have o53 : OwnsSl 1 ⟨some (Addr.mk r53 0 none), s.len, s.len⟩ E53 (ints (List.replicate b.free.length 0)) := by
    rw [hE53, ← lF]
    exact OwnsSl.at0 1 (by simp) (by omega) (by unfold maxLen; omega)
  refine wr_atM (f := svV) (v := ⟨some (Addr.mk r53 0 none), s.len, s.len⟩) (fun _ => rfl) (own ++ [bkE r1 sf sc sh, E3, ef]) e2 [E53] (by simp) o2 (by omega) (by omega) (fun e3 o3 hid => ?_)
  rw [Int.toNat_natCast] at o3
  have hw5 : Wf ⟨own ++ [bkE r1 sf sc sh, E3, ef] ++ e3 :: [E53], ro⟩ := hw4.ids (by simp [hid])
  refine ⟨sc, bkE_1 (r := r1) (sf := sf) (sh := sh) (by simp), rfl, rfl, ?_⟩
  refine bk_out (sf := s) (sc := sc) (sh := s2) (cs := [Value.slice none 0 0, .slice none 0 0, .slice none 0 0]) (own ++ [bkE r1 sf sc sh]) [ef, e3, E53] (by simp [hE3]) rfl ?_
  have hw6 : Wf ⟨own ++ [ef, e3, E53], ro⟩ := hw5.sub (by
    simp only [List.append_assoc]
    refine List.Sublist.append_left ?_ _
    exact .cons _ (.cons _ (List.Sublist.refl _)))
  obtain ⟨ro', g, mo, rd⟩ := frzE (own := own) _ ro hw6
  refine ⟨⟨own, ro'⟩, (Gh.drop ?_).trans g, h2 hbe s s2 ro' mo ⟨rd ef (by simp) _ _ oF, ?_, ?_⟩⟩
  · rw [List.append_assoc]
    refine List.Sublist.append_left ?_ _
    exact .cons _ (.cons _ (List.Sublist.refl _))
  · obtain ⟨rc, c1, c2⟩ := hb.c
    exact ⟨rc, c1.mono (by simp) mo, c2⟩
  · refine ⟨rh.set t (⟨some (Addr.mk r53 0 none), s.len, s.len⟩, List.replicate b.free.length 0), ⟨?_, fun r hr => ?_⟩, by rw [List.map_set, rh2]; rfl⟩
    · have e : (rh.set t (⟨some (Addr.mk r53 0 none), s.len, s.len⟩, List.replicate b.free.length 0)).map (fun r => Value.slice r.1.a r.1.len r.1.cap) = ((rh.map Prod.fst).set t ⟨some (Addr.mk r53 0 none), s.len, s.len⟩).map svV := by
        rw [List.map_set, List.map_set, List.map_map]; rfl
      rw [e]
      exact rd e3 (by simp) _ _ o3
    · rcases mem_set_cases hr with rfl | ⟨j, _, hj⟩
      · exact rd E53 (by simp) _ _ o53
      · exact (rh1.2 r (List.mem_of_getElem? hj)).mono (by simp) mo
def SfRes (b0 : Bk) (n : Nat) (told : List Nat) (s : SV) (ro : Addr → Option Value) : Prop :=
  (∀ r, bgo b0 n told (bfree b0 told) = some r → RdSl ⟨[], ro⟩ s (ints (r.map Int.ofNat))) ∧ (bgo b0 n told (bfree b0 told) = none → s.len < b0.claim.length)
theorem bgo_len {b : Bk} {n : Nat} {out r : List Nat} (hn : out.length + n = b.claim.length) (hd : out.Nodup) (hl : ∀ t ∈ out, t < b.claim.length) (h : bgo b n out (bfree b out) = some r) : r.length = b.claim.length := by
  obtain ⟨l, rfl, hc⟩ := bgo_out hn hd hl h
  rw [List.length_append]; exact hc.len
set_option maxHeartbeats 1600000 in
theorem ref4_safeFrom_c {b0 : Bk} (ho : BOk b0) : ∀ (n : Nat) {b : Bk} {told : List Nat} {sf sc sh st : SV} {own : List Ent} {ro : Addr → Option Value} {post : Value → H → Prop}, told.length + n = b0.claim.length → told.Nodup → (∀ t ∈ told, t < b0.claim.length) → BS b0 b told → BkRd ⟨[], ro⟩ sf sc sh b → RdSl ⟨[], ro⟩ st (ints (told.map Int.ofNat)) →
    (∀ s' ro', (∀ a v, ro a = some v → ro' a = some v) → SfRes b0 n told s' ro' → post (.slice s'.a s'.len s'.cap) ⟨own, ro'⟩) → SemCall Tryd.prog 34 (List.toArray [bkV sf sc sh, .slice st.a st.len st.cap]) ⟨own, ro⟩ post
  | n, b, told, sf, sc, sh, st, own, ro, post, hn, hnd, hlt, hS, hb, hst, hk => by
    refine f34_call sf sc sh st _ post ?_
    intro r1 _
    rw [show (⟨some r1, [Value.slice sf.a sf.len sf.cap, .slice sc.a sc.len sc.cap, .slice sh.a sh.len sh.cap], List.length [Value.slice sf.a sf.len sf.cap, .slice sc.a sc.len sc.cap, .slice sh.a sh.len sh.cap]⟩ : Ent) = bkE r1 sf sc sh from rfl]
    have cl := hb.cl
    have fl := hb.fl
    have stl := hst.len
    rw [ints_length, nats_len] at stl
    have hcl : b.claim.length = b0.claim.length := by rw [hS.c]
    have hfl : b.free.length = b0.free.length := by rw [hS.f, bfree_len]
    have hm5 := ho.m5
    have hn3 := ho.n3
    have hE : ∀ {X : List Ent}, bkE r1 sf sc sh ∈ own ++ bkE r1 sf sc sh :: X := fun {X} => by simp
    refine ⟨fun h => ∃ ro', (∀ a v, ro a = some v → ro' a = some v) ∧ h = ⟨own ++ [bkE r1 sf sc sh], ro'⟩ ∧ (n ≠ 0 → bgo b0 n told (bfree b0 told) = none),
      ⟨fun m x h => ∃ (t : Nat) (ro' : Addr → Option Value), x = (t : Int) ∧ t ≤ b0.claim.length ∧ m = b0.claim.length - t ∧ (∀ a v, ro a = some v → ro' a = some v) ∧ h = ⟨own ++ [bkE r1 sf sc sh], ro'⟩ ∧ ∀ u, u < t → u ∉ told → bends b0 (bfree b0 told) u = true → bgo b0 n told (bfree b0 told) = none,
        ⟨_, gi ⟨0, ro, rfl, Nat.zero_le _, rfl, fun _ _ h => h, rfl, fun j hj => by omega⟩⟩, ?_⟩, ?_⟩
    rotate_left
    · rintro _ _ ⟨ro', m, rfl, hno⟩
      refine ⟨⟨own, ro'⟩, Gh.drop (by simp), hk st ro' m ⟨fun r hr => ?_, fun hr => ?_⟩⟩
      · cases n with
        | zero =>
          simp only [bgo, Option.some.injEq] at hr
          subst hr
          exact hst.mono (by simp) m
        | succ n => rw [hno (by omega)] at hr; cases hr
      · cases n with
        | zero => simp [bgo] at hr
        | succ n => omega
    rintro m _ x _ ⟨t, ro1, rfl, ht, rfl, m1, rfl, hall⟩
    simp only [f34_L4, add_mk', Nat.zero_add, Nat.add_zero]
    refine join_b (h := ⟨own ++ [bkE r1 sf sc sh], ro1⟩) (decide (t < b0.claim.length ∧ told.length < b0.claim.length)) ⟨sc, bkE_1 hE, VIf_dec (fun h3 => ⟨sc, bkE_1 hE, gi ⟨rfl, ?_⟩⟩) (fun h3 => gi ⟨rfl, (decide_eq_false (by omega)).symm⟩)⟩ ?_
    · exact decide_eq_decide.2 ⟨fun h => by omega, fun h => by omega⟩
    simp only [f34_J3]
    refine VIf_dec (fun hc => ?_) (fun hc => gi ⟨ro1, m1, rfl, fun hn0 => ?_⟩)
    rotate_left
    · -- none was found
      obtain ⟨n', rfl⟩ : ∃ n', n = n' + 1 := ⟨n - 1, by omega⟩
      cases hx : bgo b0 (n' + 1) told (bfree b0 told) with
      | none => rfl
      | some r =>
        exfalso
        have hx2 := hx
        rw [bgo] at hx2
        cases hb2 : bnext b0 (bfree b0 told) told with
        | none => rw [hb2] at hx2; cases hx2
        | some u =>
          obtain ⟨g1, g2, g3, _⟩ := bnext_some hb2
          rw [hall u (by omega) g2 g3] at hx
          cases hx
    obtain ⟨htm, htl⟩ := hc
    obtain ⟨n', rfl⟩ : ∃ n', n = n' + 1 := ⟨n - 1, by omega⟩
    -- what is left to do at this t
    have next : ∀ {ro2 : Addr → Option Value}, (∀ a v, ro a = some v → ro2 a = some v) → (t ∉ told → bends b0 (bfree b0 told) t = true → bgo b0 (n' + 1) told (bfree b0 told) = none) →
        In64 ((t : Int) + 1) ∧ ∃ m6, m6 < b0.claim.length - t ∧ ∃ h90, Gh ⟨own ++ [bkE r1 sf sc sh], ro2⟩ h90 ∧ ∃ (t2 : Nat) (ro' : Addr → Option Value), (t : Int) + 1 = (t2 : Int) ∧ t2 ≤ b0.claim.length ∧ m6 = b0.claim.length - t2 ∧ (∀ a v, ro a = some v → ro' a = some v) ∧ h90 = ⟨own ++ [bkE r1 sf sc sh], ro'⟩ ∧ ∀ u, u < t2 → u ∉ told → bends b0 (bfree b0 told) u = true → bgo b0 (n' + 1) told (bfree b0 told) = none := by
      intro ro2 m2 hno
      refine ⟨⟨by omega, by omega⟩, b0.claim.length - (t + 1), by omega, gi ⟨t + 1, ro2, by omega, by omega, rfl, m2, rfl, fun u hu h1 h2 => ?_⟩⟩
      by_cases he : u = t
      · subst he; exact hno h1 h2
      · exact hall u (by omega) h1 h2
    refine ⟨fun h => ∃ ro2, (∀ a v, ro a = some v → ro2 a = some v) ∧ h = ⟨own ++ [bkE r1 sf sc sh], ro2⟩ ∧ (t ∉ told → bends b0 (bfree b0 told) t = true → bgo b0 (n' + 1) told (bfree b0 told) = none), ?_, ?_⟩
    rotate_left
    · rintro _ _ ⟨ro2, m2, rfl, hno⟩
      exact next m2 hno
    clear next
    -- is it out already
    refine ⟨fun x h => h = ⟨own ++ [bkE r1 sf sc sh], ro1⟩ ∧ x = decide (t ∈ told), ⟨fun m x y h => ∃ j : Nat, y = (j : Int) ∧ j ≤ told.length ∧ m = told.length - j ∧ h = ⟨own ++ [bkE r1 sf sc sh], ro1⟩ ∧ x = decide (t ∈ told.take j), ⟨_, gi ⟨0, rfl, Nat.zero_le _, rfl, rfl, by simp⟩⟩, ?_⟩, ?_⟩
    · rintro m _ x y _ ⟨j, rfl, hj, rfl, rfl, rfl⟩
      simp only [f34_L1]
      refine VIf_dec (fun hi => ?_) (fun hi => gi ⟨rfl, ?_⟩)
      rotate_left
      · rw [List.take_of_length_le (by omega)]
      have hjt : j < told.length := by omega
      have htk : told.take (j + 1) = told.take j ++ [told[j]] := by rw [List.take_add_one, List.getElem?_eq_getElem hjt]; rfl
      refine join_b (h := ⟨own ++ [bkE r1 sf sc sh], ro1⟩) (decide (t ∈ told.take (j + 1))) (VIf_dec (fun h3 => gi ⟨rfl, (decide_eq_true (by rw [htk]; exact List.mem_append_left _ h3)).symm⟩) (fun h3 => ?_)) ⟨⟨by omega, by omega⟩, told.length - (j + 1), by omega, gi ⟨j + 1, by omega, by omega, rfl, rfl, rfl⟩⟩
      have hst1 : RdSl ⟨own ++ [bkE r1 sf sc sh], ro1⟩ st (ints (told.map Int.ofNat)) := hst.mono (by simp) m1
      refine idxG hst1 (by omega) (by rw [nats_len]; omega) (gi ⟨rfl, ?_⟩)
      rw [Int.toNat_natCast, show gI (told.map Int.ofNat) j = (told[j] : Int) from gI_at2 (by rw [List.getElem?_map, List.getElem?_eq_getElem hjt]; rfl), show ((told[j] : Int) == (t : Int)) = decide (told[j] = t) from by
        by_cases h : told[j] = t
        · simp [h]
        · have h2 : ¬ ((told[j] : Nat) : Int) = (t : Int) := by omega
          simp [h, h2]]
      exact decide_eq_decide.2 (by rw [htk]; simp only [List.mem_append, List.mem_singleton, h3, false_or]; exact ⟨fun h => h.symm, fun h => h.symm⟩)
    rintro _ x _ ⟨rfl, rfl⟩
    simp only [f34_J2, add_mk', Nat.zero_add, Nat.add_zero]
    refine VIf_dec (fun h3 => gi ⟨ro1, m1, rfl, fun h => absurd h3 h⟩) (fun hto => ?_)
    have hSh : Shp b t := by
      refine ⟨by omega, by have := hS.hl; omega, by omega, by have := hS.hl; omega, ?_, ?_, fun k hk => ?_, fun k hk => ?_, fun k hk => ?_⟩
      · rw [hS.c, hfl]; exact (ho.cn t htm).1
      · rw [hfl]; exact hS.hr t htm
      · rw [hS.f]
        have := bfree_b ho hnd hlt (k := k) (by omega)
        omega
      · rw [hS.c]; exact (ho.c t k htm (by omega)).1
      · rw [hS.hg t k htm (by omega) hto]
        have := ho.c t k htm (by omega)
        omega
    have hbe := hS.ends htm hto
    refine ⟨sf, bkE_0 hE, sc, bkE_1 hE, sh, bkE_2 hE, ref4_ended_c (hb.mono (by simp) m1) hSh (fun hf => ⟨sf, sc, sh, false, rfl, ?_⟩) (fun hT sf2 sh2 ro2 m2 hb2 => ⟨sf2, sc, sh2, true, rfl, ?_⟩)⟩
    · intro r47 _
      refine ⟨rfl, rfl, ?_⟩
      refine wro _ ⟨some r47, [Value.slice none 0 0, .slice none 0 0, .slice none 0 0], 3⟩ [] ⟨rfl, rfl, rfl, trivial⟩ rfl rfl (by simp) ?_
      refine VIf_b (nomatch ·) (fun _ => ⟨⟨own ++ [bkE r1 sf sc sh], ro1⟩, Gh.drop (by simp), ro1, m1, rfl, fun _ h => ?_⟩)
      rw [← hbe, hf] at h; cases h
    rw [hbe] at hT
    intro r47 _
    refine ⟨rfl, rfl, ?_⟩
    refine wro _ ⟨some r47, [Value.slice none 0 0, .slice none 0 0, .slice none 0 0], 3⟩ [] ⟨rfl, rfl, rfl, trivial⟩ rfl rfl (by simp) ?_
    rw [show (⟨some r47, spl [Value.slice none 0 0, .slice none 0 0, .slice none 0 0] 0 [.slice sf2.a sf2.len sf2.cap, .slice sc.a sc.len sc.cap, .slice sh2.a sh2.len sh2.cap], 3⟩ : Ent) = bkE r47 sf2 sc sh2 from rfl]
    refine VIf_b (fun _ => ?_) (nomatch ·)
    have mm : ∀ a v, ro a = some v → ro2 a = some v := fun a v h => m2 a v (m1 a v h)
    have hst2 : ∀ {X}, RdSl ⟨X, ro2⟩ st (ints (told.map Int.ofNat)) := fun {X} => hst.mono (by simp) mm
    refine app_new hst2 (by omega) (fun s50 e50 o50 l50 _ => ?_)
    have hm47 : bkE r47 sf2 sc sh2 ∈ own ++ [bkE r1 sf sc sh] ++ bkE r47 sf2 sc sh2 :: [] ++ [e50] := by simp
    have hnd2 : (told ++ [t]).Nodup := List.nodup_append.2 ⟨hnd, by simp, by simp; exact fun a ha e => hto (e ▸ ha)⟩
    have hlt2 : ∀ u ∈ told ++ [t], u < b0.claim.length := fun u hu => by
      rcases List.mem_append.1 hu with hu | hu
      · exact hlt u hu
      · simp only [List.mem_singleton] at hu; omega
    have call : ∀ {X : List Ent} {s59 : SV} {e59 : Ent}, OwnsSl 1 s59 e59 (ints (told.map Int.ofNat) ++ [.int .i64 (t : Int)]) →
        SemCall Tryd.prog 34 (List.toArray [.agg (List.toArray [.slice sf2.a sf2.len sf2.cap, .slice sc.a sc.len sc.cap, .slice sh2.a sh2.len sh2.cap]), .slice s59.a s59.len s59.cap]) ⟨own ++ [bkE r1 sf sc sh] ++ bkE r47 sf2 sc sh2 :: [] ++ e59 :: X, ro2⟩ fun v60 h61 =>
          ∃ x62 : SV, v60 = .slice x62.a x62.len x62.cap ∧ ∃ h63, Gh h61 h63 ∧ ∃ ro4, (∀ a v, ro a = some v → ro4 a = some v) ∧ h63 = ⟨own ++ [bkE r1 sf sc sh], ro4⟩ ∧ SfRes b0 n' (told ++ [t]) x62 ro4 := by
      intro X s59 e59 o59
      refine SemCall.frz (own ++ [bkE r1 sf sc sh] ++ bkE r47 sf2 sc sh2 :: []) e59 X rfl o59 (fun ro3 m3 r3 => ?_)
      have r3' : RdSl ⟨[], ro3⟩ s59 (ints ((told ++ [t]).map Int.ofNat)) := by
        have : ints (told.map Int.ofNat) ++ [.int .i64 (t : Int)] = ints ((told ++ [t]).map Int.ofNat) := by simp [ints, intV]
        rw [this] at r3
        exact r3.sl
      refine ref4_safeFrom_c ho n' (by simp; omega) hnd2 hlt2 (hS.go htm hto) (hb2.mono (by simp) m3) r3' (fun s' ro4 m4 hres => ⟨s', rfl, ⟨own ++ [bkE r1 sf sc sh], ro4⟩, Gh.drop (by simp), ro4, fun a v h => m4 a v (m3 a v (mm a v h)), rfl, hres⟩)
    have l50' := o50.sl_len
    rw [ints_length, nats_len] at l50'
    refine ⟨fun s h => ∃ ro4, (∀ a v, ro a = some v → ro4 a = some v) ∧ h = ⟨own ++ [bkE r1 sf sc sh], ro4⟩ ∧ SfRes b0 n' (told ++ [t]) s ro4, ⟨?_, ?_⟩, ?_⟩
    · refine ⟨sf2, bkE_0 hm47, sc, bkE_1 hm47, sh2, bkE_2 hm47, ?_⟩
      exact app_row grows_ints (vs := [.int .i64 (t : Int)]) rfl ⟨rfl, trivial⟩ (own ++ [bkE r1 sf sc sh] ++ bkE r47 sf2 sc sh2 :: []) e50 [] (by simp) o50 (by omega) (fun s59 e59 o59 _ => call o59)
    · intro r64 _
      have hm64 : bkE r47 sf2 sc sh2 ∈ own ++ [bkE r1 sf sc sh] ++ bkE r47 sf2 sc sh2 :: [] ++ [e50] ++ [⟨some r64, [.int .i64 (t : Int)], 1⟩] := by simp
      refine ⟨?_, ?_⟩
      · refine ⟨sf2, bkE_0 hm64, sc, bkE_1 hm64, sh2, bkE_2 hm64, ?_⟩
        exact app_row2 grows_ints (vs := [.int .i64 (t : Int)]) (c := 1) rfl ⟨rfl, trivial⟩ (own ++ [bkE r1 sf sc sh] ++ bkE r47 sf2 sc sh2 :: []) e50 [] (by simp) (by simp) o50 (by omega) (fun s59 e59 o59 _ => call o59)
      · refine app_row2 grows_ints (vs := [.int .i64 (t : Int)]) (c := 1) rfl ⟨rfl, trivial⟩ (own ++ [bkE r1 sf sc sh] ++ bkE r47 sf2 sc sh2 :: []) e50 [] (by simp) (by simp) o50 (by omega) (fun s59 e59 o59 _ => ?_)
        have hm65 : bkE r47 sf2 sc sh2 ∈ own ++ [bkE r1 sf sc sh] ++ bkE r47 sf2 sc sh2 :: [] ++ e59 :: [] := by simp
        exact ⟨sf2, bkE_0 hm65, sc, bkE_1 hm65, sh2, bkE_2 hm65, call o59⟩
    rintro _ s _ ⟨ro4, m4, rfl, hres⟩
    refine ⟨sc, bkE_1 hE, VIf_eq (fun he => ?_) (fun he => gi ⟨ro4, m4, rfl, fun _ _ => ?_⟩)⟩
    · -- found
      cases hx : bgo b0 n' (told ++ [t]) (bfree b0 (told ++ [t])) with
      | none => have := hres.2 hx; omega
      | some r =>
        have hrs := hres.1 r hx
        obtain ⟨l, e1, hcmp⟩ := bgo_out (out := told ++ [t]) (by simp; omega) hnd2 hlt2 hx
        -- the whole search finds the same
        have htot : bgo b0 (n' + 1) told (bfree b0 told) = some r := by
          obtain ⟨r2, hr2⟩ := bgo_cmp ho hn (hcmp.cons hT)
          have hr3 := hr2
          rw [bgo] at hr3
          cases hb3 : bnext b0 (bfree b0 told) told with
          | none => rw [hb3] at hr3; cases hr3
          | some u =>
            obtain ⟨g1, g2, g3, g4⟩ := bnext_some hb3
            have : u = t := by
              rcases Nat.lt_trichotomy u t with h | h | h
              · rw [hall u h g2 g3] at hr2; cases hr2
              · exact h
              · have := g4 t h hto
                rw [hT] at this; cases this
            subst this
            rw [bgo, hb3]
            dsimp only
            rw [← bfree_app]; exact hx
        refine ⟨⟨own, ro4⟩, Gh.drop (by simp), hk s ro4 m4 ⟨fun r' hr' => ?_, fun hr' => ?_⟩⟩
        · rw [htot] at hr'; cases hr'; exact hrs
        · rw [htot] at hr'; cases hr'
    · cases hx : bgo b0 (n' + 1) told (bfree b0 told) with
      | none => rfl
      | some r =>
        exfalso
        cases hy : bgo b0 n' (told ++ [t]) (bfree b0 (told ++ [t])) with
        | some r2 =>
          have h1 := (hres.1 r2 hy).len
          have h2 := bgo_len (out := told ++ [t]) (by simp; omega) hnd2 hlt2 hy
          rw [ints_length, nats_len] at h1
          omega
        | none =>
          have hx2 := hx
          rw [bgo] at hx2
          cases hb3 : bnext b0 (bfree b0 told) told with
          | none => rw [hb3] at hx2; cases hx2
          | some u =>
            obtain ⟨g1, g2, g3, g4⟩ := bnext_some hb3
            rw [hb3] at hx2
            dsimp only at hx2
            rw [← bfree_app] at hx2
            rcases Nat.lt_trichotomy u t with h | h | h
            · rw [hall u h g2 g3] at hx; cases hx
            · subst h; rw [hy] at hx2; cases hx2
            · have := g4 t h hto
              rw [hT] at this; cases this
theorem ref4_safe_c {b : Bk} {sf sc sh : SV} {own : List Ent} {ro : Addr → Option Value} {post : Value → H → Prop} (hb : BkRd ⟨[], ro⟩ sf sc sh b) (ho : BOk b)
    (h1 : brow b = none → ∀ ro', (∀ a v, ro a = some v → ro' a = some v) → post (.tuple (List.toArray [.slice none 0 0, .bool false])) ⟨own, ro'⟩)
    (h2 : ∀ (r : List Nat) (s' : SV) ro', (∀ a v, ro a = some v → ro' a = some v) → brow b = some r → RdSl ⟨[], ro'⟩ s' (ints (r.map Int.ofNat)) → post (.tuple (List.toArray [.slice s'.a s'.len s'.cap, .bool true])) ⟨own, ro'⟩) :
    SemCall Tryd.prog 21 (List.toArray [bkV sf sc sh]) ⟨own, ro⟩ post := by
  refine f21_call sf sc sh _ post ?_
  intro r1 _
  simp only [add_mk', Nat.zero_add, Nat.add_zero]
  have hE : bkE r1 sf sc sh ∈ own ++ [bkE r1 sf sc sh] := by simp
  have cl := hb.cl
  refine ⟨sf, bkE_0 hE, sc, bkE_1 hE, sh, bkE_2 hE, ref4_safeFrom_c ho b.claim.length (st := nilV) (told := []) (by simp) (by simp) (by simp) (BS.start ho) hb ⟨rfl, fun _ => rfl, fun b hb => nomatch hb⟩ (fun s' ro' m hres => ⟨s', rfl, sc, bkE_1 hE, VIf_dec (fun hlt => ?_) (fun hge => ?_)⟩)⟩
  · cases hx : brow b with
    | none => exact ⟨⟨own, ro'⟩, Gh.drop (by simp), h1 hx ro' m⟩
    | some r =>
      have h3 := (hres.1 r hx).len
      have h4 := bgo_len (out := []) (n := b.claim.length) (by simp) (by simp) (by simp) hx
      rw [ints_length, nats_len] at h3
      omega
  · cases hx : brow b with
    | none => have := hres.2 hx; omega
    | some r => exact ⟨⟨own, ro'⟩, Gh.drop (by simp), h2 r s' ro' m hx (hres.1 r hx)⟩
end Go.Proofs.YtnppmcgmmdcpiaaDoor
