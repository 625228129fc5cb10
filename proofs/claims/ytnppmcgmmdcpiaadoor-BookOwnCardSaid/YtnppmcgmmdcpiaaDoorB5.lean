import Derived.Test.YtnppmcgmmdcpiaaDoorB4
namespace Go.Proofs.YtnppmcgmmdcpiaaDoor
open Go.Eng
set_option maxRecDepth 20000
/-! ### the bank, walked: asked, given back -/
open Classical in
noncomputable def basked (b : Bk) (t : Int) (want : List Int) : Int :=
  if bcheck b ≠ 0 then bcheck b else if ¬ (0 ≤ t ∧ t ≤ (b.claim.length : Int) - 1) then 1 else if want.length ≠ b.free.length then 3 else if ∃ k, k < want.length ∧ ¬ (0 ≤ gI want k ∧ gI want k ≤ 1000) then 1 else 0
structure BAsk (b : Bk) (t : Int) (want : List Int) : Prop where
  ok : BOk b
  t0 : 0 ≤ t
  t1 : t < b.claim.length
  l : want.length = b.free.length
  w : ∀ k, k < b.free.length → 0 ≤ gI want k ∧ gI want k ≤ 1000
theorem basked_zero {b : Bk} {t : Int} {want : List Int} (h : basked b t want = 0) : BAsk b t want := by
  unfold basked at h
  split at h
  · rename_i h1; exact absurd h h1
  split at h
  · cases h
  split at h
  · cases h
  split at h
  · cases h
  rename_i h1 h2 h3 h4
  have h1 : bcheck b = 0 := Classical.byContradiction h1
  exact ⟨bcheck_zero.1 h1, by omega, by omega, by omega, fun k hk => Classical.byContradiction fun hc => h4 ⟨k, by omega, hc⟩⟩
theorem basked_of {b : Bk} {t : Int} {want : List Int} (h : BAsk b t want) : basked b t want = 0 := by
  have := h.t0; have := h.t1; have := h.l
  unfold basked
  rw [if_neg (fun hc => hc (bcheck_zero.2 h.ok)), if_neg (fun hc => hc ⟨by omega, by omega⟩), if_neg (by omega), if_neg]
  rintro ⟨k, hk, hc⟩; exact hc (h.w k (by omega))
open Classical in
noncomputable def bask (b : Bk) (t : Int) (want : List Int) : Int :=
  if basked b t want ≠ 0 then basked b t want else if ∃ k, k < want.length ∧ g2 b.has t.toNat k + gI want k > g2 b.claim t.toNat k then 6 else if ∃ k, k < want.length ∧ gI want k > gI b.free k then 5 else if brow (bmv b t.toNat want 1) = none then 7 else 0
open Classical in
noncomputable def bback (b : Bk) (t : Int) (want : List Int) : Int :=
  if basked b t want ≠ 0 then basked b t want else if ∃ k, k < want.length ∧ gI want k > g2 b.has t.toNat k then 5 else 0
theorem bask_mv {b : Bk} {t : Int} {want : List Int} (h : BAsk b t want) (h1 : ∀ k, k < want.length → g2 b.has t.toNat k + gI want k ≤ g2 b.claim t.toNat k) (h2 : ∀ k, k < want.length → gI want k ≤ gI b.free k) : BOk (bmv b t.toNat want 1) := by
  have := h.t0; have := h.t1; have hl := h.l
  refine bmv_ok h.ok (by omega) (fun k hk => ?_) (fun k hk => ?_)
  · have := h.w k hk; have := h.ok.f k hk; have := h2 k (by omega); omega
  · have := h.w k hk; have := (h.ok.c t.toNat k (by omega) hk); have := h1 k (by omega); omega
theorem bank_asked_c {b : Bk} {sf sc sh sw : SV} {want : List Int} {t : Int} {own : List Ent} {ro : Addr → Option Value} {post : Value → H → Prop} (hb : BkRd ⟨own, ro⟩ sf sc sh b) (hw : RdSl ⟨own, ro⟩ sw (ints want))
    (hk : post (errV (eno 60 (basked b t want))) ⟨own, ro⟩) : SemCall Tryd.prog 42 (List.toArray [bkV sf sc sh, .int .i64 t, .slice sw.a sw.len sw.cap]) ⟨own, ro⟩ post := by
  refine f42_call sf sc sh t sw _ post ?_
  intro r1 _
  simp only [add_mk', Nat.zero_add, Nat.add_zero]
  have hup : BkRd ⟨own ++ [bkE r1 sf sc sh], ro⟩ sf sc sh b := hb.mono (fun e he => List.mem_append_left _ he) (fun _ _ h => h)
  have hwu : RdSl ⟨own ++ [bkE r1 sf sc sh], ro⟩ sw (ints want) := hw.mono (fun e he => List.mem_append_left _ he) (fun _ _ h => h)
  have hE : bkE r1 sf sc sh ∈ own ++ [bkE r1 sf sc sh] := by simp
  have done : ∀ {v : Value}, v = errV (eno 60 (basked b t want)) → VRet ⟨own ++ [bkE r1 sf sc sh], ro⟩ v post := fun {v} hv => ⟨⟨own, ro⟩, Gh.drop (by simp), by rw [hv]; exact hk⟩
  have cl := hb.cl
  have fl := hb.fl
  have swl := hw.len
  rw [ints_length] at swl
  refine ⟨sf, bkE_0 hE, sc, bkE_1 hE, sh, bkE_2 hE, bank_check_c hup ⟨_, rfl, VIf_nerr (fun hc => done ?_) (fun hc => ?_)⟩⟩
  · rw [basked, if_pos hc]
  have ho := bcheck_zero.1 hc
  have hm5 := ho.m5
  have hn3 := ho.n3
  refine ⟨sc, bkE_1 hE, ⟨by omega, by omega⟩, within_i (fun ht => ⟨_, rfl, VIf_nb (fun _ => done ?_) (nomatch ·)⟩) (fun t0 t1 => ⟨_, rfl, VIf_nb (nomatch ·) (fun _ => ?_)⟩)⟩
  · rw [basked, if_neg (by simpa using hc), if_pos (by omega)]; rfl
  refine ⟨sf, bkE_0 hE, VIf_ne (fun hl => done ?_) (fun hl => ?_)⟩
  · rw [basked, if_neg (by simpa using hc), if_neg (by omega), if_pos (by omega)]; rfl
  refine ⟨fun h => h = ⟨own ++ [bkE r1 sf sc sh], ro⟩ ∧ ∀ k, k < want.length → 0 ≤ gI want k ∧ gI want k ≤ 1000,
    ⟨fun n i h => ∃ k : Nat, i = (k : Int) ∧ k ≤ want.length ∧ n = want.length - k ∧ h = ⟨own ++ [bkE r1 sf sc sh], ro⟩ ∧ ∀ j, j < k → 0 ≤ gI want j ∧ gI want j ≤ 1000, ⟨_, gi ⟨0, rfl, Nat.zero_le _, rfl, rfl, fun j hj => by omega⟩⟩, ?_⟩, ?_⟩
  · rintro n _ i _ ⟨k, rfl, hk', rfl, rfl, hall⟩
    refine VIf_dec (fun hi => ?_) (fun hi => gi ⟨rfl, fun t ht => hall t (by omega)⟩)
    refine idxG hwu (by omega) (by omega) (within_i (fun hc2 => ⟨_, rfl, VIf_nb (fun _ => done ?_) (nomatch ·)⟩) (fun c0 c1 => ⟨_, rfl, VIf_nb (nomatch ·) (fun _ => ⟨⟨by omega, by omega⟩, want.length - (k + 1), by omega, gi ⟨k + 1, by omega, by omega, rfl, rfl, fun t ht => ?_⟩⟩)⟩))
    · rw [Int.toNat_natCast] at hc2
      rw [basked, if_neg (by simpa using hc), if_neg (by omega), if_neg (by omega), if_pos ⟨k, by omega, hc2⟩]; rfl
    · rw [Int.toNat_natCast] at c0 c1
      by_cases he : t = k
      · subst he; exact ⟨c0, c1⟩
      · exact hall t (by omega)
  rintro _ _ ⟨rfl, hall⟩
  refine done ?_
  rw [basked_of ⟨ho, t0, by omega, by omega, fun k hk => hall k (by omega)⟩]; rfl
theorem bk_out {own : List Ent} {ro : Addr → Option Value} {r3 : Nat} {sf sc sh : SV} {cs : List Value} {K : SV → SV → SV → H → Prop} (A C : List Ent) (hown : own = A ++ ⟨some r3, cs, 3⟩ :: C) (hcs : cs.length = 3) (hK : K sf sc sh ⟨A ++ bkE r3 sf sc sh :: C, ro⟩) :
    H.wr ⟨own, ro⟩ (Addr.mk r3 0 none) [.slice sf.a sf.len sf.cap, .slice sc.a sc.len sc.cap, .slice sh.a sh.len sh.cap] fun h => ∃ x : SV, H.rd h (Addr.mk r3 0 none) (.slice x.a x.len x.cap) ∧ ∃ y : SV, H.rd h (Addr.mk r3 1 none) (.slice y.a y.len y.cap) ∧ ∃ z : SV, H.rd h (Addr.mk r3 2 none) (.slice z.a z.len z.cap) ∧ K x y z h := by
  refine wro A ⟨some r3, cs, 3⟩ C ⟨rfl, rfl, rfl, trivial⟩ hown rfl (by simp [hcs]) ?_
  have e : (⟨some r3, spl cs 0 [.slice sf.a sf.len sf.cap, .slice sc.a sc.len sc.cap, .slice sh.a sh.len sh.cap], 3⟩ : Ent) = bkE r3 sf sc sh := by
    have : cs.drop 3 = [] := List.drop_eq_nil_of_le (by omega)
    simp [spl, bkE, this]
  rw [e]
  exact ⟨sf, bkE_0 (sc := sc) (sh := sh) (by simp), sc, bkE_1 (sf := sf) (sh := sh) (by simp), sh, bkE_2 (sf := sf) (sc := sc) (by simp), hK⟩
def nilV : SV := ⟨none, 0, 0⟩
theorem ha_all {own own2 : List Ent} {ro : Addr → Option Value} {sf sc sh : SV} {b : Bk} (r : BkRd ⟨own, ro⟩ sf sc sh b) (hs : ∀ e ∈ own, e ∈ own2) : BkRd ⟨own2, ro⟩ sf sc sh b := r.mono hs (fun _ _ h => h)
set_option maxHeartbeats 800000 in
theorem bank_ask_c {b : Bk} {sf sc sh sw : SV} {want : List Int} {t : Int} {own : List Ent} {ro : Addr → Option Value} {post : Value → H → Prop} (hb : BkRd ⟨own, ro⟩ sf sc sh b) (hw : RdSl ⟨own, ro⟩ sw (ints want))
    (h0 : bask b t want ≠ 0 → ∀ ro', (∀ a v, ro a = some v → ro' a = some v) → post (.tuple (List.toArray [bkV nilV nilV nilV, errV (eno 60 (bask b t want))])) ⟨own, ro'⟩)
    (h1 : bask b t want = 0 → BAsk b t want → BOk (bmv b t.toNat want 1) → ∀ sf' sc' sh' ro', (∀ a v, ro a = some v → ro' a = some v) → BkRd ⟨[], ro'⟩ sf' sc' sh' (bmv b t.toNat want 1) → post (.tuple (List.toArray [bkV sf' sc' sh', errV none])) ⟨own, ro'⟩) :
    SemCall Tryd.prog 29 (List.toArray [bkV sf sc sh, .int .i64 t, .slice sw.a sw.len sw.cap]) ⟨own, ro⟩ post := by
  refine f29_call sf sc sh t sw _ post ?_
  intro r1 _ r3 _
  simp only [add_mk', Nat.zero_add, Nat.add_zero]
  obtain ⟨E3, hE3⟩ : ∃ E3 : Ent, E3 = ⟨some r3, [Value.slice none 0 0, .slice none 0 0, .slice none 0 0], 3⟩ := ⟨_, rfl⟩
  have hE3' : (⟨some r3, [Value.slice none 0 0, .slice none 0 0, .slice none 0 0], List.length [Value.slice none 0 0, .slice none 0 0, .slice none 0 0]⟩ : Ent) = E3 := by rw [hE3]; rfl
  have hE1' : (⟨some r1, [Value.slice sf.a sf.len sf.cap, .slice sc.a sc.len sc.cap, .slice sh.a sh.len sh.cap], List.length [Value.slice sf.a sf.len sf.cap, .slice sc.a sc.len sc.cap, .slice sh.a sh.len sh.cap]⟩ : Ent) = bkE r1 sf sc sh := rfl
  have hc2 : own ++ [bkE r1 sf sc sh] ++ [E3] = own ++ [bkE r1 sf sc sh, E3] := by simp
  rw [hE1', hE3', hc2]
  have hup : BkRd ⟨own ++ [bkE r1 sf sc sh, E3], ro⟩ sf sc sh b := ha_all hb (fun e he => List.mem_append_left _ he)
  have hwu : RdSl ⟨own ++ [bkE r1 sf sc sh, E3], ro⟩ sw (ints want) := hw.mono (fun e he => List.mem_append_left _ he) (fun _ _ h => h)
  have hE : bkE r1 sf sc sh ∈ own ++ [bkE r1 sf sc sh, E3] := by simp
  have swl := hw.len
  rw [ints_length] at swl
  have cl := hb.cl
  have fl := hb.fl
  have hhl' := hb.hl
  have bad : ∀ {ro' : Addr → Option Value} {X : List Ent} {v : Value}, bask b t want ≠ 0 → (∀ a v, ro a = some v → ro' a = some v) → v = errV (eno 60 (bask b t want)) →
      H.wr ⟨own ++ [bkE r1 sf sc sh, E3] ++ X, ro'⟩ (Addr.mk r3 0 none) [.slice none 0 0, .slice none 0 0, .slice none 0 0] fun h => ∃ x : SV, H.rd h (Addr.mk r3 0 none) (.slice x.a x.len x.cap) ∧ ∃ y : SV, H.rd h (Addr.mk r3 1 none) (.slice y.a y.len y.cap) ∧ ∃ z : SV, H.rd h (Addr.mk r3 2 none) (.slice z.a z.len z.cap) ∧ VRet h (.tuple (List.toArray [.agg (List.toArray [.slice x.a x.len x.cap, .slice y.a y.len y.cap, .slice z.a z.len z.cap]), v])) post := by
    intro ro' X v hne hm hv
    refine bk_out (sf := nilV) (sc := nilV) (sh := nilV) (cs := [Value.slice none 0 0, .slice none 0 0, .slice none 0 0]) (own ++ [bkE r1 sf sc sh]) X (by simp [hE3]) rfl ?_
    rw [hv]
    exact ⟨⟨own, ro'⟩, Gh.drop (by simp), h0 hne ro' hm⟩
  have bad0 := fun {v : Value} (hne : bask b t want ≠ 0) (hv : v = errV (eno 60 (bask b t want))) => by
    have := bad (ro' := ro) (X := []) hne (fun _ _ h => h) hv
    rwa [List.append_nil] at this
  refine ⟨sf, bkE_0 hE, sc, bkE_1 hE, sh, bkE_2 hE, bank_asked_c hup hwu ⟨_, rfl, VIf_nerr (fun hc => ⟨rfl, rfl, bad0 ?_ ?_⟩) (fun hc => ?_)⟩⟩
  · rw [bask, if_pos hc]; exact hc
  · rw [bask, if_pos hc]
  have hA := basked_zero hc
  obtain ⟨ho, t0, t1, hl, hwr⟩ := hA
  have hA : BAsk b t want := ⟨ho, t0, t1, hl, hwr⟩
  have hm5 := ho.m5
  have hn3 := ho.n3
  have hhl := ho.hl
  obtain ⟨cn1, cn2⟩ := ho.cn t.toNat (by omega)
  refine ⟨fun h => h = ⟨own ++ [bkE r1 sf sc sh, E3], ro⟩ ∧ ∀ k, k < want.length → g2 b.has t.toNat k + gI want k ≤ g2 b.claim t.toNat k,
    ⟨fun n i h => ∃ k : Nat, i = (k : Int) ∧ k ≤ want.length ∧ n = want.length - k ∧ h = ⟨own ++ [bkE r1 sf sc sh, E3], ro⟩ ∧ ∀ j, j < k → g2 b.has t.toNat j + gI want j ≤ g2 b.claim t.toNat j, ⟨_, gi ⟨0, rfl, Nat.zero_le _, rfl, rfl, fun j hj => by omega⟩⟩, ?_⟩, ?_⟩
  · rintro n _ i _ ⟨k, rfl, hk', rfl, rfl, hall⟩
    refine VIf_dec (fun hi => ?_) (fun hi => gi ⟨rfl, fun t ht => hall t (by omega)⟩)
    refine idxG hwu (by omega) (by omega) ⟨sh, bkE_2 hE, hup.ha t0 (by omega) fun xh hxh hlh => ?_⟩
    refine idxG hxh (by omega) (by omega) ?_
    have e2 : gI ((b.has[t.toNat]?).getD []) k = g2 b.has t.toNat k := rfl
    have e1 : gI ((b.claim[t.toNat]?).getD []) k = g2 b.claim t.toNat k := rfl
    rw [Int.toNat_natCast, e2]
    have h5 := hwr k (by omega)
    have h6 := ho.c t.toNat k (by omega) (by omega)
    refine ⟨⟨by omega, by omega⟩, sc, bkE_1 hE, hup.ca t0 t1 fun xc hxc hlc => ?_⟩
    refine idxG hxc (by omega) (by omega) ?_
    rw [Int.toNat_natCast, e1]
    refine VIf_dec (fun hgt => ?_) (fun hle => ⟨⟨by omega, by omega⟩, want.length - (k + 1), by omega, gi ⟨k + 1, by omega, by omega, rfl, rfl, fun j hj => ?_⟩⟩)
    · have e6 : bask b t want = 6 := by rw [bask, if_neg (by simpa using hc), if_pos ⟨k, by omega, hgt⟩]
      exact ⟨rfl, rfl, bad0 (by rw [e6]; decide) (by rw [e6]; rfl)⟩
    · by_cases he : j = k
      · subst he; omega
      · exact hall j (by omega)
  rintro _ _ ⟨rfl, hcl⟩
  have n6 : ¬ ∃ k, k < want.length ∧ g2 b.has t.toNat k + gI want k > g2 b.claim t.toNat k := fun ⟨k, h5, h6⟩ => by have := hcl k h5; omega
  refine ⟨fun h => h = ⟨own ++ [bkE r1 sf sc sh, E3], ro⟩ ∧ ∀ k, k < want.length → gI want k ≤ gI b.free k,
    ⟨fun n i h => ∃ k : Nat, i = (k : Int) ∧ k ≤ want.length ∧ n = want.length - k ∧ h = ⟨own ++ [bkE r1 sf sc sh, E3], ro⟩ ∧ ∀ j, j < k → gI want j ≤ gI b.free j, ⟨_, gi ⟨0, rfl, Nat.zero_le _, rfl, rfl, fun j hj => by omega⟩⟩, ?_⟩, ?_⟩
  · rintro n _ i _ ⟨k, rfl, hk', rfl, rfl, hall⟩
    refine VIf_dec (fun hi => ?_) (fun hi => gi ⟨rfl, fun t ht => hall t (by omega)⟩)
    refine idxG hwu (by omega) (by omega) ⟨sf, bkE_0 hE, idxG hup.f (by omega) (by omega) ?_⟩
    rw [Int.toNat_natCast]
    refine VIf_dec (fun hgt => ?_) (fun hle => ⟨⟨by omega, by omega⟩, want.length - (k + 1), by omega, gi ⟨k + 1, by omega, by omega, rfl, rfl, fun j hj => ?_⟩⟩)
    · have e6 : bask b t want = 5 := by rw [bask, if_neg (by simpa using hc), if_neg n6, if_pos ⟨k, by omega, hgt⟩]
      exact ⟨rfl, rfl, bad0 (by rw [e6]; decide) (by rw [e6]; rfl)⟩
    · by_cases he : j = k
      · subst he; omega
      · exact hall j (by omega)
  rintro _ _ ⟨rfl, hfr⟩
  have n5 : ¬ ∃ k, k < want.length ∧ gI want k > gI b.free k := fun ⟨k, h5, h6⟩ => by have := hfr k h5; omega
  have ho2 := bask_mv hA hcl hfr
  refine ⟨sf, bkE_0 hE, sc, bkE_1 hE, sh, bkE_2 hE, bank_moved_c hup hwu ho t0 t1 hl hwr (.inl rfl) (fun sf' sc' sh' ro' hm hb' => ⟨sf', sc', sh', rfl, ?_⟩)⟩
  intro r68 _
  refine ⟨rfl, rfl, ?_⟩
  refine bk_out (own ++ [bkE r1 sf sc sh, E3]) [] rfl rfl ?_
  have hb2 : BkRd ⟨own ++ [bkE r1 sf sc sh, E3] ++ [bkE r68 sf' sc' sh'], ro'⟩ sf' sc' sh' (bmv b t.toNat want 1) := hb'.mono (by simp) (fun _ _ h => h)
  refine bank_row_c hb2 ho2 (fun hr => ⟨⟨none, 0, 0⟩, false, rfl, VIf_nb (fun _ => ?_) (nomatch ·)⟩) (fun r s' e' hr o => ⟨s', true, rfl, VIf_nb (nomatch ·) (fun _ => ?_)⟩)
  · have e6 : bask b t want = 7 := by rw [bask, if_neg (by simpa using hc), if_neg n6, if_neg n5, if_pos hr]
    exact ⟨rfl, rfl, bad (by rw [e6]; decide) hm (by rw [e6]; rfl)⟩
  · have e6 : bask b t want = 0 := by rw [bask, if_neg (by simpa using hc), if_neg n6, if_neg n5, if_neg (by rw [hr]; exact fun h => nomatch h)]
    have hm68 : bkE r68 sf' sc' sh' ∈ own ++ [bkE r1 sf sc sh, E3] ++ [bkE r68 sf' sc' sh'] ++ [e'] := by simp
    refine ⟨sf', bkE_0 hm68, sc', bkE_1 hm68, sh', bkE_2 hm68, rfl, rfl, ?_⟩
    refine bk_out (cs := [Value.slice none 0 0, .slice none 0 0, .slice none 0 0]) (own ++ [bkE r1 sf sc sh]) ([bkE r68 sf' sc' sh'] ++ [e']) (by simp [hE3]) rfl ?_
    exact ⟨⟨own, ro'⟩, Gh.drop (by simp), h1 e6 hA ho2 sf' sc' sh' ro' hm hb'⟩
set_option maxHeartbeats 800000 in
theorem bank_back_c {b : Bk} {sf sc sh sw : SV} {want : List Int} {t : Int} {own : List Ent} {ro : Addr → Option Value} {post : Value → H → Prop} (hb : BkRd ⟨own, ro⟩ sf sc sh b) (hw : RdSl ⟨own, ro⟩ sw (ints want))
    (h0 : bback b t want ≠ 0 → post (.tuple (List.toArray [bkV nilV nilV nilV, errV (eno 60 (bback b t want))])) ⟨own, ro⟩)
    (h1 : bback b t want = 0 → BAsk b t want → ∀ sf' sc' sh' ro', (∀ a v, ro a = some v → ro' a = some v) → BkRd ⟨[], ro'⟩ sf' sc' sh' (bmv b t.toNat want (-1)) → post (.tuple (List.toArray [bkV sf' sc' sh', errV none])) ⟨own, ro'⟩) :
    SemCall Tryd.prog 28 (List.toArray [bkV sf sc sh, .int .i64 t, .slice sw.a sw.len sw.cap]) ⟨own, ro⟩ post := by
  refine f28_call sf sc sh t sw _ post ?_
  intro r1 _ r3 _
  simp only [add_mk', Nat.zero_add, Nat.add_zero]
  obtain ⟨E3, hE3⟩ : ∃ E3 : Ent, E3 = ⟨some r3, [Value.slice none 0 0, .slice none 0 0, .slice none 0 0], 3⟩ := ⟨_, rfl⟩
  have hE3' : (⟨some r3, [Value.slice none 0 0, .slice none 0 0, .slice none 0 0], List.length [Value.slice none 0 0, .slice none 0 0, .slice none 0 0]⟩ : Ent) = E3 := by rw [hE3]; rfl
  have hE1' : (⟨some r1, [Value.slice sf.a sf.len sf.cap, .slice sc.a sc.len sc.cap, .slice sh.a sh.len sh.cap], List.length [Value.slice sf.a sf.len sf.cap, .slice sc.a sc.len sc.cap, .slice sh.a sh.len sh.cap]⟩ : Ent) = bkE r1 sf sc sh := rfl
  have hc2 : own ++ [bkE r1 sf sc sh] ++ [E3] = own ++ [bkE r1 sf sc sh, E3] := by simp
  rw [hE1', hE3', hc2]
  have hup : BkRd ⟨own ++ [bkE r1 sf sc sh, E3], ro⟩ sf sc sh b := ha_all hb (fun e he => List.mem_append_left _ he)
  have hwu : RdSl ⟨own ++ [bkE r1 sf sc sh, E3], ro⟩ sw (ints want) := hw.mono (fun e he => List.mem_append_left _ he) (fun _ _ h => h)
  have hE : bkE r1 sf sc sh ∈ own ++ [bkE r1 sf sc sh, E3] := by simp
  have swl := hw.len
  rw [ints_length] at swl
  have cl := hb.cl
  have fl := hb.fl
  have hhl' := hb.hl
  have bad : ∀ {v : Value}, bback b t want ≠ 0 → v = errV (eno 60 (bback b t want)) →
      H.wr ⟨own ++ [bkE r1 sf sc sh, E3], ro⟩ (Addr.mk r3 0 none) [.slice none 0 0, .slice none 0 0, .slice none 0 0] fun h => ∃ x : SV, H.rd h (Addr.mk r3 0 none) (.slice x.a x.len x.cap) ∧ ∃ y : SV, H.rd h (Addr.mk r3 1 none) (.slice y.a y.len y.cap) ∧ ∃ z : SV, H.rd h (Addr.mk r3 2 none) (.slice z.a z.len z.cap) ∧ VRet h (.tuple (List.toArray [.agg (List.toArray [.slice x.a x.len x.cap, .slice y.a y.len y.cap, .slice z.a z.len z.cap]), v])) post := by
    intro v hne hv
    refine bk_out (sf := nilV) (sc := nilV) (sh := nilV) (cs := [Value.slice none 0 0, .slice none 0 0, .slice none 0 0]) (own ++ [bkE r1 sf sc sh]) [] (by simp [hE3]) rfl ?_
    rw [hv]
    exact ⟨⟨own, ro⟩, Gh.drop (by simp), h0 hne⟩
  refine ⟨sf, bkE_0 hE, sc, bkE_1 hE, sh, bkE_2 hE, bank_asked_c hup hwu ⟨_, rfl, VIf_nerr (fun hc => ⟨rfl, rfl, bad ?_ ?_⟩) (fun hc => ?_)⟩⟩
  · rw [bback, if_pos hc]; exact hc
  · rw [bback, if_pos hc]
  have hA := basked_zero hc
  obtain ⟨ho, t0, t1, hl, hwr⟩ := hA
  have hA : BAsk b t want := ⟨ho, t0, t1, hl, hwr⟩
  have hm5 := ho.m5
  have hn3 := ho.n3
  have hhl := ho.hl
  obtain ⟨cn1, cn2⟩ := ho.cn t.toNat (by omega)
  refine ⟨fun h => h = ⟨own ++ [bkE r1 sf sc sh, E3], ro⟩ ∧ ∀ k, k < want.length → gI want k ≤ g2 b.has t.toNat k,
    ⟨fun n i h => ∃ k : Nat, i = (k : Int) ∧ k ≤ want.length ∧ n = want.length - k ∧ h = ⟨own ++ [bkE r1 sf sc sh, E3], ro⟩ ∧ ∀ j, j < k → gI want j ≤ g2 b.has t.toNat j, ⟨_, gi ⟨0, rfl, Nat.zero_le _, rfl, rfl, fun j hj => by omega⟩⟩, ?_⟩, ?_⟩
  · rintro n _ i _ ⟨k, rfl, hk', rfl, rfl, hall⟩
    refine VIf_dec (fun hi => ?_) (fun hi => gi ⟨rfl, fun t ht => hall t (by omega)⟩)
    refine idxG hwu (by omega) (by omega) ⟨sh, bkE_2 hE, hup.ha t0 (by omega) fun xh hxh hlh => ?_⟩
    refine idxG hxh (by omega) (by omega) ?_
    have e2 : gI ((b.has[t.toNat]?).getD []) k = g2 b.has t.toNat k := rfl
    rw [Int.toNat_natCast, e2]
    refine VIf_dec (fun hgt => ?_) (fun hle => ⟨⟨by omega, by omega⟩, want.length - (k + 1), by omega, gi ⟨k + 1, by omega, by omega, rfl, rfl, fun j hj => ?_⟩⟩)
    · have e6 : bback b t want = 5 := by rw [bback, if_neg (by simpa using hc), if_pos ⟨k, by omega, hgt⟩]
      exact ⟨rfl, rfl, bad (by rw [e6]; decide) (by rw [e6]; rfl)⟩
    · by_cases he : j = k
      · subst he; omega
      · exact hall j (by omega)
  rintro _ _ ⟨rfl, hcl⟩
  have n6 : ¬ ∃ k, k < want.length ∧ gI want k > g2 b.has t.toNat k := fun ⟨k, h5, h6⟩ => by have := hcl k h5; omega
  have e6 : bback b t want = 0 := by rw [bback, if_neg (by simpa using hc), if_neg n6]
  refine ⟨sf, bkE_0 hE, sc, bkE_1 hE, sh, bkE_2 hE, bank_moved_c hup hwu ho t0 t1 hl hwr (.inr rfl) (fun sf' sc' sh' ro' hm hb' => ⟨sf', sc', sh', rfl, rfl, rfl, ?_⟩)⟩
  refine bk_out (cs := [Value.slice none 0 0, .slice none 0 0, .slice none 0 0]) (own ++ [bkE r1 sf sc sh]) [] (by simp [hE3]) rfl ?_
  exact ⟨⟨own, ro'⟩, Gh.drop (by simp), h1 e6 hA sf' sc' sh' ro' hm hb'⟩
end Go.Proofs.YtnppmcgmmdcpiaaDoor
