import Derived.Test.YtnppmcgmmdcpiaaDoorBA
namespace Go.Proofs.YtnppmcgmmdcpiaaDoor
open Go.Eng
set_option maxRecDepth 20000
/-! ### the document's bank: lent, and given back -/
set_option maxHeartbeats 1600000 in
theorem ref4_lend_c {b : Bk} {sf sc sh sw : SV} {want : List Int} {t : Int} (back : Bool) {own : List Ent} {ro : Addr → Option Value} {post : Value → H → Prop} (hb : BkRd ⟨[], ro⟩ sf sc sh b) (hw : RdSl ⟨[], ro⟩ sw (ints want))
    (h0 : (if back = true then bback b t want else bask b t want) ≠ 0 → ∀ ro', (∀ a v, ro a = some v → ro' a = some v) → post (.tuple (List.toArray [bkV nilV nilV nilV, .int .i64 (if back = true then bback b t want else bask b t want)])) ⟨own, ro'⟩)
    (h1 : (if back = true then bback b t want else bask b t want) = 0 → BAsk b t want → ∀ sf' sc' sh' ro', (∀ a v, ro a = some v → ro' a = some v) → BkRd ⟨[], ro'⟩ sf' sc' sh' (bmv b t.toNat want (if back = true then -1 else 1)) → post (.tuple (List.toArray [bkV sf' sc' sh', .int .i64 0])) ⟨own, ro'⟩) :
    SemCall Tryd.prog 24 (List.toArray [bkV sf sc sh, .int .i64 t, .slice sw.a sw.len sw.cap, .bool back]) ⟨own, ro⟩ post := by
  refine f24_call sf sc sh t sw back _ post ?_
  intro r1 _ r3 _
  simp only [add_mk', Nat.zero_add, Nat.add_zero]
  obtain ⟨E3, hE3⟩ : ∃ E3 : Ent, E3 = ⟨some r3, [Value.slice none 0 0, .slice none 0 0, .slice none 0 0], 3⟩ := ⟨_, rfl⟩
  have hE3' : (⟨some r3, [Value.slice none 0 0, .slice none 0 0, .slice none 0 0], List.length [Value.slice none 0 0, .slice none 0 0, .slice none 0 0]⟩ : Ent) = E3 := by rw [hE3]; rfl
  have hE1' : (⟨some r1, [Value.slice sf.a sf.len sf.cap, .slice sc.a sc.len sc.cap, .slice sh.a sh.len sh.cap], List.length [Value.slice sf.a sf.len sf.cap, .slice sc.a sc.len sc.cap, .slice sh.a sh.len sh.cap]⟩ : Ent) = bkE r1 sf sc sh := rfl
  have hc2 : own ++ [bkE r1 sf sc sh] ++ [E3] = own ++ [bkE r1 sf sc sh, E3] := by simp
  rw [hE1', hE3', hc2]
  have hup : ∀ {X}, BkRd ⟨X, ro⟩ sf sc sh b := fun {X} => hb.mono (by simp) (fun _ _ h => h)
  have hwu : ∀ {X}, RdSl ⟨X, ro⟩ sw (ints want) := fun {X} => hw.mono (by simp) (fun _ _ h => h)
  have hE : bkE r1 sf sc sh ∈ own ++ [bkE r1 sf sc sh, E3] := by simp
  have swl := hw.len
  rw [ints_length] at swl
  have cl := hb.cl
  have fl := hb.fl
  have hhl' := hb.hl
  obtain ⟨e, he⟩ : ∃ e, e = (if back = true then bback b t want else bask b t want) := ⟨_, rfl⟩
  rw [← he] at h0 h1
  have bad : ∀ {ro' : Addr → Option Value} {X : List Ent} {v : Int}, e ≠ 0 → (∀ a v, ro a = some v → ro' a = some v) → v = e →
      H.wr ⟨own ++ [bkE r1 sf sc sh, E3] ++ X, ro'⟩ (Addr.mk r3 0 none) [.slice none 0 0, .slice none 0 0, .slice none 0 0] fun h => ∃ x : SV, H.rd h (Addr.mk r3 0 none) (.slice x.a x.len x.cap) ∧ ∃ y : SV, H.rd h (Addr.mk r3 1 none) (.slice y.a y.len y.cap) ∧ ∃ z : SV, H.rd h (Addr.mk r3 2 none) (.slice z.a z.len z.cap) ∧ VRet h (.tuple (List.toArray [.agg (List.toArray [.slice x.a x.len x.cap, .slice y.a y.len y.cap, .slice z.a z.len z.cap]), .int .i64 v])) post := by
    intro ro' X v hne hm hv
    refine bk_out (sf := nilV) (sc := nilV) (sh := nilV) (cs := [Value.slice none 0 0, .slice none 0 0, .slice none 0 0]) (own ++ [bkE r1 sf sc sh]) X (by simp [hE3]) rfl ?_
    rw [hv]
    exact ⟨⟨own, ro'⟩, Gh.drop (by simp), h0 hne ro' hm⟩
  have bad0 := fun {v : Int} (hne : e ≠ 0) (hv : v = e) => by
    have := bad (ro' := ro) (X := []) hne (fun _ _ h => h) hv
    rwa [List.append_nil] at this
  refine ⟨sf, bkE_0 hE, sc, bkE_1 hE, sh, bkE_2 hE, ref4_bank_c hup ⟨_, rfl, ?_⟩⟩
  refine join_b (h := ⟨own ++ [bkE r1 sf sc sh, E3], ro⟩) (decide (bcheck b = 0 ∧ ¬ (0 ≤ t ∧ t ≤ (b.claim.length : Int) - 1))) (VIf_eq (fun hz => ⟨sc, bkE_1 hE, ?_⟩) (fun hz => gi ⟨rfl, (decide_eq_false (fun h => hz h.1)).symm⟩)) ?_
  · have := (bcheck_zero.1 hz).m5
    refine ⟨⟨by omega, by omega⟩, ref4_in_i (fun hc => ⟨_, rfl, gi ⟨rfl, (decide_eq_true ⟨hz, by omega⟩).symm⟩⟩) (fun c0 c1 => ⟨_, rfl, gi ⟨rfl, (decide_eq_false (by omega)).symm⟩⟩)⟩
  obtain ⟨e1, he1⟩ : ∃ e1 : Int, e1 = if bcheck b ≠ 0 then bcheck b else if ¬ (0 ≤ t ∧ t ≤ (b.claim.length : Int) - 1) then 1 else 0 := ⟨_, rfl⟩
  refine ⟨fun x h => h = ⟨own ++ [bkE r1 sf sc sh, E3], ro⟩ ∧ x = e1, VIf_dec (fun hc => gi ⟨rfl, ?_⟩) (fun hc => gi ⟨rfl, ?_⟩), ?_⟩
  · rw [he1, if_neg (by omega), if_pos hc.2]
  · rw [he1]
    by_cases hz : bcheck b = 0
    · rw [if_neg (by omega), if_neg (fun h => hc ⟨hz, h⟩)]; exact hz
    · rw [if_pos hz]
  rintro _ x _ ⟨rfl, rfl⟩
  simp only [add_mk', Nat.zero_add, Nat.add_zero]
  refine join_b (h := ⟨own ++ [bkE r1 sf sc sh, E3], ro⟩) (decide (x = 0 ∧ want.length ≠ b.free.length)) (VIf_eq (fun hz => ⟨sf, bkE_0 hE, gi ⟨rfl, ?_⟩⟩) (fun hz => gi ⟨rfl, (decide_eq_false (fun h => hz h.1)).symm⟩)) ?_
  · rw [bne_dec]; exact decide_eq_decide.2 ⟨fun h => ⟨hz, by omega⟩, fun h => by omega⟩
  obtain ⟨e2, he2⟩ : ∃ e2 : Int, e2 = if x ≠ 0 then x else if want.length ≠ b.free.length then 3 else 0 := ⟨_, rfl⟩
  refine ⟨fun y h => h = ⟨own ++ [bkE r1 sf sc sh, E3], ro⟩ ∧ y = e2, VIf_dec (fun hc => gi ⟨rfl, ?_⟩) (fun hc => gi ⟨rfl, ?_⟩), ?_⟩
  · rw [he2, if_neg (by omega), if_pos hc.2]
  · rw [he2]
    by_cases hz : x = 0
    · rw [if_neg (by omega), if_neg (fun h => hc ⟨hz, h⟩)]; exact hz
    · rw [if_pos hz]
  rintro _ y _ ⟨rfl, rfl⟩
  have hbk : basked b t want = if y ≠ 0 then y else if ∃ k, k < want.length ∧ ¬ (0 ≤ gI want k ∧ gI want k ≤ 1000) then 1 else 0 := by
    rw [he2, he1]
    unfold basked
    by_cases c1 : bcheck b ≠ 0
    · rw [if_pos c1, if_pos c1, if_pos c1, if_pos c1]
    · rw [if_neg c1, if_neg c1]
      by_cases c2 : ¬ (0 ≤ t ∧ t ≤ (b.claim.length : Int) - 1)
      · rw [if_pos c2, if_pos c2]; rfl
      · rw [if_neg c2, if_neg c2]
        by_cases c3 : want.length ≠ b.free.length
        · rw [if_pos c3, if_pos c3]; rfl
        · rw [if_neg c3, if_neg c3]; rfl
  have hlen : y = 0 → b.free.length ≤ 3 ∧ want.length = b.free.length := fun hy => by
    have hx0 : x = 0 := Classical.byContradiction fun hx => by rw [he2, if_pos hx] at hy; exact hx hy
    have h9 : want.length = b.free.length := Classical.byContradiction fun h => by rw [he2, if_neg (by omega), if_pos h] at hy; cases hy
    have h8 : bcheck b = 0 := Classical.byContradiction fun h => by rw [he1, if_pos h] at hx0; exact h hx0
    exact ⟨(bcheck_zero.1 h8).n3, h9⟩
  clear he1 he2
  refine ⟨fun z h => h = ⟨own ++ [bkE r1 sf sc sh, E3], ro⟩ ∧ z = basked b t want,
    ⟨fun n z i h => ∃ k : Nat, i = (k : Int) ∧ k ≤ want.length ∧ n = want.length - k ∧ h = ⟨own ++ [bkE r1 sf sc sh, E3], ro⟩ ∧ ((y ≠ 0 ∧ z = y) ∨ (y = 0 ∧ z = 1 ∧ ∃ i, i < want.length ∧ ¬ (0 ≤ gI want i ∧ gI want i ≤ 1000)) ∨ (y = 0 ∧ z = 0 ∧ ∀ i, i < k → (0 ≤ gI want i ∧ gI want i ≤ 1000))),
      ⟨_, gi ⟨0, rfl, Nat.zero_le _, rfl, rfl, by
        by_cases hy : y = 0
        · exact .inr (.inr ⟨hy, hy, fun i hi => by omega⟩)
        · exact .inl ⟨hy, rfl⟩⟩⟩, ?_⟩, ?_⟩
  · rintro n _ z i _ ⟨k, rfl, hk', rfl, rfl, hz⟩
    simp only [f24_L2, f24_J1]
    refine join_b (h := ⟨own ++ [bkE r1 sf sc sh, E3], ro⟩) (decide (k < want.length ∧ z = 0)) (VIf_dec (fun hk2 => gi ⟨rfl, ?_⟩) (fun hk2 => gi ⟨rfl, (decide_eq_false (by omega)).symm⟩)) (VIf_dec (fun hc => ?_) (fun hc => gi ⟨rfl, ?_⟩))
    · show decide (z = 0) = _
      exact decide_eq_decide.2 ⟨fun h => ⟨by omega, h⟩, fun h => h.2⟩
    · have hz : y = 0 ∧ ∀ i, i < k → (0 ≤ gI want i ∧ gI want i ≤ 1000) := by
        rcases hz with ⟨h1, h2⟩ | ⟨_, h2, _⟩ | ⟨h1, _, h3⟩
        · omega
        · omega
        · exact ⟨h1, h3⟩
      have hln := hlen hz.1
      refine idxG hwu (by omega) (by omega) (ref4_in_i (fun hc2 => ⟨_, rfl, VIf_nb (fun _ => ⟨⟨by omega, by omega⟩, want.length - (k + 1), by omega, gi ⟨k + 1, by omega, by omega, rfl, rfl, .inr (.inl ⟨hz.1, (by trivial), k, hc.1, hc2⟩)⟩⟩) (nomatch ·)⟩) (fun c0 c1 => ⟨_, rfl, VIf_nb (nomatch ·) (fun _ => ⟨⟨by omega, by omega⟩, want.length - (k + 1), by omega, gi ⟨k + 1, by omega, by omega, rfl, rfl, .inr (.inr ⟨hz.1, hc.2, fun i hi => ?_⟩)⟩⟩)⟩))
      by_cases hik : i = k
      · subst hik; exact ⟨c0, c1⟩
      · exact hz.2 i (by omega)
    · rw [hbk]
      rcases hz with ⟨h1, h2⟩ | ⟨h1, h2, h3⟩ | ⟨h1, h2, h3⟩
      · rw [if_pos h1, h2]
      · rw [if_neg (by omega), if_pos h3, h2]
      · rw [if_neg (by omega), if_neg (by rintro ⟨i, hi, hni⟩; exact hni (h3 i (by omega))), h2]
  clear hbk hlen
  rintro _ z _ ⟨rfl, rfl⟩
  simp only [f24_J8, add_mk', Nat.zero_add, Nat.add_zero]
  refine VIf_ne (fun hne => ⟨rfl, rfl, bad0 ?_ ?_⟩) (fun hz => ?_)
  · rw [he]; cases back
    · rw [if_neg (by simp), bask, if_pos hne]; exact hne
    · rw [if_pos rfl, bback, if_pos hne]; exact hne
  · rw [he]; cases back
    · rw [if_neg (by simp), bask, if_pos hne]
    · rw [if_pos rfl, bback, if_pos hne]
  have hA := basked_zero hz
  obtain ⟨ho, t0, t1, hl, hwr⟩ := hA
  have hA : BAsk b t want := ⟨ho, t0, t1, hl, hwr⟩
  have hm5 := ho.m5
  have hn3 := ho.n3
  have hhl := ho.hl
  obtain ⟨cn1, cn2⟩ := ho.cn t.toNat (by omega)
  refine ⟨fun h => h = ⟨own ++ [bkE r1 sf sc sh, E3], ro⟩ ∧ ∀ j, j < want.length → (back = true → gI want j ≤ g2 b.has t.toNat j) ∧ (back = false → g2 b.has t.toNat j + gI want j ≤ g2 b.claim t.toNat j),
    ⟨fun n i h => ∃ k : Nat, i = (k : Int) ∧ k ≤ want.length ∧ n = want.length - k ∧ h = ⟨own ++ [bkE r1 sf sc sh, E3], ro⟩ ∧ ∀ j, j < k → (back = true → gI want j ≤ g2 b.has t.toNat j) ∧ (back = false → g2 b.has t.toNat j + gI want j ≤ g2 b.claim t.toNat j), ⟨_, gi ⟨0, rfl, Nat.zero_le _, rfl, rfl, fun j hj => by omega⟩⟩, ?_⟩, ?_⟩
  · rintro n _ i _ ⟨k, rfl, hk', rfl, rfl, hall⟩
    simp only [f24_L4, f24_J3, add_mk', Nat.zero_add, Nat.add_zero]
    refine VIf_dec (fun hi => ?_) (fun hi => gi ⟨rfl, fun t ht => hall t (by omega)⟩)
    have h5 := hwr k (by omega)
    have h6 := ho.c t.toNat k (by omega) (by omega)
    have e2 : gI ((b.has[t.toNat]?).getD []) ((k : Nat) : Int).toNat = g2 b.has t.toNat k := rfl
    have e1 : gI ((b.claim[t.toNat]?).getD []) ((k : Nat) : Int).toNat = g2 b.claim t.toNat k := rfl
    refine join_b (h := ⟨own ++ [bkE r1 sf sc sh, E3], ro⟩) (decide (back = true ∧ gI want k > g2 b.has t.toNat k)) (VIf_b (fun hbt => idxG hwu (by omega) (by omega) ⟨sh, bkE_2 hE, hup.ha t0 (by omega) fun xh hxh hlh => idxG hxh (by omega) (by omega) (gi ⟨rfl, ?_⟩)⟩) (fun hbf => gi ⟨rfl, (decide_eq_false (by simp [hbf])).symm⟩)) (VIf_dec (fun hc => ⟨rfl, rfl, bad0 ?_ ?_⟩) (fun hc => ?_))
    · rw [e2, Int.toNat_natCast]
      exact decide_eq_decide.2 ⟨fun h => ⟨hbt, h⟩, fun h => h.2⟩
    · rw [he, hc.1, if_pos rfl, bback, if_neg (by simpa using hz), if_pos ⟨k, by omega, hc.2⟩]; decide
    · rw [he, hc.1, if_pos rfl, bback, if_neg (by simpa using hz), if_pos ⟨k, by omega, hc.2⟩]
    refine join_b (h := ⟨own ++ [bkE r1 sf sc sh, E3], ro⟩) (decide (back = false ∧ g2 b.has t.toNat k + gI want k > g2 b.claim t.toNat k)) (VIf_nb (fun hbf => ⟨sh, bkE_2 hE, hup.ha t0 (by omega) fun xh hxh hlh => idxG hxh (by omega) (by omega) (idxG hwu (by omega) (by omega) ?_)⟩) (fun hbt => gi ⟨rfl, (decide_eq_false (by simp [hbt])).symm⟩)) (VIf_dec (fun hc2 => ⟨rfl, rfl, bad0 ?_ ?_⟩) (fun hc2 => ⟨⟨by omega, by omega⟩, want.length - (k + 1), by omega, gi ⟨k + 1, by omega, by omega, rfl, rfl, fun j hj => ?_⟩⟩))
    · rw [e2, Int.toNat_natCast]
      refine ⟨⟨by omega, by omega⟩, sc, bkE_1 hE, hup.ca t0 t1 fun xc hxc hlc => idxG hxc (by omega) (by omega) (gi ⟨rfl, ?_⟩)⟩
      rw [e1]
      exact decide_eq_decide.2 ⟨fun h => ⟨hbf, h⟩, fun h => h.2⟩
    · rw [he, hc2.1, if_neg (by simp), bask, if_neg (by simpa using hz), if_pos ⟨k, by omega, hc2.2⟩]; decide
    · rw [he, hc2.1, if_neg (by simp), bask, if_neg (by simpa using hz), if_pos ⟨k, by omega, hc2.2⟩]
    · by_cases hjk : j = k
      · subst hjk
        exact ⟨fun h => Int.not_lt.1 fun h2 => hc ⟨h, h2⟩, fun h => Int.not_lt.1 fun h2 => hc2 ⟨h, h2⟩⟩
      · exact hall j (by omega)
  rintro _ _ ⟨rfl, hall⟩
  simp only [f24_J7, f24_J6, add_mk', Nat.zero_add, Nat.add_zero]
  refine VIf_b (fun hbt => ?_) (fun hbf => ?_)
  · subst hbt
    have hcl := fun j hj => (hall j hj).1 rfl
    have n6 : ¬ ∃ k, k < want.length ∧ gI want k > g2 b.has t.toNat k := fun ⟨k, h5, h6⟩ => by have := hcl k h5; omega
    have e6 : e = 0 := by rw [he, if_pos rfl, bback, if_neg (by simpa using hz), if_neg n6]
    refine ⟨sf, bkE_0 hE, sc, bkE_1 hE, sh, bkE_2 hE, ref4_moved_c hb hw ho t0 t1 hl hwr (.inr rfl) (fun sf' sc' sh' ro' hm hb' => ⟨sf', sc', sh', rfl, rfl, rfl, ?_⟩)⟩
    refine bk_out (cs := [Value.slice none 0 0, .slice none 0 0, .slice none 0 0]) (own ++ [bkE r1 sf sc sh]) [] (by simp [hE3]) rfl ?_
    exact ⟨⟨own, ro'⟩, Gh.drop (by simp), h1 e6 hA sf' sc' sh' ro' hm hb'⟩
  subst hbf
  have hcl := fun j hj => (hall j hj).2 rfl
  have n6 : ¬ ∃ k, k < want.length ∧ g2 b.has t.toNat k + gI want k > g2 b.claim t.toNat k := fun ⟨k, h5, h6⟩ => by have := hcl k h5; omega
  refine ⟨fun h => h = ⟨own ++ [bkE r1 sf sc sh, E3], ro⟩ ∧ ∀ k, k < want.length → gI want k ≤ gI b.free k,
    ⟨fun n i h => ∃ k : Nat, i = (k : Int) ∧ k ≤ want.length ∧ n = want.length - k ∧ h = ⟨own ++ [bkE r1 sf sc sh, E3], ro⟩ ∧ ∀ j, j < k → gI want j ≤ gI b.free j, ⟨_, gi ⟨0, rfl, Nat.zero_le _, rfl, rfl, fun j hj => by omega⟩⟩, ?_⟩, ?_⟩
  · rintro n _ i _ ⟨k, rfl, hk', rfl, rfl, hall⟩
    simp only [f24_L5, add_mk', Nat.zero_add, Nat.add_zero]
    refine VIf_dec (fun hi => ?_) (fun hi => gi ⟨rfl, fun t ht => hall t (by omega)⟩)
    refine idxG hwu (by omega) (by omega) ⟨sf, bkE_0 hE, idxG hup.f (by omega) (by omega) ?_⟩
    rw [Int.toNat_natCast]
    refine VIf_dec (fun hgt => ?_) (fun hle => ⟨⟨by omega, by omega⟩, want.length - (k + 1), by omega, gi ⟨k + 1, by omega, by omega, rfl, rfl, fun j hj => ?_⟩⟩)
    · have e6 : e = 5 := by rw [he, if_neg (by simp), bask, if_neg (by simpa using hz), if_neg n6, if_pos ⟨k, by omega, hgt⟩]
      exact ⟨rfl, rfl, bad0 (by rw [e6]; decide) e6.symm⟩
    · by_cases hjk : j = k
      · subst hjk; omega
      · exact hall j (by omega)
  rintro _ _ ⟨rfl, hfr⟩
  have n5 : ¬ ∃ k, k < want.length ∧ gI want k > gI b.free k := fun ⟨k, h5, h6⟩ => by have := hfr k h5; omega
  have ho2 := bask_mv hA hcl hfr
  refine ⟨sf, bkE_0 hE, sc, bkE_1 hE, sh, bkE_2 hE, ref4_moved_c hb hw ho t0 t1 hl hwr (.inl rfl) (fun sf' sc' sh' ro' hm hb' => ⟨sf', sc', sh', rfl, ?_⟩)⟩
  intro r149 _
  refine ⟨rfl, rfl, ?_⟩
  refine bk_out (own ++ [bkE r1 sf sc sh, E3]) [] rfl rfl ?_
  refine ref4_safe_c hb' ho2 (fun hr ro2 m2 => ⟨⟨none, 0, 0⟩, false, rfl, VIf_nb (fun _ => ?_) (nomatch ·)⟩) (fun r s' ro2 m2 hr _ => ⟨s', true, rfl, VIf_nb (nomatch ·) (fun _ => ?_)⟩)
  · have e6 : e = 7 := by rw [he, if_neg (by simp), bask, if_neg (by simpa using hz), if_neg n6, if_neg n5, if_pos hr]
    exact ⟨rfl, rfl, bad (by rw [e6]; decide) (fun a v h => m2 a v (hm a v h)) e6.symm⟩
  · have e6 : e = 0 := by rw [he, if_neg (by simp), bask, if_neg (by simpa using hz), if_neg n6, if_neg n5, if_neg (by rw [hr]; exact fun h => nomatch h)]
    have hm149 : bkE r149 sf' sc' sh' ∈ own ++ [bkE r1 sf sc sh, E3] ++ [bkE r149 sf' sc' sh'] := by simp
    refine ⟨sf', bkE_0 hm149, sc', bkE_1 hm149, sh', bkE_2 hm149, rfl, rfl, ?_⟩
    refine bk_out (cs := [Value.slice none 0 0, .slice none 0 0, .slice none 0 0]) (own ++ [bkE r1 sf sc sh]) [bkE r149 sf' sc' sh'] (by simp [hE3]) rfl ?_
    exact ⟨⟨own, ro2⟩, Gh.drop (by simp), h1 e6 hA sf' sc' sh' ro2 (fun a v h => m2 a v (hm a v h)) (hb'.mono (by simp) m2)⟩
/-! #### the law -/
def nilB : Bk := ⟨[], [], []⟩
theorem nilB_rd {h : H} : BkRd h nilV nilV nilV nilB := ⟨⟨rfl, fun _ => rfl, fun b hb => nomatch hb⟩, ⟨[], ⟨⟨rfl, fun _ => rfl, fun b hb => nomatch hb⟩, by simp⟩, rfl⟩, ⟨[], ⟨⟨rfl, fun _ => rfl, fun b hb => nomatch hb⟩, by simp⟩, rfl⟩⟩
theorem nilB_sml : Sml nilB := ⟨by decide, ⟨by decide, by simp [nilB]⟩, ⟨by decide, by simp [nilB]⟩⟩
theorem bmv_sml {b : Bk} (ho : BOk b) {t : Nat} {want : List Int} {s : Int} : Sml (bmv b t want s) := by
  have h := ho.sml
  refine ⟨by rw [bmv_fl]; exact h.f, h.c, ⟨by simpa [bmv] using h.h.1, fun l hl => ?_⟩⟩
  rcases mem_set_cases hl with rfl | ⟨j, _, hj⟩
  · simpa using h.f
  · exact h.h.2 l (List.mem_of_getElem? hj)
/-- what two ways tell alike -/
theorem says_same' {x e : Int} {own : List Ent} {ro : Addr → Option Value} {post : Value → H → Prop} (hG : HasErrT ro) (he : x = e) (hK : post (.bool true) ⟨own, ro⟩) : SemCall Tryd.prog 11 (List.toArray [errV (eno 60 x), .int .i64 e]) ⟨own, ro⟩ post :=
  same_error_c hG (by subst he; simpa using hK)
theorem says_same {x e : Int} {own : List Ent} {ro : Addr → Option Value} {K : H → Prop} (hG : HasErrT ro) (he : x = e) (hK : K ⟨own, ro⟩) : SemCall Tryd.prog 11 (List.toArray [errV (eno 60 x), .int .i64 e]) ⟨own, ro⟩ fun v h => v = .bool true ∧ K h :=
  same_error_c hG (by subst he; simpa using hK)

end Go.Proofs.YtnppmcgmmdcpiaaDoor
