import Derived.Test.YtnepjdobknjecaaDoorBA
import Derived.Test.YtnepjdobknjecaaDoorTl
namespace Go.Proofs.YtnepjdobknjecaaDoor
open Go.Eng
set_option maxRecDepth 20000
/-! ### the document's bank: lent, and given back -/
set_option maxHeartbeats 1600000 in
theorem ref4_lend_c {b : Bk} {sf sc sh sw : SV} {want : List Int} {t : Int} (back : Bool) {own : List Ent} {ro : Addr → Option Value} {post : Value → H → Prop} (hb : BkRd ⟨[], ro⟩ sf sc sh b) (hw : RdSl ⟨[], ro⟩ sw (ints want))
    (h0 : (if back = true then bback b t want else bask b t want) ≠ 0 → ∀ ro', (∀ a v, ro a = some v → ro' a = some v) → post (.tuple (List.toArray [bkV nilV nilV nilV, .int .i64 (if back = true then bback b t want else bask b t want)])) ⟨own, ro'⟩)
    (h1 : (if back = true then bback b t want else bask b t want) = 0 → BAsk b t want → ∀ sf' sc' sh' ro', (∀ a v, ro a = some v → ro' a = some v) → BkRd ⟨[], ro'⟩ sf' sc' sh' (bmv b t.toNat want (if back = true then -1 else 1)) → post (.tuple (List.toArray [bkV sf' sc' sh', .int .i64 0])) ⟨own, ro'⟩) :
    SemCall Tryd.prog 18 (List.toArray [bkV sf sc sh, .int .i64 t, .slice sw.a sw.len sw.cap, .bool back]) ⟨own, ro⟩ post := by
  refine f18_call sf sc sh t sw back _ post ?_
  intro r1 _ r3 _
  simp only [add_mk', Nat.zero_add, Nat.add_zero]
  obtain ⟨E3, hE3⟩ : ∃ E3 : Ent, E3 = ⟨some r3, [Value.slice none 0 0, .slice none 0 0, .slice none 0 0], 3⟩ := ⟨_, rfl⟩
  have hE3' : (⟨some r3, [Value.slice none 0 0, .slice none 0 0, .slice none 0 0], List.length [Value.slice none 0 0, .slice none 0 0, .slice none 0 0]⟩ : Ent) = E3 := by rw [hE3]; rfl
  have hE1' : (⟨some r1, [Value.slice sf.a sf.len sf.cap, .slice sc.a sc.len sc.cap, .slice sh.a sh.len sh.cap], List.length [Value.slice sf.a sf.len sf.cap, .slice sc.a sc.len sc.cap, .slice sh.a sh.len sh.cap]⟩ : Ent) = bkE r1 sf sc sh := rfl
  have hc2 : own ++ [bkE r1 sf sc sh] ++ [E3] = own ++ [bkE r1 sf sc sh, E3] := by simp
  rw [hE1', hE3', hc2]
  have hup : ∀ {X}, BkRd ⟨X, ro⟩ sf sc sh b := fun {X} => hb.mono (by simp) (fun _ _ h => h)
  have hwu : ∀ {X}, RdSl ⟨X, ro⟩ sw (ints want) := fun {X} => hw.mono (by simp) (fun _ _ h => h)
  have hE : bkE r1 sf sc sh ∈ own ++ [bkE r1 sf sc sh, E3] := by simp
  have swl := hw.len
  rw [ints_length] at swl
  have cl := hb.cl
  have fl := hb.fl
  have hhl' := hb.hl
  obtain ⟨e, he⟩ : ∃ e, e = (if back = true then bback b t want else bask b t want) := ⟨_, rfl⟩
  rw [← he] at h0 h1
  have bad : ∀ {ro' : Addr → Option Value} {X : List Ent} {v : Int}, e ≠ 0 → (∀ a v, ro a = some v → ro' a = some v) → v = e →
      H.wr ⟨own ++ [bkE r1 sf sc sh, E3] ++ X, ro'⟩ (Addr.mk r3 0 none) [.slice none 0 0, .slice none 0 0, .slice none 0 0] fun h => ∃ x : SV, H.rd h (Addr.mk r3 0 none) (.slice x.a x.len x.cap) ∧ ∃ y : SV, H.rd h (Addr.mk r3 1 none) (.slice y.a y.len y.cap) ∧ ∃ z : SV, H.rd h (Addr.mk r3 2 none) (.slice z.a z.len z.cap) ∧ VRet h (.tuple (List.toArray [.agg (List.toArray [.slice x.a x.len x.cap, .slice y.a y.len y.cap, .slice z.a z.len z.cap]), .int .i64 v])) post := by
    intro ro' X v hne hm hv
    refine bk_out (sf := nilV) (sc := nilV) (sh := nilV) (cs := [Value.slice none 0 0, .slice none 0 0, .slice none 0 0]) (own ++ [bkE r1 sf sc sh]) X (by simp [hE3]) rfl ?_
    rw [hv]
    exact ⟨⟨own, ro'⟩, Gh.drop (by simp), h0 hne ro' hm⟩
  have bad0 := fun {v : Int} (hne : e ≠ 0) (hv : v = e) => by
    have := bad (ro' := ro) (X := []) hne (fun _ _ h => h) hv
    rwa [List.append_nil] at this
  refine ⟨sf, bkE_0 hE, sc, bkE_1 hE, sh, bkE_2 hE, ref4_bank_c hup ⟨_, rfl, ?_⟩⟩
  refine join_b (h := ⟨own ++ [bkE r1 sf sc sh, E3], ro⟩) (decide (bcheck b = 0 ∧ ¬ (0 ≤ t ∧ t ≤ (b.claim.length : Int) - 1))) (VIf_eq (fun hz => ⟨sc, bkE_1 hE, ?_⟩) (fun hz => gi ⟨rfl, (decide_eq_false (fun h => hz h.1)).symm⟩)) ?_
  · have := (bcheck_zero.1 hz).m5
    refine ⟨⟨by omega, by omega⟩, ref4_in_i (fun hc => ⟨_, rfl, gi ⟨rfl, (decide_eq_true ⟨hz, by omega⟩).symm⟩⟩) (fun c0 c1 => ⟨_, rfl, gi ⟨rfl, (decide_eq_false (by omega)).symm⟩⟩)⟩
  obtain ⟨e1, he1⟩ : ∃ e1 : Int, e1 = if bcheck b ≠ 0 then bcheck b else if ¬ (0 ≤ t ∧ t ≤ (b.claim.length : Int) - 1) then 1 else 0 := ⟨_, rfl⟩
  refine ⟨fun x h => h = ⟨own ++ [bkE r1 sf sc sh, E3], ro⟩ ∧ x = e1, VIf_dec (fun hc => gi ⟨rfl, ?_⟩) (fun hc => gi ⟨rfl, ?_⟩), ?_⟩
  · rw [he1, if_neg (by omega), if_pos hc.2]
  · rw [he1]
    by_cases hz : bcheck b = 0
    · rw [if_neg (by omega), if_neg (fun h => hc ⟨hz, h⟩)]; exact hz
    · rw [if_pos hz]
  rintro _ x _ ⟨rfl, rfl⟩
  simp only [add_mk', Nat.zero_add, Nat.add_zero]
  refine join_b (h := ⟨own ++ [bkE r1 sf sc sh, E3], ro⟩) (decide (x = 0 ∧ want.length ≠ b.free.length)) (VIf_eq (fun hz => ⟨sf, bkE_0 hE, gi ⟨rfl, ?_⟩⟩) (fun hz => gi ⟨rfl, (decide_eq_false (fun h => hz h.1)).symm⟩)) ?_
  · rw [bne_dec]; exact decide_eq_decide.2 ⟨fun h => ⟨hz, by omega⟩, fun h => by omega⟩
  obtain ⟨e2, he2⟩ : ∃ e2 : Int, e2 = if x ≠ 0 then x else if want.length ≠ b.free.length then 3 else 0 := ⟨_, rfl⟩
  refine ⟨fun y h => h = ⟨own ++ [bkE r1 sf sc sh, E3], ro⟩ ∧ y = e2, VIf_dec (fun hc => gi ⟨rfl, ?_⟩) (fun hc => gi ⟨rfl, ?_⟩), ?_⟩
  · rw [he2, if_neg (by omega), if_pos hc.2]
  · rw [he2]
    by_cases hz : x = 0
    · rw [if_neg (by omega), if_neg (fun h => hc ⟨hz, h⟩)]; exact hz
    · rw [if_pos hz]
  rintro _ y _ ⟨rfl, rfl⟩
  have hbk : basked b t want = if y ≠ 0 then y else if ∃ k, k < want.length ∧ ¬ (0 ≤ gI want k ∧ gI want k ≤ 1000) then 1 else 0 := by
    rw [he2, he1]
    unfold basked
    by_cases c1 : bcheck b ≠ 0
    · rw [if_pos c1, if_pos c1, if_pos c1, if_pos c1]
    · rw [if_neg c1, if_neg c1]
      by_cases c2 : ¬ (0 ≤ t ∧ t ≤ (b.claim.length : Int) - 1)
      · rw [if_pos c2, if_pos c2]; rfl
      · rw [if_neg c2, if_neg c2]
        by_cases c3 : want.length ≠ b.free.length
        · rw [if_pos c3, if_pos c3]; rfl
        · rw [if_neg c3, if_neg c3]; rfl
  have hlen : y = 0 → b.free.length ≤ 3 ∧ want.length = b.free.length := fun hy => by
    have hx0 : x = 0 := Classical.byContradiction fun hx => by rw [he2, if_pos hx] at hy; exact hx hy
    have h9 : want.length = b.free.length := Classical.byContradiction fun h => by rw [he2, if_neg (by omega), if_pos h] at hy; cases hy
    have h8 : bcheck b = 0 := Classical.byContradiction fun h => by rw [he1, if_pos h] at hx0; exact h hx0
    exact ⟨(bcheck_zero.1 h8).n3, h9⟩
  clear he1 he2
  refine ⟨fun z h => h = ⟨own ++ [bkE r1 sf sc sh, E3], ro⟩ ∧ z = basked b t want,
    ⟨fun n z i h => ∃ k : Nat, i = (k : Int) ∧ k ≤ want.length ∧ n = want.length - k ∧ h = ⟨own ++ [bkE r1 sf sc sh, E3], ro⟩ ∧ ((y ≠ 0 ∧ z = y) ∨ (y = 0 ∧ z = 1 ∧ ∃ i, i < want.length ∧ ¬ (0 ≤ gI want i ∧ gI want i ≤ 1000)) ∨ (y = 0 ∧ z = 0 ∧ ∀ i, i < k → (0 ≤ gI want i ∧ gI want i ≤ 1000))),
      ⟨_, gi ⟨0, rfl, Nat.zero_le _, rfl, rfl, by
        by_cases hy : y = 0
        · exact .inr (.inr ⟨hy, hy, fun i hi => by omega⟩)
        · exact .inl ⟨hy, rfl⟩⟩⟩, ?_⟩, ?_⟩
  · rintro n _ z i _ ⟨k, rfl, hk', rfl, rfl, hz⟩
    simp only [f18_L2, f18_J1]
    refine join_b (h := ⟨own ++ [bkE r1 sf sc sh, E3], ro⟩) (decide (k < want.length ∧ z = 0)) (VIf_dec (fun hk2 => gi ⟨rfl, ?_⟩) (fun hk2 => gi ⟨rfl, (decide_eq_false (by omega)).symm⟩)) (VIf_dec (fun hc => ?_) (fun hc => gi ⟨rfl, ?_⟩))
    · show decide (z = 0) = _
      exact decide_eq_decide.2 ⟨fun h => ⟨by omega, h⟩, fun h => h.2⟩
    · have hz : y = 0 ∧ ∀ i, i < k → (0 ≤ gI want i ∧ gI want i ≤ 1000) := by
        rcases hz with ⟨h1, h2⟩ | ⟨_, h2, _⟩ | ⟨h1, _, h3⟩
        · omega
        · omega
        · exact ⟨h1, h3⟩
      have hln := hlen hz.1
      refine idxG hwu (by omega) (by omega) (ref4_in_i (fun hc2 => ⟨_, rfl, VIf_nb (fun _ => ⟨⟨by omega, by omega⟩, want.length - (k + 1), by omega, gi ⟨k + 1, by omega, by omega, rfl, rfl, .inr (.inl ⟨hz.1, (by trivial), k, hc.1, hc2⟩)⟩⟩) (nomatch ·)⟩) (fun c0 c1 => ⟨_, rfl, VIf_nb (nomatch ·) (fun _ => ⟨⟨by omega, by omega⟩, want.length - (k + 1), by omega, gi ⟨k + 1, by omega, by omega, rfl, rfl, .inr (.inr ⟨hz.1, hc.2, fun i hi => ?_⟩)⟩⟩)⟩))
      by_cases hik : i = k
      · subst hik; exact ⟨c0, c1⟩
      · exact hz.2 i (by omega)
    · rw [hbk]
      rcases hz with ⟨h1, h2⟩ | ⟨h1, h2, h3⟩ | ⟨h1, h2, h3⟩
      · rw [if_pos h1, h2]
      · rw [if_neg (by omega), if_pos h3, h2]
      · rw [if_neg (by omega), if_neg (by rintro ⟨i, hi, hni⟩; exact hni (h3 i (by omega))), h2]
  clear hbk hlen
  rintro _ z _ ⟨rfl, rfl⟩
  simp only [f18_J8, add_mk', Nat.zero_add, Nat.add_zero]
  refine VIf_ne (fun hne => ⟨rfl, rfl, bad0 ?_ ?_⟩) (fun hz => ?_)
  · rw [he]; cases back
    · rw [if_neg (by simp), bask, if_pos hne]; exact hne
    · rw [if_pos rfl, bback, if_pos hne]; exact hne
  · rw [he]; cases back
    · rw [if_neg (by simp), bask, if_pos hne]
    · rw [if_pos rfl, bback, if_pos hne]
  have hA := basked_zero hz
  obtain ⟨ho, t0, t1, hl, hwr⟩ := hA
  have hA : BAsk b t want := ⟨ho, t0, t1, hl, hwr⟩
  have hm5 := ho.m5
  have hn3 := ho.n3
  have hhl := ho.hl
  obtain ⟨cn1, cn2⟩ := ho.cn t.toNat (by omega)
  refine ⟨fun h => h = ⟨own ++ [bkE r1 sf sc sh, E3], ro⟩ ∧ ∀ j, j < want.length → (back = true → gI want j ≤ g2 b.has t.toNat j) ∧ (back = false → g2 b.has t.toNat j + gI want j ≤ g2 b.claim t.toNat j),
    ⟨fun n i h => ∃ k : Nat, i = (k : Int) ∧ k ≤ want.length ∧ n = want.length - k ∧ h = ⟨own ++ [bkE r1 sf sc sh, E3], ro⟩ ∧ ∀ j, j < k → (back = true → gI want j ≤ g2 b.has t.toNat j) ∧ (back = false → g2 b.has t.toNat j + gI want j ≤ g2 b.claim t.toNat j), ⟨_, gi ⟨0, rfl, Nat.zero_le _, rfl, rfl, fun j hj => by omega⟩⟩, ?_⟩, ?_⟩
  · rintro n _ i _ ⟨k, rfl, hk', rfl, rfl, hall⟩
    simp only [f18_L4, f18_J3, add_mk', Nat.zero_add, Nat.add_zero]
    refine VIf_dec (fun hi => ?_) (fun hi => gi ⟨rfl, fun t ht => hall t (by omega)⟩)
    have h5 := hwr k (by omega)
    have h6 := ho.c t.toNat k (by omega) (by omega)
    have e2 : gI ((b.has[t.toNat]?).getD []) ((k : Nat) : Int).toNat = g2 b.has t.toNat k := rfl
    have e1 : gI ((b.claim[t.toNat]?).getD []) ((k : Nat) : Int).toNat = g2 b.claim t.toNat k := rfl
    refine join_b (h := ⟨own ++ [bkE r1 sf sc sh, E3], ro⟩) (decide (back = true ∧ gI want k > g2 b.has t.toNat k)) (VIf_b (fun hbt => idxG hwu (by omega) (by omega) ⟨sh, bkE_2 hE, hup.ha t0 (by omega) fun xh hxh hlh => idxG hxh (by omega) (by omega) (gi ⟨rfl, ?_⟩)⟩) (fun hbf => gi ⟨rfl, (decide_eq_false (by simp [hbf])).symm⟩)) (VIf_dec (fun hc => ⟨rfl, rfl, bad0 ?_ ?_⟩) (fun hc => ?_))
    · rw [e2, Int.toNat_natCast]
      exact decide_eq_decide.2 ⟨fun h => ⟨hbt, h⟩, fun h => h.2⟩
    · rw [he, hc.1, if_pos rfl, bback, if_neg (by simpa using hz), if_pos ⟨k, by omega, hc.2⟩]; decide
    · rw [he, hc.1, if_pos rfl, bback, if_neg (by simpa using hz), if_pos ⟨k, by omega, hc.2⟩]
    refine join_b (h := ⟨own ++ [bkE r1 sf sc sh, E3], ro⟩) (decide (back = false ∧ g2 b.has t.toNat k + gI want k > g2 b.claim t.toNat k)) (VIf_nb (fun hbf => ⟨sh, bkE_2 hE, hup.ha t0 (by omega) fun xh hxh hlh => idxG hxh (by omega) (by omega) (idxG hwu (by omega) (by omega) ?_)⟩) (fun hbt => gi ⟨rfl, (decide_eq_false (by simp [hbt])).symm⟩)) (VIf_dec (fun hc2 => ⟨rfl, rfl, bad0 ?_ ?_⟩) (fun hc2 => ⟨⟨by omega, by omega⟩, want.length - (k + 1), by omega, gi ⟨k + 1, by omega, by omega, rfl, rfl, fun j hj => ?_⟩⟩))
    · rw [e2, Int.toNat_natCast]
      refine ⟨⟨by omega, by omega⟩, sc, bkE_1 hE, hup.ca t0 t1 fun xc hxc hlc => idxG hxc (by omega) (by omega) (gi ⟨rfl, ?_⟩)⟩
      rw [e1]
      exact decide_eq_decide.2 ⟨fun h => ⟨hbf, h⟩, fun h => h.2⟩
    · rw [he, hc2.1, if_neg (by simp), bask, if_neg (by simpa using hz), if_pos ⟨k, by omega, hc2.2⟩]; decide
    · rw [he, hc2.1, if_neg (by simp), bask, if_neg (by simpa using hz), if_pos ⟨k, by omega, hc2.2⟩]
    · by_cases hjk : j = k
      · subst hjk
        exact ⟨fun h => Int.not_lt.1 fun h2 => hc ⟨h, h2⟩, fun h => Int.not_lt.1 fun h2 => hc2 ⟨h, h2⟩⟩
      · exact hall j (by omega)
  rintro _ _ ⟨rfl, hall⟩
  simp only [f18_J7, f18_J6, add_mk', Nat.zero_add, Nat.add_zero]
  refine VIf_b (fun hbt => ?_) (fun hbf => ?_)
  · subst hbt
    have hcl := fun j hj => (hall j hj).1 rfl
    have n6 : ¬ ∃ k, k < want.length ∧ gI want k > g2 b.has t.toNat k := fun ⟨k, h5, h6⟩ => by have := hcl k h5; omega
    have e6 : e = 0 := by rw [he, if_pos rfl, bback, if_neg (by simpa using hz), if_neg n6]
    refine ⟨sf, bkE_0 hE, sc, bkE_1 hE, sh, bkE_2 hE, ref4_moved_c hb hw ho t0 t1 hl hwr (.inr rfl) (fun sf' sc' sh' ro' hm hb' => ⟨sf', sc', sh', rfl, rfl, rfl, ?_⟩)⟩
    refine bk_out (cs := [Value.slice none 0 0, .slice none 0 0, .slice none 0 0]) (own ++ [bkE r1 sf sc sh]) [] (by simp [hE3]) rfl ?_
    exact ⟨⟨own, ro'⟩, Gh.drop (by simp), h1 e6 hA sf' sc' sh' ro' hm hb'⟩
  subst hbf
  have hcl := fun j hj => (hall j hj).2 rfl
  have n6 : ¬ ∃ k, k < want.length ∧ g2 b.has t.toNat k + gI want k > g2 b.claim t.toNat k := fun ⟨k, h5, h6⟩ => by have := hcl k h5; omega
  refine ⟨fun h => h = ⟨own ++ [bkE r1 sf sc sh, E3], ro⟩ ∧ ∀ k, k < want.length → gI want k ≤ gI b.free k,
    ⟨fun n i h => ∃ k : Nat, i = (k : Int) ∧ k ≤ want.length ∧ n = want.length - k ∧ h = ⟨own ++ [bkE r1 sf sc sh, E3], ro⟩ ∧ ∀ j, j < k → gI want j ≤ gI b.free j, ⟨_, gi ⟨0, rfl, Nat.zero_le _, rfl, rfl, fun j hj => by omega⟩⟩, ?_⟩, ?_⟩
  · rintro n _ i _ ⟨k, rfl, hk', rfl, rfl, hall⟩
    simp only [f18_L5, add_mk', Nat.zero_add, Nat.add_zero]
    refine VIf_dec (fun hi => ?_) (fun hi => gi ⟨rfl, fun t ht => hall t (by omega)⟩)
    refine idxG hwu (by omega) (by omega) ⟨sf, bkE_0 hE, idxG hup.f (by omega) (by omega) ?_⟩
    rw [Int.toNat_natCast]
    refine VIf_dec (fun hgt => ?_) (fun hle => ⟨⟨by omega, by omega⟩, want.length - (k + 1), by omega, gi ⟨k + 1, by omega, by omega, rfl, rfl, fun j hj => ?_⟩⟩)
    · have e6 : e = 5 := by rw [he, if_neg (by simp), bask, if_neg (by simpa using hz), if_neg n6, if_pos ⟨k, by omega, hgt⟩]
      exact ⟨rfl, rfl, bad0 (by rw [e6]; decide) e6.symm⟩
    · by_cases hjk : j = k
      · subst hjk; omega
      · exact hall j (by omega)
  rintro _ _ ⟨rfl, hfr⟩
  have n5 : ¬ ∃ k, k < want.length ∧ gI want k > gI b.free k := fun ⟨k, h5, h6⟩ => by have := hfr k h5; omega
  have ho2 := bask_mv hA hcl hfr
  refine ⟨sf, bkE_0 hE, sc, bkE_1 hE, sh, bkE_2 hE, ref4_moved_c hb hw ho t0 t1 hl hwr (.inl rfl) (fun sf' sc' sh' ro' hm hb' => ⟨sf', sc', sh', rfl, ?_⟩)⟩
  intro r149 _
  refine ⟨rfl, rfl, ?_⟩
  refine bk_out (own ++ [bkE r1 sf sc sh, E3]) [] rfl rfl ?_
  refine ref4_safe_c hb' ho2 (fun hr ro2 m2 => ⟨⟨none, 0, 0⟩, false, rfl, VIf_nb (fun _ => ?_) (nomatch ·)⟩) (fun r s' ro2 m2 hr _ => ⟨s', true, rfl, VIf_nb (nomatch ·) (fun _ => ?_)⟩)
  · have e6 : e = 7 := by rw [he, if_neg (by simp), bask, if_neg (by simpa using hz), if_neg n6, if_neg n5, if_pos hr]
    exact ⟨rfl, rfl, bad (by rw [e6]; decide) (fun a v h => m2 a v (hm a v h)) e6.symm⟩
  · have e6 : e = 0 := by rw [he, if_neg (by simp), bask, if_neg (by simpa using hz), if_neg n6, if_neg n5, if_neg (by rw [hr]; exact fun h => nomatch h)]
    have hm149 : bkE r149 sf' sc' sh' ∈ own ++ [bkE r1 sf sc sh, E3] ++ [bkE r149 sf' sc' sh'] := by simp
    refine ⟨sf', bkE_0 hm149, sc', bkE_1 hm149, sh', bkE_2 hm149, rfl, rfl, ?_⟩
    refine bk_out (cs := [Value.slice none 0 0, .slice none 0 0, .slice none 0 0]) (own ++ [bkE r1 sf sc sh]) [bkE r149 sf' sc' sh'] (by simp [hE3]) rfl ?_
    exact ⟨⟨own, ro2⟩, Gh.drop (by simp), h1 e6 hA sf' sc' sh' ro2 (fun a v h => m2 a v (hm a v h)) (hb'.mono (by simp) m2)⟩
/-! #### the law -/
def nilB : Bk := ⟨[], [], []⟩
theorem nilB_rd {h : H} : BkRd h nilV nilV nilV nilB := ⟨⟨rfl, fun _ => rfl, fun b hb => nomatch hb⟩, ⟨[], ⟨⟨rfl, fun _ => rfl, fun b hb => nomatch hb⟩, by simp⟩, rfl⟩, ⟨[], ⟨⟨rfl, fun _ => rfl, fun b hb => nomatch hb⟩, by simp⟩, rfl⟩⟩
theorem nilB_sml : Sml nilB := ⟨by decide, ⟨by decide, by simp [nilB]⟩, ⟨by decide, by simp [nilB]⟩⟩
theorem bmv_sml {b : Bk} (ho : BOk b) {t : Nat} {want : List Int} {s : Int} : Sml (bmv b t want s) := by
  have h := ho.sml
  refine ⟨by rw [bmv_fl]; exact h.f, h.c, ⟨by simpa [bmv] using h.h.1, fun l hl => ?_⟩⟩
  rcases mem_set_cases hl with rfl | ⟨j, _, hj⟩
  · simpa using h.f
  · exact h.h.2 l (List.mem_of_getElem? hj)
/-- what two ways tell alike -/
theorem says_same' {x e : Int} {own : List Ent} {ro : Addr → Option Value} {post : Value → H → Prop} (hG : HasErrT ro) (he : x = e) (hK : post (.bool true) ⟨own, ro⟩) : SemCall Tryd.prog 14 (List.toArray [errV (eno 58 x), .int .i64 e]) ⟨own, ro⟩ post :=
  same_error_c hG (by subst he; simpa using hK)
theorem says_same {x e : Int} {own : List Ent} {ro : Addr → Option Value} {K : H → Prop} (hG : HasErrT ro) (he : x = e) (hK : K ⟨own, ro⟩) : SemCall Tryd.prog 14 (List.toArray [errV (eno 58 x), .int .i64 e]) ⟨own, ro⟩ fun v h => v = .bool true ∧ K h :=
  same_error_c hG (by subst he; simpa using hK)

set_option maxHeartbeats 800000 in
theorem bankSays_c {b : Bk} {sf sc sh sw : SV} {t : Int} {want : List Int} {ro : Addr → Option Value} {post : Value → H → Prop} (hG : HasErrT ro) (hb : BkRd ⟨[], ro⟩ sf sc sh b) (hw : RdSl ⟨[], ro⟩ sw (ints want)) (hpost : ∀ h, post (.bool true) h) :
    SemCall Tryd.prog 5 (List.toArray [bkV sf sc sh, .int .i64 t, .slice sw.a sw.len sw.cap]) ⟨[], ro⟩ post := by
  refine f5_call sf sc sh t sw _ post ?_
  intro r1 _
  rw [show (⟨some r1, [Value.slice sf.a sf.len sf.cap, .slice sc.a sc.len sc.cap, .slice sh.a sh.len sh.cap], List.length [Value.slice sf.a sf.len sf.cap, .slice sc.a sc.len sc.cap, .slice sh.a sh.len sh.cap]⟩ : Ent) = bkE r1 sf sc sh from rfl]
  simp only [add_mk', Nat.zero_add, Nat.add_zero, List.nil_append]
  have hbX : ∀ {X ro2}, (∀ a v, ro a = some v → ro2 a = some v) → BkRd ⟨X, ro2⟩ sf sc sh b := fun {X ro2} m => hb.mono (by simp) m
  have hwX : ∀ {X ro2}, (∀ a v, ro a = some v → ro2 a = some v) → RdSl ⟨X, ro2⟩ sw (ints want) := fun {X ro2} m => hw.mono (by simp) m
  have id' : ∀ a v, ro a = some v → ro a = some v := fun _ _ h => h
  have hE : ∀ {X}, bkE r1 sf sc sh ∈ bkE r1 sf sc sh :: X := fun {X} => .head _
  refine ⟨sf, bkE_0 hE, sc, bkE_1 hE, sh, bkE_2 hE, ref4_bank_c (hbX id') ⟨_, rfl, sf, bkE_0 hE, sc, bkE_1 hE, sh, bkE_2 hE, bank_check_c (hbX id') ⟨_, rfl, says_same' hG rfl ⟨_, rfl, ?_⟩⟩⟩⟩
  -- the row that is to be told
  refine ⟨fun s x h => ∃ ro2, (∀ a v, ro a = some v → ro2 a = some v) ∧ h = ⟨[bkE r1 sf sc sh], ro2⟩ ∧ ((bcheck b ≠ 0 ∧ s = nilV ∧ x = false) ∨ (bcheck b = 0 ∧ brow b = none ∧ s = nilV ∧ x = false) ∨ (bcheck b = 0 ∧ x = true ∧ ∃ r, brow b = some r ∧ RdSl ⟨[], ro2⟩ s (ints (r.map Int.ofNat)))), VIf_eq (fun hz => ?_) (fun hz => gi ⟨ro, id', rfl, .inl ⟨hz, rfl, rfl⟩⟩), ?_⟩
  · refine ⟨sf, bkE_0 hE, sc, bkE_1 hE, sh, bkE_2 hE, ref4_safe_c (hbX id') (bcheck_zero.1 hz) (fun hr ro2 m2 => ⟨nilV, false, rfl, gi ⟨ro2, m2, rfl, .inr (.inl ⟨hz, hr, rfl, rfl⟩)⟩⟩) (fun r s' ro2 m2 hr rs => ⟨s', true, rfl, gi ⟨ro2, m2, rfl, .inr (.inr ⟨hz, rfl, r, hr, rs⟩)⟩⟩)⟩
  rintro _ s x _ ⟨ro2, m2, rfl, hsx⟩
  have hG2 := HasErrT.up hG m2
  -- behind the second answer
  have rest : ∀ (X : List Ent), f5_J2 t sw post r1 true true ⟨bkE r1 sf sc sh :: X, ro2⟩ := by
    intro X
    simp only [f5_J2, add_mk', Nat.zero_add, Nat.add_zero]
    have nb : ∀ {c : Bool} {e : Int}, (if c = true then bback b t want else bask b t want) = e → (if c = true then bback b t want else bask b t want) = e := fun h => h
    -- one way and the other one tell the same
    have go : ∀ (e : Int) (x y z x' y' z' : SV) (b1 b2 : Bk) (r r' : Nat) (Y : List Ent) (ro3 : Addr → Option Value) (own : List Ent) (K : Bool → H → Prop), (∀ a v, ro a = some v → ro3 a = some v) → bkE r x y z ∈ own → bkE r' x' y' z' ∈ own → BkRd ⟨[], ro3⟩ x y z b1 → BkRd ⟨[], ro3⟩ x' y' z' b2 → b1 = b2 → Sml b1 → K true ⟨own, ro3⟩ →
        ∃ x79 : SV, H.rd ⟨own, ro3⟩ (Addr.mk r 0 none) (.slice x79.a x79.len x79.cap) ∧ ∃ x80 : SV, H.rd ⟨own, ro3⟩ (Addr.mk r 1 none) (.slice x80.a x80.len x80.cap) ∧ ∃ x81 : SV, H.rd ⟨own, ro3⟩ (Addr.mk r 2 none) (.slice x81.a x81.len x81.cap) ∧
        ∃ x82 : SV, H.rd ⟨own, ro3⟩ (Addr.mk r' 0 none) (.slice x82.a x82.len x82.cap) ∧ ∃ x83 : SV, H.rd ⟨own, ro3⟩ (Addr.mk r' 1 none) (.slice x83.a x83.len x83.cap) ∧ ∃ x84 : SV, H.rd ⟨own, ro3⟩ (Addr.mk r' 2 none) (.slice x84.a x84.len x84.cap) ∧
        SemCall Tryd.prog 20 (List.toArray [.agg (List.toArray [.slice x79.a x79.len x79.cap, .slice x80.a x80.len x80.cap, .slice x81.a x81.len x81.cap]), .agg (List.toArray [.slice x82.a x82.len x82.cap, .slice x83.a x83.len x83.cap, .slice x84.a x84.len x84.cap])]) ⟨own, ro3⟩ fun v85 h86 => ∃ x87 : Bool, v85 = .bool x87 ∧ ∃ h88, Gh h86 h88 ∧ K x87 h88 := by
      intro e x y z x' y' z' b1 b2 r r' Y ro3 own K m hm hm' h1 h2 he hs hK
      refine ⟨x, bkE_0 hm, y, bkE_1 hm, z, bkE_2 hm, x', bkE_0 hm', y', bkE_1 hm', z', bkE_2 hm', same_banks_c (h1.mono (by simp) (fun _ _ h => h)) (h2.mono (by simp) (fun _ _ h => h)) hs (fun _ => ⟨true, rfl, gi hK⟩) (fun h => absurd he h)⟩
    have fin : ∀ (Z : List Ent) (r60 r72 : Nat) (ro5 : Addr → Option Value) (c60 c72 : List Value), (∀ a v, ro a = some v → ro5 a = some v) → c60.length = 3 → c72.length = 3 → Z = bkE r1 sf sc sh :: (X ++ [⟨some r60, c60, 3⟩] ++ [⟨some r72, c72, 3⟩]) →
        f5_J1 t sw post r1 true true r60 r72 true ⟨Z, ro5⟩ := by
      intro Z r60 r72 ro5 c60 c72 m5 l60 l72 hZ
      subst hZ
      simp only [f5_J1, add_mk', Nat.zero_add, Nat.add_zero]
      have eb : (if (true : Bool) = true then bback b t want else bask b t want) = bback b t want := rfl
      refine ⟨sf, bkE_0 hE, sc, bkE_1 hE, sh, bkE_2 hE, ref4_lend_c true (hbX m5) (hwX m5) (fun hne ro6 m6 => ⟨nilV, nilV, nilV, _, rfl, rfl, rfl, ?_⟩) (fun h0 hA sf1 sc1 sh1 ro6 m6 hb1 => ⟨sf1, sc1, sh1, _, rfl, rfl, rfl, ?_⟩)⟩
      · have mm := fun a v h => m6 a v (m5 a v h)
        refine wro (bkE r1 sf sc sh :: X) ⟨some r60, c60, 3⟩ [⟨some r72, c72, 3⟩] ⟨rfl, rfl, rfl, trivial⟩ (by simp) rfl (by simp [l60]) ?_
        have e60 : (⟨some r60, spl c60 0 [.slice nilV.a nilV.len nilV.cap, .slice nilV.a nilV.len nilV.cap, .slice nilV.a nilV.len nilV.cap], 3⟩ : Ent) = bkE r60 nilV nilV nilV := by
          have : c60.drop 3 = [] := List.drop_eq_nil_of_le (by omega)
          simp [spl, bkE, this]
        rw [e60]
        refine ⟨sf, bkE_0 (.head _), sc, bkE_1 (.head _), sh, bkE_2 (.head _), bank_back_c (hbX mm) (hwX mm) (fun hne2 => ⟨nilV, nilV, nilV, _, rfl, rfl, rfl, ?_⟩) (fun h0 => absurd h0 hne)⟩
        refine wro (bkE r1 sf sc sh :: X ++ [bkE r60 nilV nilV nilV]) ⟨some r72, c72, 3⟩ [] ⟨rfl, rfl, rfl, trivial⟩ (by simp) rfl (by simp [l72]) ?_
        have e72 : (⟨some r72, spl c72 0 [.slice nilV.a nilV.len nilV.cap, .slice nilV.a nilV.len nilV.cap, .slice nilV.a nilV.len nilV.cap], 3⟩ : Ent) = bkE r72 nilV nilV nilV := by
          have : c72.drop 3 = [] := List.drop_eq_nil_of_le (by omega)
          simp [spl, bkE, this]
        rw [e72]
        refine ⟨fun x h => x = true, VIf_b (fun _ => VIf_b (fun _ => VIf_b (fun _ => ?_) (nomatch ·)) (nomatch ·)) (nomatch ·), fun _ x h hx => by subst hx; exact ret (hpost _)⟩
        refine says_same' (HasErrT.up hG mm) rfl ⟨_, rfl, VIf_b (fun _ => go 0 nilV nilV nilV nilV nilV nilV nilB nilB r72 r60 [] ro6 _ _ mm (by simp) (by simp) nilB_rd nilB_rd rfl nilB_sml rfl) (nomatch ·)⟩
      · have mm := fun a v h => m6 a v (m5 a v h)
        refine wro (bkE r1 sf sc sh :: X) ⟨some r60, c60, 3⟩ [⟨some r72, c72, 3⟩] ⟨rfl, rfl, rfl, trivial⟩ (by simp) rfl (by simp [l60]) ?_
        have e60 : (⟨some r60, spl c60 0 [.slice sf1.a sf1.len sf1.cap, .slice sc1.a sc1.len sc1.cap, .slice sh1.a sh1.len sh1.cap], 3⟩ : Ent) = bkE r60 sf1 sc1 sh1 := by
          have : c60.drop 3 = [] := List.drop_eq_nil_of_le (by omega)
          simp [spl, bkE, this]
        rw [e60]
        refine ⟨sf, bkE_0 (.head _), sc, bkE_1 (.head _), sh, bkE_2 (.head _), bank_back_c (hbX mm) (hwX mm) (fun hne2 => absurd h0 hne2) (fun _ _ sf2 sc2 sh2 ro7 m7 hb2 => ⟨sf2, sc2, sh2, none, rfl, rfl, rfl, ?_⟩)⟩
        have mm2 := fun a v h => m7 a v (mm a v h)
        refine wro (bkE r1 sf sc sh :: X ++ [bkE r60 sf1 sc1 sh1]) ⟨some r72, c72, 3⟩ [] ⟨rfl, rfl, rfl, trivial⟩ (by simp) rfl (by simp [l72]) ?_
        have e72 : (⟨some r72, spl c72 0 [.slice sf2.a sf2.len sf2.cap, .slice sc2.a sc2.len sc2.cap, .slice sh2.a sh2.len sh2.cap], 3⟩ : Ent) = bkE r72 sf2 sc2 sh2 := by
          have : c72.drop 3 = [] := List.drop_eq_nil_of_le (by omega)
          simp [spl, bkE, this]
        rw [e72]
        refine ⟨fun x h => x = true, VIf_b (fun _ => VIf_b (fun _ => VIf_b (fun _ => ?_) (nomatch ·)) (nomatch ·)) (nomatch ·), fun _ x h hx => by subst hx; exact ret (hpost _)⟩
        refine says_same' (x := 0) (HasErrT.up hG mm2) rfl ⟨_, rfl, VIf_b (fun _ => go 0 sf2 sc2 sh2 sf1 sc1 sh1 _ _ r72 r60 [] ro7 _ _ mm2 (by simp) (by simp) hb2 (hb1.mono (by simp) m7) rfl (bmv_sml hA.ok) rfl) (nomatch ·)⟩
    refine ⟨sf, bkE_0 hE, sc, bkE_1 hE, sh, bkE_2 hE, ref4_lend_c false (hbX m2) (hwX m2) (fun hne ro3 m3 => ⟨nilV, nilV, nilV, _, rfl, ?_⟩) (fun h0 hA sf1 sc1 sh1 ro3 m3 hb1 => ⟨sf1, sc1, sh1, _, rfl, ?_⟩)⟩
    · have hne : bask b t want ≠ 0 := hne
      have mm := fun a v h => m3 a v (m2 a v h)
      intro r60 _
      refine ⟨rfl, rfl, ?_⟩
      refine wro (bkE r1 sf sc sh :: X) ⟨some r60, [Value.slice none 0 0, .slice none 0 0, .slice none 0 0], 3⟩ [] ⟨rfl, rfl, rfl, trivial⟩ rfl rfl (by simp) ?_
      rw [show (⟨some r60, spl [Value.slice none 0 0, .slice none 0 0, .slice none 0 0] 0 [.slice nilV.a nilV.len nilV.cap, .slice nilV.a nilV.len nilV.cap, .slice nilV.a nilV.len nilV.cap], 3⟩ : Ent) = bkE r60 nilV nilV nilV from rfl]
      refine ⟨sf, bkE_0 (.head _), sc, bkE_1 (.head _), sh, bkE_2 (.head _), bank_ask_c (hbX mm) (hwX mm) (fun hne2 ro4 m4 => ⟨nilV, nilV, nilV, _, rfl, ?_⟩) (fun h0 => absurd h0 hne)⟩
      have mm4 := fun a v h => m4 a v (mm a v h)
      intro r72 _
      refine ⟨rfl, rfl, ?_⟩
      refine wro (bkE r1 sf sc sh :: X ++ bkE r60 nilV nilV nilV :: []) ⟨some r72, [Value.slice none 0 0, .slice none 0 0, .slice none 0 0], 3⟩ [] ⟨rfl, rfl, rfl, trivial⟩ rfl rfl (by simp) ?_
      rw [show (⟨some r72, spl [Value.slice none 0 0, .slice none 0 0, .slice none 0 0] 0 [.slice nilV.a nilV.len nilV.cap, .slice nilV.a nilV.len nilV.cap, .slice nilV.a nilV.len nilV.cap], 3⟩ : Ent) = bkE r72 nilV nilV nilV from rfl]
      refine join_b (h := ⟨bkE r1 sf sc sh :: X ++ bkE r60 nilV nilV nilV :: [] ++ bkE r72 nilV nilV nilV :: [], ro4⟩) true ?_ (fin _ r60 r72 ro4 (bkE r60 nilV nilV nilV).cells (bkE r72 nilV nilV nilV).cells mm4 rfl rfl (by simp [bkE]))
      exact says_same' (HasErrT.up hG mm4) rfl ⟨_, rfl, VIf_b (fun _ => go 0 nilV nilV nilV nilV nilV nilV nilB nilB r72 r60 [] ro4 _ _ mm4 (by simp) (by simp) nilB_rd nilB_rd rfl nilB_sml ⟨rfl, rfl⟩) (nomatch ·)⟩
    · have h0 : bask b t want = 0 := h0
      have mm := fun a v h => m3 a v (m2 a v h)
      intro r60 _
      refine ⟨rfl, rfl, ?_⟩
      refine wro (bkE r1 sf sc sh :: X) ⟨some r60, [Value.slice none 0 0, .slice none 0 0, .slice none 0 0], 3⟩ [] ⟨rfl, rfl, rfl, trivial⟩ rfl rfl (by simp) ?_
      rw [show (⟨some r60, spl [Value.slice none 0 0, .slice none 0 0, .slice none 0 0] 0 [.slice sf1.a sf1.len sf1.cap, .slice sc1.a sc1.len sc1.cap, .slice sh1.a sh1.len sh1.cap], 3⟩ : Ent) = bkE r60 sf1 sc1 sh1 from rfl]
      refine ⟨sf, bkE_0 (.head _), sc, bkE_1 (.head _), sh, bkE_2 (.head _), bank_ask_c (hbX mm) (hwX mm) (fun hne2 => absurd h0 hne2) (fun _ _ _ sf2 sc2 sh2 ro4 m4 hb2 => ⟨sf2, sc2, sh2, none, rfl, ?_⟩)⟩
      have mm4 := fun a v h => m4 a v (mm a v h)
      intro r72 _
      refine ⟨rfl, rfl, ?_⟩
      refine wro (bkE r1 sf sc sh :: X ++ bkE r60 sf1 sc1 sh1 :: []) ⟨some r72, [Value.slice none 0 0, .slice none 0 0, .slice none 0 0], 3⟩ [] ⟨rfl, rfl, rfl, trivial⟩ rfl rfl (by simp) ?_
      rw [show (⟨some r72, spl [Value.slice none 0 0, .slice none 0 0, .slice none 0 0] 0 [.slice sf2.a sf2.len sf2.cap, .slice sc2.a sc2.len sc2.cap, .slice sh2.a sh2.len sh2.cap], 3⟩ : Ent) = bkE r72 sf2 sc2 sh2 from rfl]
      refine join_b (h := ⟨bkE r1 sf sc sh :: X ++ bkE r60 sf1 sc1 sh1 :: [] ++ bkE r72 sf2 sc2 sh2 :: [], ro4⟩) true ?_ (fin _ r60 r72 ro4 (bkE r60 sf1 sc1 sh1).cells (bkE r72 sf2 sc2 sh2).cells mm4 rfl rfl (by simp [bkE]))
      exact says_same' (x := 0) (HasErrT.up hG mm4) rfl ⟨_, rfl, VIf_b (fun _ => go 0 sf2 sc2 sh2 sf1 sc1 sh1 _ _ r72 r60 [] ro4 _ _ mm4 (by simp) (by simp) hb2 (hb1.mono (by simp) m4) rfl (bmv_sml hA.ok) ⟨rfl, rfl⟩) (nomatch ·)⟩
  simp only [f5_J3, add_mk', Nat.zero_add, Nat.add_zero]
  have nil0 : ∀ {h : H}, RdSl h nilV (ints []) := fun {h} => ⟨rfl, fun _ => rfl, fun b hb => nomatch hb⟩
  refine ⟨sf, bkE_0 hE, sc, bkE_1 hE, sh, bkE_2 hE, bank_safe_c (hbX m2) (fun hc => ⟨false, nilV, _, rfl, ?_⟩) (fun ho hr => ⟨false, nilV, none, rfl, ?_⟩) (fun r s' e' ho hr o => ⟨true, s', none, rfl, ?_⟩)⟩
  · obtain ⟨rfl, rfl⟩ : s = nilV ∧ x = false := by
      rcases hsx with ⟨_, h1, h2⟩ | ⟨h, _⟩ | ⟨h, _⟩
      · exact ⟨h1, h2⟩
      · exact absurd h hc
      · exact absurd h hc
    refine join_b (h := ⟨[bkE r1 sf sc sh], ro2⟩) true (says_same' hG2 rfl ⟨_, rfl, VIf_b (fun _ => VIf_eq (fun _ => ?_) (fun h => absurd rfl h)) (nomatch ·)⟩) (by simpa using rest [])
    exact same_ints_c nil0 nil0 (by decide) ⟨_, rfl, gi ⟨rfl, rfl⟩⟩
  · have hz := bcheck_zero.2 ho
    obtain ⟨rfl, rfl⟩ : s = nilV ∧ x = false := by
      rcases hsx with ⟨h, _⟩ | ⟨_, _, h1, h2⟩ | ⟨_, _, r, h, _⟩
      · exact absurd hz h
      · exact ⟨h1, h2⟩
      · rw [hr] at h; cases h
    refine join_b (h := ⟨[bkE r1 sf sc sh], ro2⟩) true (says_same' (x := 0) hG2 hz.symm ⟨_, rfl, VIf_b (fun _ => VIf_eq (fun _ => ?_) (fun h => absurd rfl h)) (nomatch ·)⟩) (by simpa using rest [])
    exact same_ints_c nil0 nil0 (by decide) ⟨_, rfl, gi ⟨rfl, rfl⟩⟩
  · have hz := bcheck_zero.2 ho
    obtain ⟨rfl, hs⟩ : x = true ∧ RdSl ⟨[], ro2⟩ s (ints (r.map Int.ofNat)) := by
      rcases hsx with ⟨h, _⟩ | ⟨_, h, _⟩ | ⟨_, h1, r', h, h2⟩
      · exact absurd hz h
      · rw [hr] at h; cases h
      · rw [hr] at h; cases h; exact ⟨h1, h2⟩
    have ol := o.sl_len
    have rl := (brow_row hr).len
    rw [ints_length, nats_len] at ol
    have hm5 := ho.m5
    refine join_b (h := ⟨[bkE r1 sf sc sh] ++ [e'], ro2⟩) true (says_same' (x := 0) hG2 hz.symm ⟨_, rfl, VIf_b (fun _ => VIf_eq (fun _ => ?_) (fun h => absurd rfl h)) (nomatch ·)⟩) (by simpa using rest [e'])
    exact same_ints_c (RdSl.of_own (e := e') (by simp) o) (hs.mono (by simp) (fun _ _ h => h)) (by omega) ⟨_, rfl, gi ⟨rfl, by simp⟩⟩
end Go.Proofs.YtnepjdobknjecaaDoor
