import Derived.Test.YtnepjdobknjecaaDoorB5
import Derived.Test.YtnepjdobknjecaaDoorEngL
namespace Go.Proofs.YtnepjdobknjecaaDoor
open Go.Eng
set_option maxRecDepth 20000
/-! ### the bank, walked: the laws' own functions -/
theorem gI_some {m : List Int} {k : Nat} (h : k < m.length) : m[k]? = some (gI m k) := by unfold gI; rw [List.getElem?_eq_getElem h]; rfl
theorem app_newW {t e : TypeId} (g : Grows Tryd.prog t e 1) {s : SV} {vs : List Value} {own : List Ent} {ro : Addr → Option Value} {K : SV → H → Prop} (hr : RdSl ⟨own, ro⟩ s vs) (h1 : allOne vs) (hw : Wf ⟨own, ro⟩) (hb : s.len ≤ 1000000000)
    (hk : ∀ (s' : SV) (e' : Ent), OwnsSl 1 s' e' vs → s'.len = s.len → Wf ⟨own ++ [e'], ro⟩ → K s' ⟨own ++ [e'], ro⟩) :
    appVC Tryd.prog t (.slice none 0 0) (.slice s.a s.len s.cap) ⟨own, ro⟩ K := by
  refine appVC_of (s := ⟨none, 0, 0⟩) (s2 := s) g (ys := vs) (by have := hr.len; omega) hr.rows.rdS h1 hr.2.1 (A := own) (C := []) (en := ⟨none, [], 0⟩) (xs := []) (by simpa using Gh.phantom own [] ro 0) (OwnsSl.nil 1) (by simp only; omega) (fun s' e' o l _ _ hf => hk s' e' (by simpa using o) (by simpa using l) ?_)
  have hw2 : Wf ⟨own ++ ⟨none, [], 0⟩ :: [], ro⟩ := Wf.ph (by simpa using hw)
  exact hw2.swap hf
theorem allOne_svV (l : List SV) : allOne (l.map svV) := allOne_iff.2 fun v hv => by
  obtain ⟨s, _, rfl⟩ := List.mem_map.1 hv
  rfl
set_option maxHeartbeats 800000 in
theorem ref4_moved_c {b : Bk} {sf sc sh sw : SV} {want : List Int} {t sg : Int} {own : List Ent} {ro : Addr → Option Value} {post : Value → H → Prop} (hb : BkRd ⟨[], ro⟩ sf sc sh b) (hw : RdSl ⟨[], ro⟩ sw (ints want)) (ho : BOk b) (t0 : 0 ≤ t) (t1 : t < b.claim.length) (hwl : want.length = b.free.length)
    (hwr : ∀ k, k < b.free.length → 0 ≤ gI want k ∧ gI want k ≤ 1000) (hsg : sg = 1 ∨ sg = -1)
    (hk : ∀ (sf' sc' sh' : SV) ro', (∀ a v, ro a = some v → ro' a = some v) → BkRd ⟨[], ro'⟩ sf' sc' sh' (bmv b t.toNat want sg) → post (bkV sf' sc' sh') ⟨own, ro'⟩) :
    SemCall Tryd.prog 22 (List.toArray [bkV sf sc sh, .int .i64 t, .slice sw.a sw.len sw.cap, .int .i64 sg]) ⟨own, ro⟩ post := by
  obtain ⟨t, rfl⟩ : ∃ n : Nat, t = (n : Int) := ⟨t.toNat, by omega⟩
  rw [Int.toNat_natCast] at hk
  refine SemCall.wf fun hwf => ?_
  refine f22_call sf sc sh t sw sg _ post ?_
  intro r1 hf1 r3 hf3
  simp only [add_mk', Nat.zero_add, Nat.add_zero]
  have fl := hb.fl
  have cl := hb.cl
  have hl := hb.hl
  have hhl := ho.hl
  have hn3 := ho.n3
  have hm5 := ho.m5
  have swl := hw.len
  rw [ints_length] at swl
  have htc : t < b.claim.length := by omega
  have htl : t < b.has.length := by omega
  obtain ⟨cn1, cn2⟩ := ho.cn t htc
  obtain ⟨E3, hE3⟩ : ∃ E3 : Ent, E3 = ⟨some r3, [Value.slice none 0 0, .slice none 0 0, .slice none 0 0], 3⟩ := ⟨_, rfl⟩
  have hE3' : (⟨some r3, [Value.slice none 0 0, .slice none 0 0, .slice none 0 0], List.length [Value.slice none 0 0, .slice none 0 0, .slice none 0 0]⟩ : Ent) = E3 := by rw [hE3]; rfl
  have hE1' : (⟨some r1, [Value.slice sf.a sf.len sf.cap, .slice sc.a sc.len sc.cap, .slice sh.a sh.len sh.cap], List.length [Value.slice sf.a sf.len sf.cap, .slice sc.a sc.len sc.cap, .slice sh.a sh.len sh.cap]⟩ : Ent) = bkE r1 sf sc sh := rfl
  have w1 := Wf.add (e := bkE r1 sf sc sh) hwf hf1 rfl
  rw [hE1'] at hf3
  have w3 := Wf.add (e := E3) w1 hf3 (by rw [hE3])
  have hc2 : own ++ [bkE r1 sf sc sh] ++ [E3] = own ++ [bkE r1 sf sc sh, E3] := by simp
  rw [hc2] at w3
  rw [hE1', hE3', hc2]
  have hup : ∀ {own}, BkRd ⟨own, ro⟩ sf sc sh b := fun {X} => hb.mono (by simp) (fun _ _ h => h)
  have hwu : ∀ {own}, RdSl ⟨own, ro⟩ sw (ints want) := fun {X} => hw.mono (by simp) (fun _ _ h => h)
  have hE : ∀ {X : List Ent}, bkE r1 sf sc sh ∈ own ++ bkE r1 sf sc sh :: X := fun {X} => by simp
  have hsb : ∀ v : Int, 0 ≤ v ∧ v ≤ 1000 → -1000 ≤ sg * v ∧ sg * v ≤ 1000 := fun v hv => by
    rcases hsg with h | h <;> subst h <;> omega
  refine ⟨fun s m h => ∃ ef em, h = ⟨own ++ [bkE r1 sf sc sh, E3, ef, em], ro⟩ ∧ Wf h ∧ OwnsSl 1 s ef (ints (bmv b t want sg).free) ∧ OwnsSl 1 m em (ints ((List.range b.free.length).map fun k => g2 b.has t k + sg * gI want k)),
    ⟨fun n s m x h => ∃ (k : Nat) (ef em : Ent), x = (k : Int) ∧ k ≤ b.free.length ∧ n = b.free.length - k ∧ h = ⟨own ++ [bkE r1 sf sc sh, E3, ef, em], ro⟩ ∧ Wf h ∧ OwnsSl 1 s ef (ints ((List.range k).map fun k => gI b.free k - sg * gI want k)) ∧ OwnsSl 1 m em (ints ((List.range k).map fun k => g2 b.has t k + sg * gI want k)),
      ⟨_, ⟨own ++ [bkE r1 sf sc sh, E3, ⟨none, [], 0⟩, ⟨none, [], 0⟩], ro⟩, ?_, 0, _, _, rfl, Nat.zero_le _, rfl, rfl, ?_, OwnsSl.nil 1, OwnsSl.nil 1⟩, ?_⟩, ?_⟩
  · have g1 := Gh.phantom (own ++ [bkE r1 sf sc sh, E3]) [] ro 0
    have g2 := Gh.phantom (own ++ [bkE r1 sf sc sh, E3]) [⟨none, [], 0⟩] ro 0
    simpa using g1.trans g2
  · have w11 := Wf.ph (A := own ++ [bkE r1 sf sc sh, E3]) (C := []) (by simpa using w3)
    have w12 := Wf.ph (A := own ++ [bkE r1 sf sc sh, E3]) (C := [⟨none, [], 0⟩]) (by simpa using w11)
    simpa using w12
  · rintro n _ s m x _ ⟨k, ef, em, rfl, hk', rfl, rfl, hw2, oF, oM⟩
    have lF := oF.sl_len
    have lM := oM.sl_len
    rw [ints_length, List.length_map, List.length_range] at lF lM
    refine ⟨sf, bkE_0 hE, VIf_dec (fun hi => ?_) (fun hi => gi ⟨ef, em, rfl, hw2, ?_, ?_⟩)⟩
    rotate_left
    · have : k = b.free.length := by omega
      subst this; exact oF
    · have : k = b.free.length := by omega
      subst this; exact oM
    have hkf : k < b.free.length := by omega
    have h5 := hwr k hkf
    have h6 := ho.f k hkf
    have h7 := ho.c t k htc hkf
    have h8 := hsb _ h5
    obtain ⟨bw, hbw⟩ := hw.addr (by rw [ints_length]; omega)
    have rw' : ∀ {own : List Ent}, H.rd ⟨own, ro⟩ (Addr.add (Addr.add bw (((k : Nat) : Int).toNat * 1)) 0) (.int .i64 (gI want k)) := fun {X} => RdSl.rdi (hwu (own := X)) hbw (by rw [Int.toNat_natCast]; exact gI_some (by omega))
    refine ⟨bw, hbw, by omega, by omega, sf, bkE_0 hE, idxG hup.f (by omega) (by omega) ⟨gI want k, rw', ?_⟩⟩
    rw [Int.toNat_natCast]
    refine ⟨⟨by omega, by omega⟩, ⟨by omega, by omega⟩, ?_⟩
    refine app_rowW grows_ints (vs := [.int .i64 (gI b.free k - sg * gI want k)]) rfl ⟨rfl, trivial⟩ (own ++ [bkE r1 sf sc sh, E3]) ef [em] (by simp) oF hw2 (by omega) (fun s2 ef2 oF2 lF2 hw3 => ?_)
    have hc5 : own ++ [bkE r1 sf sc sh, E3] ++ ef2 :: [em] = own ++ [bkE r1 sf sc sh, E3, ef2, em] := by simp
    rw [hc5] at hw3 ⊢
    refine ⟨bw, hbw, by omega, by omega, sh, bkE_2 hE, hup.ha (by omega) (by omega) fun xh hxh hlh => idxG hxh (by omega) (by rw [Int.toNat_natCast]; omega) ⟨gI want k, rw', ?_⟩⟩
    have e2 : gI ((b.has[((t : Nat) : Int).toNat]?).getD []) ((k : Nat) : Int).toNat = g2 b.has t k := rfl
    rw [e2]
    refine ⟨⟨by omega, by omega⟩, ⟨by omega, by omega⟩, ?_⟩
    refine app_rowW grows_ints (vs := [.int .i64 (g2 b.has t k + sg * gI want k)]) rfl ⟨rfl, trivial⟩ (own ++ [bkE r1 sf sc sh, E3, ef2]) em [] (by simp) oM hw3 (by omega) (fun m2 em2 oM2 lM2 hw4 => ?_)
    have hc6 : own ++ [bkE r1 sf sc sh, E3, ef2] ++ em2 :: [] = own ++ [bkE r1 sf sc sh, E3, ef2, em2] := by simp
    rw [hc6] at hw4 ⊢
    exact ⟨⟨by omega, by omega⟩, b.free.length - (k + 1), by omega, gi ⟨k + 1, ef2, em2, by omega, by omega, rfl, rfl, hw4, by simpa [List.range_succ, ints, intV] using oF2, by simpa [List.range_succ, ints, intV] using oM2⟩⟩
  rintro _ s m _ ⟨ef, em, rfl, hw2, oF, oM⟩
  obtain ⟨rh, rh1, rh2⟩ := hb.h
  have rhl : rh.length = b.has.length := by rw [← rh2]; simp
  have rhs : rh.map (fun r => Value.slice r.1.a r.1.len r.1.cap) = (rh.map Prod.fst).map svV := by rw [List.map_map]; rfl
  refine ⟨sh, bkE_2 hE, app_newW grows_rows (vs := (rh.map Prod.fst).map svV) (by rw [← rhs]; exact rh1.1.mono (by simp) (fun _ _ h => h)) (allOne_svV _) hw2 (by omega) (fun s2 e2 o2 l2 hw3 => ?_)⟩
  have hl2 := o2.sl_len
  rw [List.length_map, List.length_map] at hl2
  refine wr_atM (f := svV) (v := m) (fun _ => rfl) (own ++ [bkE r1 sf sc sh, E3, ef, em]) e2 [] (by simp) o2 (by omega) (by omega) (fun e3 o3 hid => ?_)
  rw [Int.toNat_natCast] at o3
  have hw4 : Wf ⟨own ++ [bkE r1 sf sc sh, E3, ef, em] ++ e3 :: [], ro⟩ := hw3.mid hid
  refine ⟨sc, bkE_1 (r := r1) (sf := sf) (sh := sh) (by simp), rfl, rfl, ?_⟩
  refine bk_out (sf := s) (sc := sc) (sh := s2) (cs := [Value.slice none 0 0, .slice none 0 0, .slice none 0 0]) (own ++ [bkE r1 sf sc sh]) [ef, em, e3] (by simp [hE3]) rfl ?_
  have hw5 : Wf ⟨own ++ [ef, em, e3], ro⟩ := hw4.sub (by
    simp only [List.append_assoc]
    refine List.Sublist.append_left ?_ _
    exact .cons _ (.cons _ (List.Sublist.refl _)))
  obtain ⟨ro', g, mo, rd⟩ := frzE (own := own) _ ro hw5
  refine ⟨⟨own, ro'⟩, (Gh.drop ?_).trans g, hk s sc s2 ro' mo ⟨rd ef (by simp) _ _ oF, ?_, ?_⟩⟩
  · rw [List.append_assoc]
    refine List.Sublist.append_left ?_ _
    exact .cons _ (.cons _ (List.Sublist.refl _))
  · obtain ⟨rc, c1, c2⟩ := hb.c
    exact ⟨rc, c1.mono (by simp) mo, c2⟩
  · refine ⟨rh.set t (m, (List.range b.free.length).map fun k => g2 b.has t k + sg * gI want k), ⟨?_, fun r hr => ?_⟩, by rw [List.map_set, rh2]; rfl⟩
    · have e : (rh.set t (m, (List.range b.free.length).map fun k => g2 b.has t k + sg * gI want k)).map (fun r => Value.slice r.1.a r.1.len r.1.cap) = ((rh.map Prod.fst).set t m).map svV := by
        rw [List.map_set, List.map_set, List.map_map]; rfl
      rw [e]
      exact rd e3 (by simp) _ _ o3
    · rcases mem_set_cases hr with rfl | ⟨j, _, hj⟩
      · exact rd em (by simp) _ _ oM
      · exact (rh1.2 r (List.mem_of_getElem? hj)).mono (by simp) mo
/-! #### a row along which all can end -/
theorem gI_at2 {m : List Int} {k : Nat} {x : Int} (h : m[k]? = some x) : gI m k = x := by unfold gI; rw [h]; rfl
def BRowI (b : Bk) (xs : List Int) : Prop := ∃ l : List Nat, xs = l.map Int.ofNat ∧ BRow b l
theorem ofNat_inj : ∀ {l m : List Nat}, l.map Int.ofNat = m.map Int.ofNat → l = m
  | [], [], _ => rfl
  | [], _ :: _, h => by simp at h
  | _ :: _, [], h => by simp at h
  | a :: l, c :: m, h => by
    simp only [List.map_cons, List.cons.injEq] at h
    have h1 : a = c := Int.ofNat.inj h.1
    rw [h1, ofNat_inj h.2]
theorem BRowI.at {b : Bk} {xs : List Int} (h : BRowI b xs) {k : Nat} {l : List Nat} {x : Int} (hl : xs.take k = l.map Int.ofNat) (hx : xs[k]? = some x) : ∃ t : Nat, x = (t : Int) ∧ t < b.claim.length ∧ t ∉ l ∧ bends b (bfree b l) t = true := by
  obtain ⟨l', rfl, hr⟩ := h
  rw [← List.map_take] at hl
  have := ofNat_inj hl
  subst this
  rw [List.getElem?_map] at hx
  cases ht : l'[k]? with
  | none => rw [ht] at hx; cases hx
  | some t =>
    rw [ht] at hx
    simp only [Option.map_some, Option.some.injEq] at hx
    refine ⟨t, hx.symm, hr.lt t (List.mem_of_getElem? ht), fun hm => ?_, hr.go k t ht⟩
    obtain ⟨i, hi1, hi2⟩ := List.mem_iff_getElem.1 hm
    rw [List.getElem_take] at hi2
    have hik : i < k := by simp at hi1; omega
    obtain ⟨hkl, hk'⟩ := List.getElem?_eq_some_iff.1 ht
    have hp := List.nodup_iff_pairwise_ne.1 hr.nd
    rw [List.pairwise_iff_getElem] at hp
    exact hp i k (by omega) hkl hik (by rw [hi2, hk'])
set_option maxHeartbeats 800000 in
theorem law_ends_c {b : Bk} {sf sc sh sx : SV} {xs : List Int} {own : List Ent} {ro : Addr → Option Value} {post : Value → H → Prop} (hb : BkRd ⟨own, ro⟩ sf sc sh b) (hx : RdSl ⟨own, ro⟩ sx (ints xs)) (ho : BOk b)
    (h1 : BRowI b xs → post (.bool true) ⟨own, ro⟩) (h2 : ¬ BRowI b xs → post (.bool false) ⟨own, ro⟩) : SemCall Tryd.prog 11 (List.toArray [bkV sf sc sh, .slice sx.a sx.len sx.cap]) ⟨own, ro⟩ post := by
  refine f11_call sf sc sh sx _ post ?_
  intro r1 _
  simp only [add_mk', Nat.zero_add, Nat.add_zero]
  have hup : ∀ {X : List Ent}, BkRd ⟨own ++ bkE r1 sf sc sh :: X, ro⟩ sf sc sh b := fun {X} => hb.mono (fun e he => List.mem_append_left _ he) (fun _ _ h => h)
  have hxu : ∀ {X : List Ent}, RdSl ⟨own ++ bkE r1 sf sc sh :: X, ro⟩ sx (ints xs) := fun {X} => hx.mono (fun e he => List.mem_append_left _ he) (fun _ _ h => h)
  have hE : ∀ {X : List Ent}, bkE r1 sf sc sh ∈ own ++ bkE r1 sf sc sh :: X := fun {X} => by simp
  have fl := hb.fl
  have cl := hb.cl
  have hhl' := hb.hl
  have hhl := ho.hl
  have hn3 := ho.n3
  have hm5 := ho.m5
  have sxl := hx.len
  rw [ints_length] at sxl
  have no : ∀ {X : List Ent}, ¬ BRowI b xs → VRet ⟨own ++ bkE r1 sf sc sh :: X, ro⟩ (.bool false) post := fun {X} h => ⟨⟨own, ro⟩, Gh.drop (by simp), h2 h⟩
  refine ⟨sc, bkE_1 hE, VIf_ne (fun hc => no (X := []) (fun ⟨l, e, hr⟩ => ?_)) (fun hc => ?_)⟩
  · have := hr.len
    rw [e, nats_len] at sxl
    omega
  have hxm : xs.length = b.claim.length := by omega
  refine ⟨sf, bkE_0 hE, app_new (hup (X := [])).f (by omega) (fun s5 e5 o5 l5 _ => ?_)⟩
  have hc3 : own ++ [bkE r1 sf sc sh] ++ [e5] = own ++ bkE r1 sf sc sh :: [e5] := by simp
  rw [show (⟨some r1, [Value.slice sf.a sf.len sf.cap, .slice sc.a sc.len sc.cap, .slice sh.a sh.len sh.cap], List.length [Value.slice sf.a sf.len sf.cap, .slice sc.a sc.len sc.cap, .slice sh.a sh.len sh.cap]⟩ : Ent) = bkE r1 sf sc sh from rfl, hc3]
  have l5 := o5.sl_len
  rw [ints_length] at l5
  refine ⟨fun h => ∃ e5, h = ⟨own ++ bkE r1 sf sc sh :: [e5], ro⟩ ∧ BRowI b xs,
    ⟨fun n x h => ∃ (k : Nat) (l : List Nat) (e5 : Ent), x = (k : Int) ∧ k ≤ xs.length ∧ n = xs.length - k ∧ h = ⟨own ++ bkE r1 sf sc sh :: [e5], ro⟩ ∧ OwnsSl 1 s5 e5 (ints (bfree b l)) ∧ xs.take k = l.map Int.ofNat ∧ l.Nodup ∧ (∀ t ∈ l, t < b.claim.length) ∧ ∀ (j t : Nat), l[j]? = some t → bends b (bfree b (l.take j)) t = true,
      ⟨_, gi ⟨0, [], e5, rfl, Nat.zero_le _, rfl, rfl, o5, by simp, by simp, by simp, by simp⟩⟩, ?_⟩, ?_⟩
  rotate_left
  · rintro _ _ ⟨e5, rfl, h⟩
    exact ⟨⟨own, ro⟩, Gh.drop (by simp), h1 h⟩
  clear o5
  rintro n _ x _ ⟨k, l, e5, rfl, hk', rfl, rfl, o5, htk, hnd, hlt, hgo⟩
  have hlk : l.length = k := by
    have := congrArg List.length htk
    rw [nats_len, List.length_take] at this
    omega
  refine VIf_dec (fun hi => ?_) (fun hi => gi ⟨e5, rfl, l, ?_, ?_⟩)
  rotate_left
  · rwa [List.take_of_length_le (by omega)] at htk
  · exact ⟨by omega, hnd, hlt, hgo⟩
  have hkx : k < xs.length := by omega
  obtain ⟨x, hx0⟩ : ∃ x, xs[k]? = some x := ⟨_, List.getElem?_eq_getElem hkx⟩
  have hgx : gI xs k = x := gI_at2 hx0
  refine ⟨fun h => ∃ (t : Nat) (e5 : Ent), x = (t : Int) ∧ h = ⟨own ++ bkE r1 sf sc sh :: [e5], ro⟩ ∧ OwnsSl 1 s5 e5 (ints (bfree b (l ++ [t]))) ∧ t < b.claim.length ∧ t ∉ l ∧ bends b (bfree b l) t = true, ?_, ?_⟩
  rotate_left
  · rintro _ _ ⟨t, e6, rfl, rfl, o6, htm, htl, hbe⟩
    refine ⟨⟨by omega, by omega⟩, xs.length - (k + 1), by omega, gi ⟨k + 1, l ++ [t], e6, by omega, by omega, rfl, rfl, o6, ?_, ?_, ?_, ?_⟩⟩
    · rw [List.take_add_one, hx0, htk]; simp
    · exact List.nodup_append.2 ⟨hnd, by simp, by simp; exact fun a ha e => htl (e ▸ ha)⟩
    · intro s hs
      simp only [List.mem_append, List.mem_singleton] at hs
      rcases hs with hs | rfl
      · exact hlt s hs
      · exact htm
    · intro j s hj
      rcases app_cases hj with ⟨hj1, hj2⟩ | ⟨hj1, rfl⟩
      · rw [List.take_append_of_le_length (by omega)]; exact hgo j s hj2
      · rw [hj1]; simpa using hbe
  refine idxG hxu (by omega) (by omega) ?_
  rw [Int.toNat_natCast, hgx]
  refine ⟨sc, bkE_1 hE, ⟨by omega, by omega⟩, in_i (fun hc => ⟨_, rfl, VIf_nb (fun _ => no (fun hr => ?_)) (nomatch ·)⟩) (fun c0 c1 => ⟨_, rfl, VIf_nb (nomatch ·) (fun _ => ?_)⟩)⟩
  · obtain ⟨t, rfl, h3, _⟩ := hr.at htk hx0
    omega
  obtain ⟨t, rfl⟩ : ∃ t : Nat, x = (t : Int) := ⟨x.toNat, by omega⟩
  have htm : t < b.claim.length := by omega
  obtain ⟨cn1, cn2⟩ := ho.cn t htm
  have hfl := bfree_len b l
  -- not yet there
  refine ⟨fun h => h = ⟨own ++ bkE r1 sf sc sh :: [e5], ro⟩ ∧ t ∉ l, ⟨fun n y h => ∃ j : Nat, y = (j : Int) ∧ j ≤ k ∧ n = k - j ∧ h = ⟨own ++ bkE r1 sf sc sh :: [e5], ro⟩ ∧ t ∉ l.take j, ⟨_, gi ⟨0, rfl, Nat.zero_le _, rfl, rfl, by simp⟩⟩, ?_⟩, ?_⟩
  · rintro n _ y _ ⟨j, rfl, hj, rfl, rfl, hnot⟩
    refine VIf_dec (fun hjk => ?_) (fun hjk => gi ⟨rfl, by rwa [List.take_of_length_le (by omega)] at hnot⟩)
    refine idxG hxu (by omega) (by omega) ?_
    obtain ⟨s, hs⟩ : ∃ s, l[j]? = some s := ⟨_, List.getElem?_eq_getElem (by omega)⟩
    have hxs : gI xs j = (s : Int) := by
      refine gI_at2 ?_
      have : (xs.take k)[j]? = some (s : Int) := by rw [htk, List.getElem?_map, hs]; rfl
      rwa [List.getElem?_take_of_lt (by omega)] at this
    rw [Int.toNat_natCast, hxs]
    refine VIf_eq (fun he => no (fun hr => ?_)) (fun he => ⟨⟨by omega, by omega⟩, k - (j + 1), by omega, gi ⟨j + 1, by omega, by omega, rfl, rfl, ?_⟩⟩)
    · obtain ⟨u, hu, _, h4, _⟩ := hr.at htk hx0
      have : s = u := by omega
      subst this
      exact h4 (List.mem_of_getElem? hs)
    · rw [List.take_add_one, hs]
      simp only [Option.toList_some, List.mem_append, List.mem_singleton]
      rintro (h | h)
      · exact hnot h
      · omega
  rintro _ _ ⟨rfl, htl⟩
  have hr5 : RdSl ⟨own ++ bkE r1 sf sc sh :: [e5], ro⟩ s5 (ints (bfree b l)) := RdSl.of_own (e := e5) (by simp) o5
  -- it can end
  refine ⟨fun h => h = ⟨own ++ bkE r1 sf sc sh :: [e5], ro⟩ ∧ bends b (bfree b l) t = true, ⟨fun n y h => ∃ j : Nat, y = (j : Int) ∧ j ≤ b.free.length ∧ n = b.free.length - j ∧ h = ⟨own ++ bkE r1 sf sc sh :: [e5], ro⟩ ∧ ∀ i, i < j → g2 b.claim t i - g2 b.has t i ≤ gI (bfree b l) i, ⟨_, gi ⟨0, rfl, Nat.zero_le _, rfl, rfl, fun i hi => by omega⟩⟩, ?_⟩, ?_⟩
  · rintro n _ y _ ⟨j, rfl, hj, rfl, rfl, hall⟩
    refine VIf_dec (fun hjk => ?_) (fun hjk => gi ⟨rfl, bends_iff.2 fun i hi => hall i (by omega)⟩)
    refine ⟨sc, bkE_1 hE, hup.ca (by omega) (by omega) fun xc hxc hlc => idxG hxc (by omega) (by rw [Int.toNat_natCast]; omega) ⟨sh, bkE_2 hE, hup.ha (by omega) (by omega) fun xh hxh hlh => idxG hxh (by omega) (by rw [Int.toNat_natCast]; omega) ?_⟩⟩
    have e1 : gI ((b.claim[((t : Nat) : Int).toNat]?).getD []) ((j : Nat) : Int).toNat = g2 b.claim t j := rfl
    have e2 : gI ((b.has[((t : Nat) : Int).toNat]?).getD []) ((j : Nat) : Int).toNat = g2 b.has t j := rfl
    rw [e1, e2]
    have hc := ho.c t j htm (by omega)
    refine ⟨⟨by omega, by omega⟩, idxG hr5 (by omega) (by omega) ?_⟩
    rw [Int.toNat_natCast]
    refine VIf_dec (fun hgt => no (fun hr => ?_)) (fun hle => ⟨⟨by omega, by omega⟩, b.free.length - (j + 1), by omega, gi ⟨j + 1, by omega, by omega, rfl, rfl, fun i hi => ?_⟩⟩)
    · obtain ⟨u, hu, _, _, h5⟩ := hr.at htk hx0
      have : t = u := by omega
      subst this
      have := bends_iff.1 h5 j (by omega)
      omega
    · by_cases he : i = j
      · subst he; omega
      · exact hall i (by omega)
  rintro _ _ ⟨rfl, hbe⟩
  -- what it had
  refine ⟨fun h => ∃ e5, h = ⟨own ++ bkE r1 sf sc sh :: [e5], ro⟩ ∧ OwnsSl 1 s5 e5 (ints (bfree b (l ++ [t]))),
    ⟨fun n y h => ∃ (j : Nat) (e5 : Ent) (L : List Int), y = (j : Int) ∧ j ≤ b.free.length ∧ n = b.free.length - j ∧ h = ⟨own ++ bkE r1 sf sc sh :: [e5], ro⟩ ∧ OwnsSl 1 s5 e5 (ints L) ∧ L.length = b.free.length ∧ ∀ i, i < b.free.length → gI L i = gI (bfree b l) i + if i < j then g2 b.has t i else 0,
      ⟨_, gi ⟨0, e5, bfree b l, rfl, Nat.zero_le _, rfl, rfl, o5, hfl, fun i hi => by rw [if_neg (by omega)]; omega⟩⟩, ?_⟩, ?_⟩
  · rintro n _ y _ ⟨j, e6, L, rfl, hj, rfl, rfl, o6, hL, hg⟩
    refine VIf_dec (fun hjk => ?_) (fun hjk => gi ⟨e6, rfl, ?_⟩)
    · have hjf : j < b.free.length := by omega
      have hr6 : RdSl ⟨own ++ bkE r1 sf sc sh :: [e6], ro⟩ s5 (ints L) := RdSl.of_own (e := e6) (by simp) o6
      refine idxG hr6 (by omega) (by omega) ⟨sh, bkE_2 hE, hup.ha (by omega) (by omega) fun xh hxh hlh => idxG hxh (by omega) (by rw [Int.toNat_natCast]; omega) ?_⟩
      have e2 : gI ((b.has[((t : Nat) : Int).toNat]?).getD []) ((j : Nat) : Int).toNat = g2 b.has t j := rfl
      rw [e2, Int.toNat_natCast, hg j hjf, if_neg (by omega)]
      have hc := ho.c t j htm hjf
      have hbb := bfree_b ho hnd hlt hjf
      refine ⟨⟨by omega, by omega⟩, wr_at (own ++ [bkE r1 sf sc sh]) e6 [] (by simp) o6 (by omega) (by omega) (fun e' oe' _ => ⟨⟨by omega, by omega⟩, b.free.length - (j + 1), by omega, gi ⟨j + 1, e', _, by omega, by omega, rfl, by simp, oe', by simpa using hL, fun i hi => ?_⟩⟩)⟩
      rw [Int.toNat_natCast, gI_bset (by omega)]
      by_cases he : i = j
      · subst he; rw [if_pos rfl, if_pos (by omega)]; omega
      · rw [if_neg he, hg i hi]
        by_cases hij : i < j
        · rw [if_pos hij, if_pos (by omega)]
        · rw [if_neg hij, if_neg (by omega)]
    · have : L = bfree b (l ++ [t]) := by
        refine gI_ext (by rw [bfree_len]; exact hL) fun i hi => ?_
        rw [hg i (by omega), if_pos (by omega), bfree_app, badd_get (by omega)]
      rw [← this]; exact o6
  rintro _ _ ⟨e6, rfl, o6⟩
  exact gi ⟨t, e6, rfl, rfl, o6, htm, htl, hbe⟩
end Go.Proofs.YtnepjdobknjecaaDoor
