import Derived.Test.YtnppmcgmmdcpiaaDoorB5
import Derived.Test.YtnppmcgmmdcpiaaDoorEngL
namespace Go.Proofs.YtnppmcgmmdcpiaaDoor
open Go.Eng
set_option maxRecDepth 20000
/-! ### the bank, walked: the laws' own functions -/
theorem gI_some {m : List Int} {k : Nat} (h : k < m.length) : m[k]? = some (gI m k) := by unfold gI; rw [List.getElem?_eq_getElem h]; rfl
theorem app_newW {t e : TypeId} (g : Grows Tryd.prog t e 1) {s : SV} {vs : List Value} {own : List Ent} {ro : Addr → Option Value} {K : SV → H → Prop} (hr : RdSl ⟨own, ro⟩ s vs) (h1 : allOne vs) (hw : Wf ⟨own, ro⟩) (hb : s.len ≤ 1000000000)
    (hk : ∀ (s' : SV) (e' : Ent), OwnsSl 1 s' e' vs → s'.len = s.len → Wf ⟨own ++ [e'], ro⟩ → K s' ⟨own ++ [e'], ro⟩) :
    appVC Tryd.prog t (.slice none 0 0) (.slice s.a s.len s.cap) ⟨own, ro⟩ K := by
  refine appVC_of (s := ⟨none, 0, 0⟩) (s2 := s) g (ys := vs) (by have := hr.len; omega) hr.rows.rdS h1 hr.2.1 (A := own) (C := []) (en := ⟨none, [], 0⟩) (xs := []) (by simpa using Gh.phantom own [] ro 0) (OwnsSl.nil 1) (by simp only; omega) (fun s' e' o l _ _ hf => hk s' e' (by simpa using o) (by simpa using l) ?_)
  have hw2 : Wf ⟨own ++ ⟨none, [], 0⟩ :: [], ro⟩ := Wf.ph (by simpa using hw)
  exact hw2.swap hf
theorem allOne_svV (l : List SV) : allOne (l.map svV) := allOne_iff.2 fun v hv => by
  obtain ⟨s, _, rfl⟩ := List.mem_map.1 hv
  rfl
set_option maxHeartbeats 800000 in
theorem ref4_moved_c {b : Bk} {sf sc sh sw : SV} {want : List Int} {t sg : Int} {own : List Ent} {ro : Addr → Option Value} {post : Value → H → Prop} (hb : BkRd ⟨[], ro⟩ sf sc sh b) (hw : RdSl ⟨[], ro⟩ sw (ints want)) (ho : BOk b) (t0 : 0 ≤ t) (t1 : t < b.claim.length) (hwl : want.length = b.free.length)
    (hwr : ∀ k, k < b.free.length → 0 ≤ gI want k ∧ gI want k ≤ 1000) (hsg : sg = 1 ∨ sg = -1)
    (hk : ∀ (sf' sc' sh' : SV) ro', (∀ a v, ro a = some v → ro' a = some v) → BkRd ⟨[], ro'⟩ sf' sc' sh' (bmv b t.toNat want sg) → post (bkV sf' sc' sh') ⟨own, ro'⟩) :
    SemCall Tryd.prog 38 (List.toArray [bkV sf sc sh, .int .i64 t, .slice sw.a sw.len sw.cap, .int .i64 sg]) ⟨own, ro⟩ post := by
  obtain ⟨t, rfl⟩ : ∃ n : Nat, t = (n : Int) := ⟨t.toNat, by omega⟩
  rw [Int.toNat_natCast] at hk
  refine SemCall.wf fun hwf => ?_
  refine f38_call sf sc sh t sw sg _ post ?_
  intro r1 hf1 r3 hf3
  simp only [add_mk', Nat.zero_add, Nat.add_zero]
  have fl := hb.fl
  have cl := hb.cl
  have hl := hb.hl
  have hhl := ho.hl
  have hn3 := ho.n3
  have hm5 := ho.m5
  have swl := hw.len
  rw [ints_length] at swl
  have htc : t < b.claim.length := by omega
  have htl : t < b.has.length := by omega
  obtain ⟨cn1, cn2⟩ := ho.cn t htc
  obtain ⟨E3, hE3⟩ : ∃ E3 : Ent, E3 = ⟨some r3, [Value.slice none 0 0, .slice none 0 0, .slice none 0 0], 3⟩ := ⟨_, rfl⟩
  have hE3' : (⟨some r3, [Value.slice none 0 0, .slice none 0 0, .slice none 0 0], List.length [Value.slice none 0 0, .slice none 0 0, .slice none 0 0]⟩ : Ent) = E3 := by rw [hE3]; rfl
  have hE1' : (⟨some r1, [Value.slice sf.a sf.len sf.cap, .slice sc.a sc.len sc.cap, .slice sh.a sh.len sh.cap], List.length [Value.slice sf.a sf.len sf.cap, .slice sc.a sc.len sc.cap, .slice sh.a sh.len sh.cap]⟩ : Ent) = bkE r1 sf sc sh := rfl
  have w1 := Wf.add (e := bkE r1 sf sc sh) hwf hf1 rfl
  rw [hE1'] at hf3
  have w3 := Wf.add (e := E3) w1 hf3 (by rw [hE3]; rfl)
  have hc2 : own ++ [bkE r1 sf sc sh] ++ [E3] = own ++ [bkE r1 sf sc sh, E3] := by simp
  rw [hc2] at w3
  rw [hE1', hE3', hc2]
  have hup : ∀ {own}, BkRd ⟨own, ro⟩ sf sc sh b := fun {X} => hb.mono (by simp) (fun _ _ h => h)
  have hwu : ∀ {own}, RdSl ⟨own, ro⟩ sw (ints want) := fun {X} => hw.mono (by simp) (fun _ _ h => h)
  have hE : ∀ {X : List Ent}, bkE r1 sf sc sh ∈ own ++ bkE r1 sf sc sh :: X := fun {X} => by simp
  have hsb : ∀ v : Int, 0 ≤ v ∧ v ≤ 1000 → -1000 ≤ sg * v ∧ sg * v ≤ 1000 := fun v hv => by
    rcases hsg with h | h <;> subst h <;> omega
  refine ⟨fun s m h => ∃ ef em, h = ⟨own ++ [bkE r1 sf sc sh, E3, ef, em], ro⟩ ∧ Wf h ∧ OwnsSl 1 s ef (ints (bmv b t want sg).free) ∧ OwnsSl 1 m em (ints ((List.range b.free.length).map fun k => g2 b.has t k + sg * gI want k)),
    ⟨fun n s m x h => ∃ (k : Nat) (ef em : Ent), x = (k : Int) ∧ k ≤ b.free.length ∧ n = b.free.length - k ∧ h = ⟨own ++ [bkE r1 sf sc sh, E3, ef, em], ro⟩ ∧ Wf h ∧ OwnsSl 1 s ef (ints ((List.range k).map fun k => gI b.free k - sg * gI want k)) ∧ OwnsSl 1 m em (ints ((List.range k).map fun k => g2 b.has t k + sg * gI want k)),
      ⟨_, ⟨own ++ [bkE r1 sf sc sh, E3, ⟨none, [], 0⟩, ⟨none, [], 0⟩], ro⟩, ?_, 0, _, _, rfl, Nat.zero_le _, rfl, rfl, ?_, OwnsSl.nil 1, OwnsSl.nil 1⟩, ?_⟩, ?_⟩
  · have g1 := Gh.phantom (own ++ [bkE r1 sf sc sh, E3]) [] ro 0
    have g2 := Gh.phantom (own ++ [bkE r1 sf sc sh, E3]) [⟨none, [], 0⟩] ro 0
    simpa using g1.trans g2
  · have w11 := Wf.ph (A := own ++ [bkE r1 sf sc sh, E3]) (C := []) (by simpa using w3)
    have w12 := Wf.ph (A := own ++ [bkE r1 sf sc sh, E3]) (C := [⟨none, [], 0⟩]) (by simpa using w11)
    simpa using w12
  · rintro n _ s m x _ ⟨k, ef, em, rfl, hk', rfl, rfl, hw2, oF, oM⟩
    have lF := oF.sl_len
    have lM := oM.sl_len
    rw [ints_length, List.length_map, List.length_range] at lF lM
    refine ⟨sf, bkE_0 hE, VIf_dec (fun hi => ?_) (fun hi => gi ⟨ef, em, rfl, hw2, ?_, ?_⟩)⟩
    rotate_left
    · have : k = b.free.length := by omega
      subst this; exact oF
    · have : k = b.free.length := by omega
      subst this; exact oM
    have hkf : k < b.free.length := by omega
    have h5 := hwr k hkf
    have h6 := ho.f k hkf
    have h7 := ho.c t k htc hkf
    have h8 := hsb _ h5
    obtain ⟨bw, hbw⟩ := hw.addr (by rw [ints_length]; omega)
    have rw' : ∀ {own : List Ent}, H.rd ⟨own, ro⟩ (Addr.add (Addr.add bw (((k : Nat) : Int).toNat * 1)) 0) (.int .i64 (gI want k)) := fun {X} => RdSl.rdi (hwu (own := X)) hbw (by rw [Int.toNat_natCast]; exact gI_some (by omega))
    refine ⟨bw, hbw, by omega, by omega, sf, bkE_0 hE, idxG hup.f (by omega) (by omega) ⟨gI want k, rw', ?_⟩⟩
    rw [Int.toNat_natCast]
    refine ⟨⟨by omega, by omega⟩, ⟨by omega, by omega⟩, ?_⟩
    refine app_rowW grows_ints (vs := [.int .i64 (gI b.free k - sg * gI want k)]) rfl ⟨rfl, trivial⟩ (own ++ [bkE r1 sf sc sh, E3]) ef [em] (by simp) oF hw2 (by omega) (fun s2 ef2 oF2 lF2 hw3 => ?_)
    have hc5 : own ++ [bkE r1 sf sc sh, E3] ++ ef2 :: [em] = own ++ [bkE r1 sf sc sh, E3, ef2, em] := by simp
    rw [hc5] at hw3 ⊢
    refine ⟨bw, hbw, by omega, by omega, sh, bkE_2 hE, hup.ha (by omega) (by omega) fun xh hxh hlh => idxG hxh (by omega) (by rw [Int.toNat_natCast]; omega) ⟨gI want k, rw', ?_⟩⟩
    have e2 : gI ((b.has[((t : Nat) : Int).toNat]?).getD []) ((k : Nat) : Int).toNat = g2 b.has t k := rfl
    rw [e2]
    refine ⟨⟨by omega, by omega⟩, ⟨by omega, by omega⟩, ?_⟩
    refine app_rowW grows_ints (vs := [.int .i64 (g2 b.has t k + sg * gI want k)]) rfl ⟨rfl, trivial⟩ (own ++ [bkE r1 sf sc sh, E3, ef2]) em [] (by simp) oM hw3 (by omega) (fun m2 em2 oM2 lM2 hw4 => ?_)
    have hc6 : own ++ [bkE r1 sf sc sh, E3, ef2] ++ em2 :: [] = own ++ [bkE r1 sf sc sh, E3, ef2, em2] := by simp
    rw [hc6] at hw4 ⊢
    exact ⟨⟨by omega, by omega⟩, b.free.length - (k + 1), by omega, gi ⟨k + 1, ef2, em2, by omega, by omega, rfl, rfl, hw4, by simpa [List.range_succ, ints, intV] using oF2, by simpa [List.range_succ, ints, intV] using oM2⟩⟩
  rintro _ s m _ ⟨ef, em, rfl, hw2, oF, oM⟩
  obtain ⟨rh, rh1, rh2⟩ := hb.h
  have rhl : rh.length = b.has.length := by rw [← rh2]; simp
  have rhs : rh.map (fun r => Value.slice r.1.a r.1.len r.1.cap) = (rh.map Prod.fst).map svV := by rw [List.map_map]; rfl
  refine ⟨sh, bkE_2 hE, app_newW grows_rows (vs := (rh.map Prod.fst).map svV) (by rw [← rhs]; exact rh1.1.mono (by simp) (fun _ _ h => h)) (allOne_svV _) hw2 (by omega) (fun s2 e2 o2 l2 hw3 => ?_)⟩
  have hl2 := o2.sl_len
  rw [List.length_map, List.length_map] at hl2
  refine wr_atM (f := svV) (v := m) (fun _ => rfl) (own ++ [bkE r1 sf sc sh, E3, ef, em]) e2 [] (by simp) o2 (by omega) (by omega) (fun e3 o3 hid => ?_)
  rw [Int.toNat_natCast] at o3
  have hw4 : Wf ⟨own ++ [bkE r1 sf sc sh, E3, ef, em] ++ e3 :: [], ro⟩ := hw3.mid hid
  refine ⟨sc, bkE_1 (r := r1) (sf := sf) (sh := sh) (by simp), rfl, rfl, ?_⟩
  refine bk_out (sf := s) (sc := sc) (sh := s2) (cs := [Value.slice none 0 0, .slice none 0 0, .slice none 0 0]) (own ++ [bkE r1 sf sc sh]) [ef, em, e3] (by simp [hE3]) rfl ?_
  have hw5 : Wf ⟨own ++ [ef, em, e3], ro⟩ := hw4.sub (by
    simp only [List.append_assoc]
    refine List.Sublist.append_left ?_ _
    exact .cons _ (.cons _ (List.Sublist.refl _)))
  obtain ⟨ro', g, mo, rd⟩ := frzE (own := own) _ ro hw5
  refine ⟨⟨own, ro'⟩, (Gh.drop ?_).trans g, hk s sc s2 ro' mo ⟨rd ef (by simp) _ _ oF, ?_, ?_⟩⟩
  · rw [List.append_assoc]
    refine List.Sublist.append_left ?_ _
    exact .cons _ (.cons _ (List.Sublist.refl _))
  · obtain ⟨rc, c1, c2⟩ := hb.c
    exact ⟨rc, c1.mono (by simp) mo, c2⟩
  · refine ⟨rh.set t (m, (List.range b.free.length).map fun k => g2 b.has t k + sg * gI want k), ⟨?_, fun r hr => ?_⟩, by rw [List.map_set, rh2]; rfl⟩
    · have e : (rh.set t (m, (List.range b.free.length).map fun k => g2 b.has t k + sg * gI want k)).map (fun r => Value.slice r.1.a r.1.len r.1.cap) = ((rh.map Prod.fst).set t m).map svV := by
        rw [List.map_set, List.map_set, List.map_map]; rfl
      rw [e]
      exact rd e3 (by simp) _ _ o3
    · rcases mem_set_cases hr with rfl | ⟨j, _, hj⟩
      · exact rd em (by simp) _ _ oM
      · exact (rh1.2 r (List.mem_of_getElem? hj)).mono (by simp) mo
/-! #### a row along which all can end -/
theorem gI_at2 {m : List Int} {k : Nat} {x : Int} (h : m[k]? = some x) : gI m k = x := by unfold gI; rw [h]; rfl
end Go.Proofs.YtnppmcgmmdcpiaaDoor
