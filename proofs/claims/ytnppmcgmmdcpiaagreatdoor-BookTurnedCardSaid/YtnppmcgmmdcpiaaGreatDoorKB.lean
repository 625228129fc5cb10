import Derived.Test.YtnppmcgmmdcpiaaGreatDoorKA
import Derived.Test.YtnppmcgmmdcpiaaGreatDoorEngL
import Derived.Test.YtnppmcgmmdcpiaaGreatDoorEngM
namespace Go.Proofs.YtnppmcgmmdcpiaaGreatDoor
open Go.Eng
set_option maxRecDepth 20000
/-! ### the bank, walked: the laws' own functions -/
theorem gI_some {m : List Int} {k : Nat} (h : k < m.length) : m[k]? = some (gI m k) := by unfold gI; rw [List.getElem?_eq_getElem h]; rfl
theorem app_newW {t e : TypeId} (g : Grows Tryz.prog t e 1) {s : SV} {vs : List Value} {own : List Ent} {ro : Addr → Option Value} {K : SV → H → Prop} (hr : RdSl ⟨own, ro⟩ s vs) (h1 : allOne vs) (hw : Wf ⟨own, ro⟩) (hb : s.len ≤ 1000000000)
    (hk : ∀ (s' : SV) (e' : Ent), OwnsSl 1 s' e' vs → s'.len = s.len → Wf ⟨own ++ [e'], ro⟩ → K s' ⟨own ++ [e'], ro⟩) :
    appVC Tryz.prog t (.slice none 0 0) (.slice s.a s.len s.cap) ⟨own, ro⟩ K := by
  refine appVC_of (s := ⟨none, 0, 0⟩) (s2 := s) g (ys := vs) (by have := hr.len; omega) hr.rows.rdS h1 hr.2.1 (A := own) (C := []) (en := ⟨none, [], 0⟩) (xs := []) (by simpa using Gh.phantom own [] ro 0) (OwnsSl.nil 1) (by simp only; omega) (fun s' e' o l _ _ hf => hk s' e' (by simpa using o) (by simpa using l) ?_)
  have hw2 : Wf ⟨own ++ ⟨none, [], 0⟩ :: [], ro⟩ := Wf.ph (by simpa using hw)
  exact hw2.swap hf
theorem allOne_svV (l : List SV) : allOne (l.map svV) := allOne_iff.2 fun v hv => by
  obtain ⟨s, _, rfl⟩ := List.mem_map.1 hv
  rfl
set_option maxHeartbeats 800000 in
theorem ref4_moved_c {b : Bk} {sf sc sh sw : SV} {want : List Int} {t sg : Int} {own : List Ent} {ro : Addr → Option Value} {post : Value → H → Prop} (hb : BkRd ⟨[], ro⟩ sf sc sh b) (hw : RdSl ⟨[], ro⟩ sw (ints want)) (ho : BOk b) (t0 : 0 ≤ t) (t1 : t < b.claim.length) (hwl : want.length = b.free.length)
    (hwr : ∀ k, k < b.free.length → 0 ≤ gI want k ∧ gI want k ≤ 1000) (hsg : sg = 1 ∨ sg = -1)
    (hk : ∀ (sf' sc' sh' : SV) ro', (∀ a v, ro a = some v → ro' a = some v) → BkRd ⟨[], ro'⟩ sf' sc' sh' (bmv b t.toNat want sg) → post (bkV sf' sc' sh') ⟨own, ro'⟩) :
    SemCall Tryz.prog 110 (List.toArray [bkV sf sc sh, .int .i64 t, .slice sw.a sw.len sw.cap, .int .i64 sg]) ⟨own, ro⟩ post := by
  obtain ⟨t, rfl⟩ : ∃ n : Nat, t = (n : Int) := ⟨t.toNat, by omega⟩
  rw [Int.toNat_natCast] at hk
  refine SemCall.wf fun hwf => ?_
  refine f110_call sf sc sh t sw sg _ post ?_
  intro r1 hf1 r3 hf3
  simp only [add_mk', Nat.zero_add, Nat.add_zero]
  have fl := hb.fl
  have cl := hb.cl
  have hl := hb.hl
  have hhl := ho.hl
  have hn3 := ho.n3
  have hm5 := ho.m5
  have swl := hw.len
  rw [ints_length] at swl
  have htc : t < b.claim.length := by omega
  have htl : t < b.has.length := by omega
  obtain ⟨cn1, cn2⟩ := ho.cn t htc
  obtain ⟨E3, hE3⟩ : ∃ E3 : Ent, E3 = ⟨some r3, [Value.slice none 0 0, .slice none 0 0, .slice none 0 0], 3⟩ := ⟨_, rfl⟩
  have hE3' : (⟨some r3, [Value.slice none 0 0, .slice none 0 0, .slice none 0 0], List.length [Value.slice none 0 0, .slice none 0 0, .slice none 0 0]⟩ : Ent) = E3 := by rw [hE3]; rfl
  have hE1' : (⟨some r1, [Value.slice sf.a sf.len sf.cap, .slice sc.a sc.len sc.cap, .slice sh.a sh.len sh.cap], List.length [Value.slice sf.a sf.len sf.cap, .slice sc.a sc.len sc.cap, .slice sh.a sh.len sh.cap]⟩ : Ent) = bkE r1 sf sc sh := rfl
  have w1 := Wf.add (e := bkE r1 sf sc sh) hwf hf1 rfl
  rw [hE1'] at hf3
  have w3 := Wf.add (e := E3) w1 hf3 (by rw [hE3]; rfl)
  have hc2 : own ++ [bkE r1 sf sc sh] ++ [E3] = own ++ [bkE r1 sf sc sh, E3] := by simp
  rw [hc2] at w3
  rw [hE1', hE3', hc2]
  have hup : ∀ {own}, BkRd ⟨own, ro⟩ sf sc sh b := fun {X} => hb.mono (by simp) (fun _ _ h => h)
  have hwu : ∀ {own}, RdSl ⟨own, ro⟩ sw (ints want) := fun {X} => hw.mono (by simp) (fun _ _ h => h)
  have hE : ∀ {X : List Ent}, bkE r1 sf sc sh ∈ own ++ bkE r1 sf sc sh :: X := fun {X} => by simp
  have hsb : ∀ v : Int, 0 ≤ v ∧ v ≤ 1000 → -1000 ≤ sg * v ∧ sg * v ≤ 1000 := fun v hv => by
    rcases hsg with h | h <;> subst h <;> omega
  refine ⟨fun s m h => ∃ ef em, h = ⟨own ++ [bkE r1 sf sc sh, E3, ef, em], ro⟩ ∧ Wf h ∧ OwnsSl 1 s ef (ints (bmv b t want sg).free) ∧ OwnsSl 1 m em (ints ((List.range b.free.length).map fun k => g2 b.has t k + sg * gI want k)),
    ⟨fun n s m x h => ∃ (k : Nat) (ef em : Ent), x = (k : Int) ∧ k ≤ b.free.length ∧ n = b.free.length - k ∧ h = ⟨own ++ [bkE r1 sf sc sh, E3, ef, em], ro⟩ ∧ Wf h ∧ OwnsSl 1 s ef (ints ((List.range k).map fun k => gI b.free k - sg * gI want k)) ∧ OwnsSl 1 m em (ints ((List.range k).map fun k => g2 b.has t k + sg * gI want k)),
      ⟨_, ⟨own ++ [bkE r1 sf sc sh, E3, ⟨none, [], 0⟩, ⟨none, [], 0⟩], ro⟩, ?_, 0, _, _, rfl, Nat.zero_le _, rfl, rfl, ?_, OwnsSl.nil 1, OwnsSl.nil 1⟩, ?_⟩, ?_⟩
  · have g1 := Gh.phantom (own ++ [bkE r1 sf sc sh, E3]) [] ro 0
    have g2 := Gh.phantom (own ++ [bkE r1 sf sc sh, E3]) [⟨none, [], 0⟩] ro 0
    simpa using g1.trans g2
  · have w11 := Wf.ph (A := own ++ [bkE r1 sf sc sh, E3]) (C := []) (by simpa using w3)
    have w12 := Wf.ph (A := own ++ [bkE r1 sf sc sh, E3]) (C := [⟨none, [], 0⟩]) (by simpa using w11)
    simpa using w12
  · rintro n _ s m x _ ⟨k, ef, em, rfl, hk', rfl, rfl, hw2, oF, oM⟩
    have lF := oF.sl_len
    have lM := oM.sl_len
    rw [ints_length, List.length_map, List.length_range] at lF lM
    refine ⟨sf, bkE_0 hE, VIf_dec (fun hi => ?_) (fun hi => gi ⟨ef, em, rfl, hw2, ?_, ?_⟩)⟩
    rotate_left
    · have : k = b.free.length := by omega
      subst this; exact oF
    · have : k = b.free.length := by omega
      subst this; exact oM
    have hkf : k < b.free.length := by omega
    have h5 := hwr k hkf
    have h6 := ho.f k hkf
    have h7 := ho.c t k htc hkf
    have h8 := hsb _ h5
    obtain ⟨bw, hbw⟩ := hw.addr (by rw [ints_length]; omega)
    have rw' : ∀ {own : List Ent}, H.rd ⟨own, ro⟩ (Addr.add (Addr.add bw (((k : Nat) : Int).toNat * 1)) 0) (.int .i64 (gI want k)) := fun {X} => RdSl.rdi (hwu (own := X)) hbw (by rw [Int.toNat_natCast]; exact gI_some (by omega))
    refine ⟨bw, hbw, by omega, by omega, sf, bkE_0 hE, idxG hup.f (by omega) (by omega) ⟨gI want k, rw', ?_⟩⟩
    rw [Int.toNat_natCast]
    refine ⟨⟨by omega, by omega⟩, ⟨by omega, by omega⟩, ?_⟩
    refine app_rowW grows_ints (vs := [.int .i64 (gI b.free k - sg * gI want k)]) rfl ⟨rfl, trivial⟩ (own ++ [bkE r1 sf sc sh, E3]) ef [em] (by simp) oF hw2 (by omega) (fun s2 ef2 oF2 lF2 hw3 => ?_)
    have hc5 : own ++ [bkE r1 sf sc sh, E3] ++ ef2 :: [em] = own ++ [bkE r1 sf sc sh, E3, ef2, em] := by simp
    rw [hc5] at hw3 ⊢
    refine ⟨bw, hbw, by omega, by omega, sh, bkE_2 hE, hup.ha (by omega) (by omega) fun xh hxh hlh => idxG hxh (by omega) (by rw [Int.toNat_natCast]; omega) ⟨gI want k, rw', ?_⟩⟩
    have e2 : gI ((b.has[((t : Nat) : Int).toNat]?).getD []) ((k : Nat) : Int).toNat = g2 b.has t k := rfl
    rw [e2]
    refine ⟨⟨by omega, by omega⟩, ⟨by omega, by omega⟩, ?_⟩
    refine app_rowW grows_ints (vs := [.int .i64 (g2 b.has t k + sg * gI want k)]) rfl ⟨rfl, trivial⟩ (own ++ [bkE r1 sf sc sh, E3, ef2]) em [] (by simp) oM hw3 (by omega) (fun m2 em2 oM2 lM2 hw4 => ?_)
    have hc6 : own ++ [bkE r1 sf sc sh, E3, ef2] ++ em2 :: [] = own ++ [bkE r1 sf sc sh, E3, ef2, em2] := by simp
    rw [hc6] at hw4 ⊢
    exact ⟨⟨by omega, by omega⟩, b.free.length - (k + 1), by omega, gi ⟨k + 1, ef2, em2, by omega, by omega, rfl, rfl, hw4, by simpa [List.range_succ, ints, intV] using oF2, by simpa [List.range_succ, ints, intV] using oM2⟩⟩
  rintro _ s m _ ⟨ef, em, rfl, hw2, oF, oM⟩
  obtain ⟨rh, rh1, rh2⟩ := hb.h
  have rhl : rh.length = b.has.length := by rw [← rh2]; simp
  have rhs : rh.map (fun r => Value.slice r.1.a r.1.len r.1.cap) = (rh.map Prod.fst).map svV := by rw [List.map_map]; rfl
  refine ⟨sh, bkE_2 hE, app_newW grows_rows (vs := (rh.map Prod.fst).map svV) (by rw [← rhs]; exact rh1.1.mono (by simp) (fun _ _ h => h)) (allOne_svV _) hw2 (by omega) (fun s2 e2 o2 l2 hw3 => ?_)⟩
  have hl2 := o2.sl_len
  rw [List.length_map, List.length_map] at hl2
  refine wr_atM (f := svV) (v := m) (fun _ => rfl) (own ++ [bkE r1 sf sc sh, E3, ef, em]) e2 [] (by simp) o2 (by omega) (by omega) (fun e3 o3 hid => ?_)
  rw [Int.toNat_natCast] at o3
  have hw4 : Wf ⟨own ++ [bkE r1 sf sc sh, E3, ef, em] ++ e3 :: [], ro⟩ := hw3.mid hid
  refine ⟨sc, bkE_1 (r := r1) (sf := sf) (sh := sh) (by simp), rfl, rfl, ?_⟩
  refine bk_out (sf := s) (sc := sc) (sh := s2) (cs := [Value.slice none 0 0, .slice none 0 0, .slice none 0 0]) (own ++ [bkE r1 sf sc sh]) [ef, em, e3] (by simp [hE3]) rfl ?_
  have hw5 : Wf ⟨own ++ [ef, em, e3], ro⟩ := hw4.sub (by
    simp only [List.append_assoc]
    refine List.Sublist.append_left ?_ _
    exact .cons _ (.cons _ (List.Sublist.refl _)))
  obtain ⟨ro', g, mo, rd⟩ := frzE (own := own) _ ro hw5
  refine ⟨⟨own, ro'⟩, (Gh.drop ?_).trans g, hk s sc s2 ro' mo ⟨rd ef (by simp) _ _ oF, ?_, ?_⟩⟩
  · rw [List.append_assoc]
    refine List.Sublist.append_left ?_ _
    exact .cons _ (.cons _ (List.Sublist.refl _))
  · obtain ⟨rc, c1, c2⟩ := hb.c
    exact ⟨rc, c1.mono (by simp) mo, c2⟩
  · refine ⟨rh.set t (m, (List.range b.free.length).map fun k => g2 b.has t k + sg * gI want k), ⟨?_, fun r hr => ?_⟩, by rw [List.map_set, rh2]; rfl⟩
    · have e : (rh.set t (m, (List.range b.free.length).map fun k => g2 b.has t k + sg * gI want k)).map (fun r => Value.slice r.1.a r.1.len r.1.cap) = ((rh.map Prod.fst).set t m).map svV := by
        rw [List.map_set, List.map_set, List.map_map]; rfl
      rw [e]
      exact rd e3 (by simp) _ _ o3
    · rcases mem_set_cases hr with rfl | ⟨j, _, hj⟩
      · exact rd em (by simp) _ _ oM
      · exact (rh1.2 r (List.mem_of_getElem? hj)).mono (by simp) mo
/-! #### a row along which all can end -/
theorem gI_at2 {m : List Int} {k : Nat} {x : Int} (h : m[k]? = some x) : gI m k = x := by unfold gI; rw [h]; rfl
end Go.Proofs.YtnppmcgmmdcpiaaGreatDoor
namespace Go.Proofs.YtnppmcgmmdcpiaaGreatDoor
open Go.Eng
set_option maxRecDepth 20000
/-! ### the bank: what is the same, and facts -/
theorem same_rows_c {s s2 : SV} {rc rc2 : List (SV × List Int)} {h : H} {post : Value → H → Prop} (hr : RdRowsOf h s rc) (hr2 : RdRowsOf h s2 rc2) (hb : ∀ l ∈ rc.map Prod.snd, l.length ≤ 1000000) (hn : s.len ≤ 1000000)
    (h1 : rc.map Prod.snd = rc2.map Prod.snd → post (.bool true) h) (h2 : rc.map Prod.snd ≠ rc2.map Prod.snd → post (.bool false) h) : SemCall Tryz.prog 36 (List.toArray [.slice s.a s.len s.cap, .slice s2.a s2.len s2.cap]) h post := by
  refine f36_call s s2 h post ?_
  have e1 := rowsof_len hr rfl
  have e2 := rowsof_len hr2 rfl
  refine VIf_ne (fun hc => ret (h2 (fun he => hc (by rw [e1, e2, he])))) (fun hc => ?_)
  have hl : (rc.map Prod.snd).length = (rc2.map Prod.snd).length := by omega
  refine ⟨fun h' => h' = h ∧ rc.map Prod.snd = rc2.map Prod.snd, ⟨fun n i h' => ∃ k : Nat, i = (k : Int) ∧ k ≤ s.len ∧ n = s.len - k ∧ h' = h ∧ (rc.map Prod.snd).take k = (rc2.map Prod.snd).take k, ⟨_, gi ⟨0, rfl, Nat.zero_le _, rfl, rfl, by simp⟩⟩, ?_⟩, ?_⟩
  · rintro n _ i _ ⟨k, rfl, hk, rfl, rfl, ht⟩
    refine VIf_dec (fun hi => ?_) (fun hi => gi ⟨rfl, ?_⟩)
    rotate_left
    · rwa [List.take_of_length_le (by omega), List.take_of_length_le (by omega)] at ht
    have k1 : k < (rc.map Prod.snd).length := by omega
    have k2 : k < (rc2.map Prod.snd).length := by omega
    refine rowsof_at hr rfl (by omega) (by omega) fun x hx hxl => rowsof_at hr2 rfl (by omega) (by omega) fun y hy hyl => ?_
    rw [Int.toNat_natCast, List.getElem?_eq_getElem k1] at hx hxl
    rw [Int.toNat_natCast, List.getElem?_eq_getElem k2] at hy hyl
    simp only [Option.getD_some] at hx hxl hy hyl
    have hxb := hb _ (List.getElem_mem k1)
    refine same_ints_c hx hy (by omega) ⟨_, rfl, VIf_not (fun hne => ret (h2 (fun he => hne ?_))) (fun he => ⟨⟨by omega, by omega⟩, s.len - (k + 1), by omega, gi ⟨k + 1, by omega, by omega, rfl, rfl, ?_⟩⟩)⟩
    · have := congrArg (fun l : List (List Int) => l[k]?) he
      rw [List.getElem?_eq_getElem k1, List.getElem?_eq_getElem k2] at this
      exact Option.some.inj this
    · rw [List.take_add_one, List.take_add_one, ht, List.getElem?_eq_getElem k1, List.getElem?_eq_getElem k2, he]
  · rintro _ _ ⟨rfl, h⟩
    exact ret (h1 h)
structure Sml (b : Bk) : Prop where
  f : b.free.length ≤ 1000
  c : b.claim.length ≤ 1000 ∧ ∀ l ∈ b.claim, l.length ≤ 1000
  h : b.has.length ≤ 1000 ∧ ∀ l ∈ b.has, l.length ≤ 1000
theorem BOk.sml {b : Bk} (h : BOk b) : Sml b := by
  have := h.n3; have := h.m5; have hl := h.hl
  refine ⟨by omega, ⟨by omega, fun l hl => ?_⟩, ⟨by omega, fun l hl2 => ?_⟩⟩
  · obtain ⟨t, ht, rfl⟩ := List.mem_iff_getElem.1 hl
    have := (h.cn t ht).1
    rw [List.getElem?_eq_getElem ht] at this
    simp only [Option.getD_some] at this
    omega
  · obtain ⟨t, ht, rfl⟩ := List.mem_iff_getElem.1 hl2
    have := (h.cn t (by omega)).2
    rw [List.getElem?_eq_getElem ht] at this
    simp only [Option.getD_some] at this
    omega
theorem same_banks_c {b b2 : Bk} {sf sc sh sf2 sc2 sh2 : SV} {own : List Ent} {ro : Addr → Option Value} {post : Value → H → Prop} (hb : BkRd ⟨own, ro⟩ sf sc sh b) (hb2 : BkRd ⟨own, ro⟩ sf2 sc2 sh2 b2) (hs : Sml b)
    (h1 : b = b2 → post (.bool true) ⟨own, ro⟩) (h2 : b ≠ b2 → post (.bool false) ⟨own, ro⟩) : SemCall Tryz.prog 17 (List.toArray [bkV sf sc sh, bkV sf2 sc2 sh2]) ⟨own, ro⟩ post := by
  refine f17_call sf sc sh sf2 sc2 sh2 _ post ?_
  intro r1 _ r3 _
  simp only [add_mk', Nat.zero_add, Nat.add_zero]
  have hE1 : bkE r1 sf sc sh ∈ own ++ [bkE r1 sf sc sh] ++ [bkE r3 sf2 sc2 sh2] := by simp
  have hE3 : bkE r3 sf2 sc2 sh2 ∈ own ++ [bkE r1 sf sc sh] ++ [bkE r3 sf2 sc2 sh2] := by simp
  have hu : BkRd ⟨own ++ [bkE r1 sf sc sh] ++ [bkE r3 sf2 sc2 sh2], ro⟩ sf sc sh b := hb.mono (fun e he => by simp [he]) (fun _ _ h => h)
  have hu2 : BkRd ⟨own ++ [bkE r1 sf sc sh] ++ [bkE r3 sf2 sc2 sh2], ro⟩ sf2 sc2 sh2 b2 := hb2.mono (fun e he => by simp [he]) (fun _ _ h => h)
  obtain ⟨f, ⟨rc, c1, c2⟩, ⟨rh, g1, g3⟩⟩ := hu
  obtain ⟨f', ⟨rc', c1', c2'⟩, ⟨rh', g1', g3'⟩⟩ := hu2
  have fl := f.len
  rw [ints_length] at fl
  have cl := rowsof_len c1 c2
  have hl := rowsof_len g1 g3
  have := hs.f; have := hs.c.1; have := hs.h.1
  obtain ⟨bf, bc, bh⟩ := b
  obtain ⟨bf', bc', bh'⟩ := b2
  dsimp only at *
  open Classical in
  refine join_b (h := ⟨own ++ [bkE r1 sf sc sh] ++ [bkE r3 sf2 sc2 sh2], ro⟩) (decide ((⟨bf, bc, bh⟩ : Bk) = ⟨bf', bc', bh'⟩)) ⟨sf, bkE_0 hE1, sf2, bkE_0 hE3, same_ints_c f f' (by omega) ⟨_, rfl, VIf_dec (fun e1 => ?_) (fun e1 => gi ⟨rfl, ?_⟩)⟩⟩ ?_
  · refine ⟨sc, bkE_1 hE1, sc2, bkE_1 hE3, same_rows_c c1 c1' (by rw [c2]; exact fun l h => by have := hs.c.2 l h; omega) (by omega) (fun e2 => ⟨_, rfl, VIf_b (fun _ => ?_) (nomatch ·)⟩) (fun e2 => ⟨_, rfl, VIf_b (nomatch ·) (fun _ => gi ⟨rfl, ?_⟩)⟩)⟩
    · refine ⟨sh, bkE_2 hE1, sh2, bkE_2 hE3, same_rows_c g1 g1' (by rw [g3]; exact fun l h => by have := hs.h.2 l h; omega) (by omega) (fun e3 => ⟨_, rfl, gi ⟨rfl, ?_⟩⟩) (fun e3 => ⟨_, rfl, gi ⟨rfl, ?_⟩⟩)⟩
      · rw [c2, c2'] at e2
        rw [g3, g3'] at e3
        exact (decide_eq_true (by rw [e1, e2, e3])).symm
      · rw [g3, g3'] at e3
        exact (decide_eq_false (fun h => by cases h; exact e3 rfl)).symm
    · rw [c2, c2'] at e2
      exact (decide_eq_false (fun h => by cases h; exact e2 rfl)).symm
  · exact (decide_eq_false (fun h => by cases h; exact e1 rfl)).symm
  · open Classical in
    by_cases h : (⟨bf, bc, bh⟩ : Bk) = ⟨bf', bc', bh'⟩
    · rw [decide_eq_true h]
      exact ⟨⟨own, ro⟩, Gh.drop (by simp), h1 h⟩
    · rw [decide_eq_false h]
      exact ⟨⟨own, ro⟩, Gh.drop (by simp), h2 h⟩
end Go.Proofs.YtnppmcgmmdcpiaaGreatDoor
namespace Go.Proofs.YtnppmcgmmdcpiaaGreatDoor
open Go.Eng
set_option maxRecDepth 20000
/-! ### the document's bank -/
theorem ref4_in_i {n lo hi : Int} {h : H} {post : Value → H → Prop} (h1 : ¬ (lo ≤ n ∧ n ≤ hi) → post (.bool false) h) (h2 : lo ≤ n → n ≤ hi → post (.bool true) h) : SemCall Tryz.prog 90 (List.toArray [.int .i64 n, .int .i64 lo, .int .i64 hi]) h post := by
  refine f90_call n lo hi h post ?_
  refine ⟨fun b h' => h' = h ∧ b = decide (lo ≤ n ∧ n ≤ hi), VIf_dec (fun hx => gi ⟨rfl, ?_⟩) (fun hx => gi ⟨rfl, ?_⟩), ?_⟩
  · have : lo ≤ n := hx; simp [this]
  · have : ¬ lo ≤ n := hx; simp [this]
  · rintro _ b h' ⟨rfl, rfl⟩
    by_cases h : lo ≤ n ∧ n ≤ hi
    · rw [decide_eq_true h]; exact ret (h2 h.1 h.2)
    · rw [decide_eq_false h]; exact ret (h1 h)
theorem ref4_all_c {b : Bk} {sf sc sh : SV} {k : Nat} {own : List Ent} {ro : Addr → Option Value} {post : Value → H → Prop} (hb : BkRd ⟨own, ro⟩ sf sc sh b) (hk' : k < b.free.length) (h5 : b.has.length ≤ 5) (hsh : ∀ t, t < b.has.length → ((b.has[t]?).getD []).length = b.free.length)
    (hf : 0 ≤ gI b.free k ∧ gI b.free k ≤ 1000) (hh : ∀ t, t < b.has.length → 0 ≤ g2 b.has t k ∧ g2 b.has t k ≤ 1000) (hk : post (.int .i64 (ball b k)) ⟨own, ro⟩) :
    SemCall Tryz.prog 91 (List.toArray [bkV sf sc sh, .int .i64 k]) ⟨own, ro⟩ post := by
  refine f91_call sf sc sh k _ post ?_
  intro r1 _
  simp only [add_mk', Nat.zero_add, Nat.add_zero]
  have hup : BkRd ⟨own ++ [bkE r1 sf sc sh], ro⟩ sf sc sh b := ha_all hb (fun e he => List.mem_append_left _ he)
  have hE : bkE r1 sf sc sh ∈ own ++ [bkE r1 sf sc sh] := by simp
  have hl := hb.hl
  refine ⟨sf, bkE_0 hE, idxG hup.f (by omega) (by omega) ?_⟩
  rw [Int.toNat_natCast]
  refine ⟨fun v h => v = ball b k ∧ h = ⟨own ++ [bkE r1 sf sc sh], ro⟩, ⟨fun n v i h => ∃ t : Nat, i = (t : Int) ∧ t ≤ b.has.length ∧ n = b.has.length - t ∧ v = ballT b t k ∧ h = ⟨own ++ [bkE r1 sf sc sh], ro⟩, ⟨_, gi ⟨0, rfl, Nat.zero_le _, rfl, rfl, rfl⟩⟩, ?_⟩, ?_⟩
  · rintro n _ v i _ ⟨t, rfl, ht, rfl, rfl, rfl⟩
    refine ⟨sh, bkE_2 hE, VIf_dec (fun hi => ?_) (fun hi => gi ⟨?_, rfl⟩)⟩
    rotate_left
    · have : t = b.has.length := by omega
      subst this; exact ballT_all
    have htl : t < b.has.length := by omega
    have hs := hsh t htl
    refine ⟨sh, bkE_2 hE, hup.ha (by omega) (by omega) fun xh hxh hlh => idxG hxh (by omega) (by rw [Int.toNat_natCast]; omega) ?_⟩
    have e2 : gI ((b.has[((t : Nat) : Int).toNat]?).getD []) ((k : Nat) : Int).toNat = g2 b.has t k := rfl
    rw [e2]
    have h6 := ballT_b hf (t := t) (by omega) (fun s hs => hh s (by omega))
    have h7 := hh t htl
    exact ⟨⟨by omega, by omega⟩, ⟨by omega, by omega⟩, b.has.length - (t + 1), by omega, gi ⟨t + 1, by omega, by omega, rfl, (ballT_succ htl).symm, rfl⟩⟩
  · rintro _ v _ ⟨rfl, rfl⟩
    exact ⟨⟨own, ro⟩, Gh.drop (by simp), hk⟩
set_option maxHeartbeats 800000 in
theorem ref4_bank_c {b : Bk} {sf sc sh : SV} {own : List Ent} {ro : Addr → Option Value} {post : Value → H → Prop} (hb : BkRd ⟨own, ro⟩ sf sc sh b)
    (hk : post (.int .i64 (bcheck b)) ⟨own, ro⟩) : SemCall Tryz.prog 58 (List.toArray [bkV sf sc sh]) ⟨own, ro⟩ post := by
  refine f58_call sf sc sh _ post ?_
  intro r1 _
  simp only [add_mk', Nat.zero_add, Nat.add_zero]
  have fl := hb.fl
  have cl := hb.cl
  have hl := hb.hl
  have hup : BkRd ⟨own ++ [bkE r1 sf sc sh], ro⟩ sf sc sh b := ha_all hb (fun e he => List.mem_append_left _ he)
  have hE : bkE r1 sf sc sh ∈ own ++ [bkE r1 sf sc sh] := by simp
  have done : ∀ {v : Int}, v = bcheck b → VRet ⟨own ++ [bkE r1 sf sc sh], ro⟩ (.int .i64 v) post := fun {v} hv => ⟨⟨own, ro⟩, Gh.drop (by simp), by rw [hv]; exact hk⟩
  refine ⟨sf, bkE_0 hE, VIf_eq (fun h0 => done ?_) (fun h0 => ?_)⟩
  · rw [bcheck, if_pos (by omega)]
  refine join_b (h := ⟨own ++ [bkE r1 sf sc sh], ro⟩) (decide (b.free.length > 3 ∨ b.claim.length > 5)) (VIf_dec (fun h1 => gi ⟨rfl, ?_⟩) (fun h1 => ⟨sc, bkE_1 hE, gi ⟨rfl, ?_⟩⟩)) ?_
  · exact (decide_eq_true (.inl (by omega))).symm
  · exact decide_eq_decide.2 ⟨fun h => .inr (by omega), fun h => by omega⟩
  refine VIf_dec (fun h1 => done ?_) (fun h1 => ?_)
  · rw [bcheck, if_neg (by omega), if_pos h1]
  simp only [add_mk', Nat.zero_add, Nat.add_zero]
  refine ⟨sh, bkE_2 hE, sc, bkE_1 hE, VIf_ne (fun h2 => done ?_) (fun h2 => ?_)⟩
  · rw [bcheck, if_neg (by omega), if_neg h1, if_pos (by omega)]
  refine ⟨fun h => h = ⟨own ++ [bkE r1 sf sc sh], ro⟩ ∧ ∀ t, t < b.claim.length → ((b.claim[t]?).getD []).length = b.free.length ∧ ((b.has[t]?).getD []).length = b.free.length,
    ⟨fun n i h => ∃ k : Nat, i = (k : Int) ∧ k ≤ b.claim.length ∧ n = b.claim.length - k ∧ h = ⟨own ++ [bkE r1 sf sc sh], ro⟩ ∧ ∀ t, t < k → ((b.claim[t]?).getD []).length = b.free.length ∧ ((b.has[t]?).getD []).length = b.free.length, ⟨_, gi ⟨0, rfl, Nat.zero_le _, rfl, rfl, fun j hj => by omega⟩⟩, ?_⟩, ?_⟩
  · rintro n _ i _ ⟨k, rfl, hk', rfl, rfl, hall⟩
    simp only [f58_L1, add_mk', Nat.zero_add, Nat.add_zero]
    refine ⟨sc, bkE_1 hE, VIf_dec (fun hi => ?_) (fun hi => gi ⟨rfl, fun t ht => hall t (by omega)⟩)⟩
    refine join_b (h := ⟨own ++ [bkE r1 sf sc sh], ro⟩) (decide (((b.claim[k]?).getD []).length ≠ b.free.length ∨ ((b.has[k]?).getD []).length ≠ b.free.length)) ⟨sc, bkE_1 hE, hup.ca (by omega) (by omega) fun xc hxc hlc => VIf_ne (fun h3 => gi ⟨rfl, ?_⟩) (fun h3 => ⟨sh, bkE_2 hE, hup.ha (by omega) (by omega) fun xh hxh hlh => gi ⟨rfl, ?_⟩⟩)⟩ ?_
    · rw [Int.toNat_natCast] at hlc
      exact (decide_eq_true (.inl (by omega))).symm
    · rw [Int.toNat_natCast] at hlc hlh
      rw [bne_dec]
      exact decide_eq_decide.2 (by omega)
    refine VIf_dec (fun h3 => done ?_) (fun h3 => ⟨⟨by omega, by omega⟩, b.claim.length - (k + 1), by omega, gi ⟨k + 1, by omega, by omega, rfl, rfl, fun t ht => ?_⟩⟩)
    · rw [bcheck, if_neg (by omega), if_neg h1, if_neg (by omega), if_pos ⟨k, by omega, h3⟩]
    · by_cases he : t = k
      · subst he; omega
      · exact hall t (by omega)
  rintro _ _ ⟨rfl, hsh⟩
  have n4 : ¬ ∃ t, t < b.claim.length ∧ (((b.claim[t]?).getD []).length ≠ b.free.length ∨ ((b.has[t]?).getD []).length ≠ b.free.length) := fun ⟨t, h3, h4⟩ => by have := hsh t h3; omega
  refine ⟨fun h => h = ⟨own ++ [bkE r1 sf sc sh], ro⟩ ∧ ∀ k, k < b.free.length → 0 ≤ gI b.free k ∧ gI b.free k ≤ 1000,
    ⟨fun n i h => ∃ k : Nat, i = (k : Int) ∧ k ≤ b.free.length ∧ n = b.free.length - k ∧ h = ⟨own ++ [bkE r1 sf sc sh], ro⟩ ∧ ∀ j, j < k → 0 ≤ gI b.free j ∧ gI b.free j ≤ 1000, ⟨_, gi ⟨0, rfl, Nat.zero_le _, rfl, rfl, fun j hj => by omega⟩⟩, ?_⟩, ?_⟩
  · rintro n _ i _ ⟨k, rfl, hk', rfl, rfl, hall⟩
    simp only [f58_L2, add_mk', Nat.zero_add, Nat.add_zero]
    refine VIf_dec (fun hi => ?_) (fun hi => gi ⟨rfl, fun t ht => hall t (by omega)⟩)
    refine ⟨sf, bkE_0 hE, idxG hup.f (by omega) (by omega) (ref4_in_i (fun hc => ⟨_, rfl, VIf_nb (fun _ => done ?_) (nomatch ·)⟩) (fun c0 c1 => ⟨_, rfl, VIf_nb (nomatch ·) (fun _ => ⟨⟨by omega, by omega⟩, b.free.length - (k + 1), by omega, gi ⟨k + 1, by omega, by omega, rfl, rfl, fun t ht => ?_⟩⟩)⟩))⟩
    · rw [Int.toNat_natCast] at hc
      rw [bcheck, if_neg (by omega), if_neg h1, if_neg (by omega), if_neg n4, if_pos ⟨k, by omega, hc⟩]
    · rw [Int.toNat_natCast] at c0 c1
      by_cases he : t = k
      · subst he; exact ⟨c0, c1⟩
      · exact hall t (by omega)
  rintro _ _ ⟨rfl, hfr⟩
  have n5 : ¬ ∃ k, k < b.free.length ∧ ¬ (0 ≤ gI b.free k ∧ gI b.free k ≤ 1000) := fun ⟨k, h3, h4⟩ => h4 (hfr k h3)
  let okc : Nat → Nat → Prop := fun t k => (0 ≤ g2 b.claim t k ∧ g2 b.claim t k ≤ 1000) ∧ (0 ≤ g2 b.has t k ∧ g2 b.has t k ≤ g2 b.claim t k)
  have bad6 : ∀ t k, t < b.claim.length → k < b.free.length → ¬ okc t k → 1 = bcheck b := fun t k ht hk' hc => by
    rw [bcheck, if_neg (by omega), if_neg h1, if_neg (by omega), if_neg n4, if_neg n5, if_pos ⟨t, k, ht, hk', hc⟩]
  refine ⟨fun h => h = ⟨own ++ [bkE r1 sf sc sh], ro⟩ ∧ ∀ t k, t < b.claim.length → k < b.free.length → okc t k,
    ⟨fun n i h => ∃ t : Nat, i = (t : Int) ∧ t ≤ b.claim.length ∧ n = b.claim.length - t ∧ h = ⟨own ++ [bkE r1 sf sc sh], ro⟩ ∧ ∀ s k, s < t → k < b.free.length → okc s k, ⟨_, gi ⟨0, rfl, Nat.zero_le _, rfl, rfl, fun s k hs => by omega⟩⟩, ?_⟩, ?_⟩
  · rintro n _ i _ ⟨t, rfl, ht, rfl, rfl, hok⟩
    simp only [f58_L4, add_mk', Nat.zero_add, Nat.add_zero]
    refine ⟨sc, bkE_1 hE, VIf_dec (fun hi => ?_) (fun hi => gi ⟨rfl, fun s k hs hk' => hok s k (by omega) hk'⟩)⟩
    have htc : t < b.claim.length := by omega
    have hcl2 := (hsh t htc).1
    have hhl2 := (hsh t htc).2
    refine ⟨fun h => h = ⟨own ++ [bkE r1 sf sc sh], ro⟩ ∧ ∀ k, k < b.free.length → okc t k, ⟨fun h => h = ⟨own ++ [bkE r1 sf sc sh], ro⟩ ∧ ∀ k, k < b.free.length → okc t k,
      ⟨fun n i h => ∃ k : Nat, i = (k : Int) ∧ k ≤ b.free.length ∧ n = b.free.length - k ∧ h = ⟨own ++ [bkE r1 sf sc sh], ro⟩ ∧ ∀ k', k' < k → okc t k', ⟨_, gi ⟨0, rfl, Nat.zero_le _, rfl, rfl, fun s hs => by omega⟩⟩, ?_⟩, ?_⟩, ?_⟩
    · rintro n _ i _ ⟨k, rfl, hk', rfl, rfl, hok2⟩
      simp only [f58_L3, add_mk', Nat.zero_add, Nat.add_zero]
      refine VIf_dec (fun hi => ?_) (fun hi => gi ⟨rfl, fun k' hk2 => hok2 k' (by omega)⟩)
      have hkf : k < b.free.length := by omega
      have e1 : gI ((b.claim[((t : Nat) : Int).toNat]?).getD []) ((k : Nat) : Int).toNat = g2 b.claim t k := rfl
      have e2 : gI ((b.has[((t : Nat) : Int).toNat]?).getD []) ((k : Nat) : Int).toNat = g2 b.has t k := rfl
      refine join_b (h := ⟨own ++ [bkE r1 sf sc sh], ro⟩) (decide (¬ okc t k)) ⟨sc, bkE_1 hE, hup.ca (by omega) (by omega) fun xc hxc hlc => idxG hxc (by omega) (by rw [Int.toNat_natCast]; omega) ?_⟩ ?_
      · rw [e1]
        refine ref4_in_i (fun hc => ⟨_, rfl, VIf_nb (fun _ => gi ⟨rfl, (decide_eq_true (p := ¬ okc t k) (fun h => hc h.1)).symm⟩) (nomatch ·)⟩) (fun c0 c1 => ⟨_, rfl, VIf_nb (nomatch ·) (fun _ => ?_)⟩)
        refine ⟨sh, bkE_2 hE, hup.ha (by omega) (by omega) fun xh hxh hlh => idxG hxh (by omega) (by rw [Int.toNat_natCast]; omega) ⟨sc, bkE_1 hE, hup.ca (by omega) (by omega) fun xc hxc hlc => idxG hxc (by omega) (by rw [Int.toNat_natCast]; omega) ?_⟩⟩
        rw [e1, e2]
        exact ref4_in_i (fun hc => ⟨_, rfl, gi ⟨rfl, (decide_eq_true (p := ¬ okc t k) (fun h => hc h.2)).symm⟩⟩) (fun d0 d1 => ⟨_, rfl, gi ⟨rfl, (decide_eq_false (fun hn => hn ⟨⟨c0, c1⟩, d0, d1⟩)).symm⟩⟩)
      refine VIf_dec (fun hc => done (bad6 t k htc hkf hc)) (fun hc => ⟨⟨by omega, by omega⟩, b.free.length - (k + 1), by omega, gi ⟨k + 1, by omega, by omega, rfl, rfl, fun k' hk2 => ?_⟩⟩)
      by_cases he : k' = k
      · subst he; exact Classical.byContradiction hc
      · exact hok2 k' (by omega)
    · rintro _ _ h; exact gi h
    · rintro _ _ ⟨rfl, h⟩
      refine ⟨⟨by omega, by omega⟩, b.claim.length - (t + 1), by omega, gi ⟨t + 1, by omega, by omega, rfl, rfl, fun s k' hs hk' => ?_⟩⟩
      by_cases he : s = t
      · subst he; exact h k' hk'
      · exact hok s k' (by omega) hk'
  rintro _ _ ⟨rfl, hok⟩
  have n6 : ¬ ∃ t k, t < b.claim.length ∧ k < b.free.length ∧ ¬ ((0 ≤ g2 b.claim t k ∧ g2 b.claim t k ≤ 1000) ∧ (0 ≤ g2 b.has t k ∧ g2 b.has t k ≤ g2 b.claim t k)) := fun ⟨t, k, h3, h4, h5⟩ => h5 (hok t k h3 h4)
  refine ⟨fun h => h = ⟨own ++ [bkE r1 sf sc sh], ro⟩ ∧ ∀ t k, t < b.claim.length → k < b.free.length → g2 b.claim t k ≤ ball b k,
    ⟨fun n i h => ∃ t : Nat, i = (t : Int) ∧ t ≤ b.claim.length ∧ n = b.claim.length - t ∧ h = ⟨own ++ [bkE r1 sf sc sh], ro⟩ ∧ ∀ s k, s < t → k < b.free.length → g2 b.claim s k ≤ ball b k, ⟨_, gi ⟨0, rfl, Nat.zero_le _, rfl, rfl, fun s k hs => by omega⟩⟩, ?_⟩, ?_⟩
  · rintro n _ i _ ⟨t, rfl, ht, rfl, rfl, hall⟩
    simp only [f58_L6, add_mk', Nat.zero_add, Nat.add_zero]
    refine ⟨sc, bkE_1 hE, VIf_dec (fun hi => ?_) (fun hi => gi ⟨rfl, fun s k hs hk' => hall s k (by omega) hk'⟩)⟩
    have htc : t < b.claim.length := by omega
    have hcl2 := (hsh t htc).1
    refine ⟨fun h => h = ⟨own ++ [bkE r1 sf sc sh], ro⟩ ∧ ∀ k, k < b.free.length → g2 b.claim t k ≤ ball b k, ⟨fun h => h = ⟨own ++ [bkE r1 sf sc sh], ro⟩ ∧ ∀ k, k < b.free.length → g2 b.claim t k ≤ ball b k,
      ⟨fun n i h => ∃ k : Nat, i = (k : Int) ∧ k ≤ b.free.length ∧ n = b.free.length - k ∧ h = ⟨own ++ [bkE r1 sf sc sh], ro⟩ ∧ ∀ k', k' < k → g2 b.claim t k' ≤ ball b k', ⟨_, gi ⟨0, rfl, Nat.zero_le _, rfl, rfl, fun s hs => by omega⟩⟩, ?_⟩, ?_⟩, ?_⟩
    · rintro n _ i _ ⟨k, rfl, hk', rfl, rfl, hall2⟩
      simp only [f58_L5, add_mk', Nat.zero_add, Nat.add_zero]
      refine VIf_dec (fun hi => ?_) (fun hi => gi ⟨rfl, fun k' hk2 => hall2 k' (by omega)⟩)
      have hkf : k < b.free.length := by omega
      have e1 : gI ((b.claim[((t : Nat) : Int).toNat]?).getD []) ((k : Nat) : Int).toNat = g2 b.claim t k := rfl
      refine ⟨sc, bkE_1 hE, hup.ca (by omega) (by omega) fun xc hxc hlc => idxG hxc (by omega) (by rw [Int.toNat_natCast]; omega) ?_⟩
      rw [e1]
      refine ⟨sf, bkE_0 hE, sc, bkE_1 hE, sh, bkE_2 hE, ref4_all_c hup hkf (by omega) (fun t ht => (hsh t (by omega)).2) (hfr k hkf) (fun t ht => by have h9 := hok t k (by omega) hkf; exact ⟨h9.2.1, Int.le_trans h9.2.2 h9.1.2⟩) ⟨⟨[], by simp⟩, _, rfl, ?_⟩⟩
      refine VIf_dec (fun hgt => done ?_) (fun hle => ⟨⟨by omega, by omega⟩, b.free.length - (k + 1), by omega, gi ⟨k + 1, by omega, by omega, rfl, rfl, fun k' hk2 => ?_⟩⟩)
      · rw [bcheck, if_neg (by omega), if_neg h1, if_neg (by omega), if_neg n4, if_neg n5, if_neg n6, if_pos ⟨t, k, htc, hkf, by omega⟩]
      · by_cases he : k' = k
        · subst he; omega
        · exact hall2 k' (by omega)
    · rintro _ _ h; exact gi h
    · rintro _ _ ⟨rfl, h⟩
      refine ⟨⟨by omega, by omega⟩, b.claim.length - (t + 1), by omega, gi ⟨t + 1, by omega, by omega, rfl, rfl, fun s k' hs hk' => ?_⟩⟩
      by_cases he : s = t
      · subst he; exact h k' hk'
      · exact hall s k' (by omega) hk'
  rintro _ _ ⟨rfl, h⟩
  exact done (bcheck_zero.2 ⟨by omega, by omega, by omega, by omega, hsh, hfr, hok, h⟩).symm
/-! #### rows by search -/
def bended (b : Bk) (t : Nat) : Bk := ⟨badd b b.free t, b.claim, b.has.set t (List.replicate b.free.length 0)⟩
structure BS (b0 b : Bk) (told : List Nat) : Prop where
  c : b.claim = b0.claim
  f : b.free = bfree b0 told
  hl : b.has.length = b0.claim.length
  hr : ∀ t, t < b0.claim.length → ((b.has[t]?).getD []).length = b0.free.length
  hg : ∀ t k, t < b0.claim.length → k < b0.free.length → t ∉ told → g2 b.has t k = g2 b0.has t k
theorem BS.start {b : Bk} (ho : BOk b) : BS b b [] := ⟨rfl, rfl, ho.hl, fun t ht => (ho.cn t ht).2, fun _ _ _ _ _ => rfl⟩
theorem BS.go {b0 b : Bk} {told : List Nat} (h : BS b0 b told) {t : Nat} (ht : t < b0.claim.length) (hn : t ∉ told) : BS b0 (bended b t) (told ++ [t]) := by
  have hl := h.hl
  have hfl : b.free.length = b0.free.length := by rw [h.f, bfree_len]
  refine ⟨h.c, ?_, by simp [bended, hl], fun u hu => ?_, fun u k hu hk hnu => ?_⟩
  · show badd b b.free t = _
    rw [bfree_app, ← h.f]
    refine gI_ext (by rw [badd_len, badd_len]) fun k hk => ?_
    rw [badd_len] at hk
    rw [badd_get hk, badd_get hk, h.hg t k ht (by omega) hn]
  · show ((b.has.set t _)[u]?.getD []).length = _
    by_cases he : u = t
    · subst he; rw [List.getElem?_set_self (by omega)]; simp [hfl]
    · rw [List.getElem?_set_ne (fun e => he e.symm)]; exact h.hr u hu
  · show g2 (b.has.set t _) u k = _
    have hne : u ≠ t := fun e => hnu (by simp [e])
    rw [g2_set (by omega), if_neg hne]
    exact h.hg u k hu hk (fun hm => hnu (by simp [hm]))
theorem BS.ends {b0 b : Bk} {told : List Nat} (h : BS b0 b told) {t : Nat} (ht : t < b0.claim.length) (hn : t ∉ told) : bends b b.free t = bends b0 (bfree b0 told) t := by
  have e : ∀ {x y : Bool}, (x = true ↔ y = true) → x = y := fun {x y} h => by cases x <;> cases y <;> simp_all
  refine e ?_
  rw [bends_iff, bends_iff, h.f, h.c]
  have hfl := bfree_len b0 told
  exact ⟨fun hk k hl => by have := hk k hl; rwa [h.hg t k ht (by omega) hn] at this, fun hk k hl => by rw [h.hg t k ht (by omega) hn]; exact hk k hl⟩
end Go.Proofs.YtnppmcgmmdcpiaaGreatDoor
namespace Go.Proofs.YtnppmcgmmdcpiaaGreatDoor
open Go.Eng
set_option maxRecDepth 20000
/-! ### the document's bank: rows -/
theorem app_row2 {P : Program} {t e : TypeId} {sz : Nat} (g : Grows P t e sz) {s : SV} {K : SV → H → Prop} {vs : List Value} {r : Nat} {c : Nat} (hl : vs.length = sz) (h1 : allOne vs)
    (A : List Ent) (en : Ent) (C : List Ent) {own : List Ent} {xs : List Value} {ro : Addr → Option Value} (hr : (⟨some r, vs, c⟩ : Ent) ∈ own) (hs : (A ++ en :: C).Sublist own) (ho : OwnsSl sz s en xs) (hb : s.len + 1 ≤ 1000000000)
    (hk : ∀ (s' : SV) (en' : Ent), OwnsSl sz s' en' (xs ++ vs) → s'.len = s.len + 1 → K s' ⟨A ++ en' :: C, ro⟩) :
    appVC P t (.slice s.a s.len s.cap) (.slice (some (Addr.mk r 0 none)) 1 1) ⟨own, ro⟩ K := by
  refine appVC_of (s2 := ⟨some (Addr.mk r 0 none), 1, 1⟩) g (ys := vs) (by simp [hl]) ?_ h1 (by simp) (Gh.drop (own' := A ++ en :: C) hs) ho hb (fun s' en' o1 o2 _ _ hid => hk s' en' o1 o2)
  intro j v hv
  rw [add_mk']
  exact rdo ⟨some r, vs, c⟩ hr rfl (by simpa using hv)
structure Shp (b : Bk) (t : Nat) : Prop where
  n : b.free.length ≤ 3
  m : b.has.length ≤ 5
  tc : t < b.claim.length
  th : t < b.has.length
  lc : ((b.claim[t]?).getD []).length = b.free.length
  lh : ((b.has[t]?).getD []).length = b.free.length
  f : ∀ k, k < b.free.length → 0 ≤ gI b.free k ∧ gI b.free k ≤ 100000
  c : ∀ k, k < b.free.length → 0 ≤ g2 b.claim t k ∧ g2 b.claim t k ≤ 1000
  h : ∀ k, k < b.free.length → 0 ≤ g2 b.has t k ∧ g2 b.has t k ≤ 1000
set_option maxHeartbeats 800000 in
theorem ref4_ended_c {b : Bk} {sf sc sh : SV} {t : Nat} {own : List Ent} {ro : Addr → Option Value} {post : Value → H → Prop} (hb : BkRd ⟨[], ro⟩ sf sc sh b) (hs : Shp b t)
    (h1 : bends b b.free t = false → post (.tuple (List.toArray [bkV sf sc sh, .bool false])) ⟨own, ro⟩)
    (h2 : bends b b.free t = true → ∀ sf' sh' ro', (∀ a v, ro a = some v → ro' a = some v) → BkRd ⟨[], ro'⟩ sf' sc sh' (bended b t) → post (.tuple (List.toArray [bkV sf' sc sh', .bool true])) ⟨own, ro'⟩) :
    SemCall Tryz.prog 109 (List.toArray [bkV sf sc sh, .int .i64 t]) ⟨own, ro⟩ post := by
  refine SemCall.wf fun hwf => ?_
  refine f109_call sf sc sh t _ post ?_
  intro r1 hf1 r3 hf3
  simp only [add_mk', Nat.zero_add, Nat.add_zero]
  obtain ⟨hn, hm, htc, hth, hlc, hlh, hf, hc, hh⟩ := hs
  have fl := hb.fl
  have cl := hb.cl
  have hl := hb.hl
  obtain ⟨E3, hE3⟩ : ∃ E3 : Ent, E3 = ⟨some r3, [Value.slice none 0 0, .slice none 0 0, .slice none 0 0], 3⟩ := ⟨_, rfl⟩
  have hE3' : (⟨some r3, [Value.slice none 0 0, .slice none 0 0, .slice none 0 0], List.length [Value.slice none 0 0, .slice none 0 0, .slice none 0 0]⟩ : Ent) = E3 := by rw [hE3]; rfl
  have hE1' : (⟨some r1, [Value.slice sf.a sf.len sf.cap, .slice sc.a sc.len sc.cap, .slice sh.a sh.len sh.cap], List.length [Value.slice sf.a sf.len sf.cap, .slice sc.a sc.len sc.cap, .slice sh.a sh.len sh.cap]⟩ : Ent) = bkE r1 sf sc sh := rfl
  have w1 := Wf.add (e := bkE r1 sf sc sh) hwf hf1 rfl
  rw [hE1'] at hf3
  have w3 := Wf.add (e := E3) w1 hf3 (by rw [hE3]; rfl)
  have hc2 : own ++ [bkE r1 sf sc sh] ++ [E3] = own ++ [bkE r1 sf sc sh, E3] := by simp
  rw [hc2] at w3
  rw [hE1', hE3', hc2]
  have hup : ∀ {own}, BkRd ⟨own, ro⟩ sf sc sh b := fun {X} => hb.mono (by simp) (fun _ _ h => h)
  have hE : ∀ {X : List Ent}, bkE r1 sf sc sh ∈ own ++ bkE r1 sf sc sh :: X := fun {X} => by simp
  refine ⟨fun s h => ∃ ef, h = ⟨own ++ [bkE r1 sf sc sh, E3, ef], ro⟩ ∧ Wf h ∧ OwnsSl 1 s ef (ints (badd b b.free t)) ∧ bends b b.free t = true,
    ⟨fun n s x h => ∃ (k : Nat) (ef : Ent), x = (k : Int) ∧ k ≤ b.free.length ∧ n = b.free.length - k ∧ h = ⟨own ++ [bkE r1 sf sc sh, E3, ef], ro⟩ ∧ Wf h ∧ OwnsSl 1 s ef (ints ((List.range k).map fun k => gI b.free k + g2 b.has t k)) ∧ ∀ j, j < k → g2 b.claim t j - g2 b.has t j ≤ gI b.free j,
      ⟨_, ⟨own ++ [bkE r1 sf sc sh, E3, ⟨none, [], 0⟩], ro⟩, by simpa using Gh.phantom (own ++ [bkE r1 sf sc sh, E3]) [] ro 0, 0, _, rfl, Nat.zero_le _, rfl, rfl, by simpa using Wf.ph (A := own ++ [bkE r1 sf sc sh, E3]) (C := []) (by simpa using w3), OwnsSl.nil 1, fun j hj => by omega⟩, ?_⟩, ?_⟩
  · rintro n _ s x _ ⟨k, ef, rfl, hk', rfl, rfl, hw2, oF, hall⟩
    have lF := oF.sl_len
    rw [ints_length, List.length_map, List.length_range] at lF
    simp only [f109_L1, add_mk', Nat.zero_add, Nat.add_zero]
    refine ⟨sf, bkE_0 hE, VIf_dec (fun hi => ?_) (fun hi => gi ⟨ef, rfl, hw2, ?_, bends_iff.2 fun j hj => hall j (by omega)⟩)⟩
    rotate_left
    · have : k = b.free.length := by omega
      subst this; exact oF
    have hkf : k < b.free.length := by omega
    have h5 := hf k hkf
    have h6 := hc k hkf
    have h7 := hh k hkf
    have e1 : gI ((b.claim[((t : Nat) : Int).toNat]?).getD []) ((k : Nat) : Int).toNat = g2 b.claim t k := rfl
    have e2 : gI ((b.has[((t : Nat) : Int).toNat]?).getD []) ((k : Nat) : Int).toNat = g2 b.has t k := rfl
    refine ⟨sc, bkE_1 hE, hup.ca (by omega) (by omega) fun xc hxc hlc' => idxG hxc (by omega) (by rw [Int.toNat_natCast]; omega) ⟨sh, bkE_2 hE, hup.ha (by omega) (by omega) fun xh hxh hlh' => idxG hxh (by omega) (by rw [Int.toNat_natCast]; omega) ?_⟩⟩
    rw [e1, e2]
    refine ⟨⟨by omega, by omega⟩, sf, bkE_0 hE, idxG hup.f (by omega) (by omega) ?_⟩
    rw [Int.toNat_natCast]
    refine VIf_dec (fun hgt => ?_) (fun hle => ?_)
    · have hbf : bends b b.free t = false := by
        cases hbe : bends b b.free t with
        | false => rfl
        | true => have := bends_iff.1 hbe k hkf; omega
      refine ⟨sf, bkE_0 hE, sc, bkE_1 hE, sh, bkE_2 hE, rfl, rfl, ?_⟩
      refine bk_out (cs := [Value.slice none 0 0, .slice none 0 0, .slice none 0 0]) (own ++ [bkE r1 sf sc sh]) [ef] (by simp [hE3]) rfl ?_
      exact ⟨⟨own, ro⟩, Gh.drop (by simp), h1 hbf⟩
    refine ⟨sf, bkE_0 hE, idxG hup.f (by omega) (by omega) ⟨sh, bkE_2 hE, hup.ha (by omega) (by omega) fun xh hxh hlh' => idxG hxh (by omega) (by rw [Int.toNat_natCast]; omega) ?_⟩⟩
    rw [e2, Int.toNat_natCast]
    refine ⟨⟨by omega, by omega⟩, ?_⟩
    refine app_rowW grows_ints (vs := [.int .i64 (gI b.free k + g2 b.has t k)]) rfl ⟨rfl, trivial⟩ (own ++ [bkE r1 sf sc sh, E3]) ef [] (by simp) oF hw2 (by omega) (fun s2 ef2 oF2 lF2 hw3 => ?_)
    have hc5 : own ++ [bkE r1 sf sc sh, E3] ++ ef2 :: [] = own ++ [bkE r1 sf sc sh, E3, ef2] := by simp
    rw [hc5] at hw3 ⊢
    refine ⟨⟨by omega, by omega⟩, b.free.length - (k + 1), by omega, gi ⟨k + 1, ef2, by omega, by omega, rfl, rfl, hw3, by simpa [List.range_succ, ints, intV] using oF2, fun j hj => ?_⟩⟩
    by_cases he : j = k
    · subst he; omega
    · exact hall j (by omega)
  rintro _ s _ ⟨ef, rfl, hw2, oF, hbe⟩
  have lF := oF.sl_len
  rw [ints_length, badd_len] at lF
  obtain ⟨rh, rh1, rh2⟩ := hb.h
  have rhl : rh.length = b.has.length := by rw [← rh2]; simp
  have rhs : rh.map (fun r => Value.slice r.1.a r.1.len r.1.cap) = (rh.map Prod.fst).map svV := by rw [List.map_map]; rfl
  simp only [f109_J2, add_mk', Nat.zero_add, Nat.add_zero]
  refine ⟨sh, bkE_2 hE, app_newW grows_rows (vs := (rh.map Prod.fst).map svV) (by rw [← rhs]; exact rh1.1.mono (by simp) (fun _ _ h => h)) (allOne_svV _) hw2 (by omega) (fun s2 e2 o2 l2 hw3 => ?_)⟩
  have hl2 := o2.sl_len
  rw [List.length_map, List.length_map] at hl2
  refine ⟨by omega, by omega, by omega, by omega, ?_⟩
  intro r53 hf53
  rw [repl_ints, Int.toNat_natCast]
  obtain ⟨E53, hE53⟩ : ∃ E53 : Ent, E53 = ⟨some r53, ints (List.replicate s.len 0), s.len⟩ := ⟨_, rfl⟩
  have hE53' : (⟨some r53, ints (List.replicate s.len 0), (ints (List.replicate s.len 0)).length⟩ : Ent) = E53 := by rw [hE53]; simp
  have hw4 := hw3.add (e := E53) hf53 (by rw [hE53]; rfl)
  rw [hE53']
  have o53 : OwnsSl 1 ⟨some (Addr.mk r53 0 none), s.len, s.len⟩ E53 (ints (List.replicate b.free.length 0)) := by
    rw [hE53, ← lF]
    exact OwnsSl.at0 1 (by simp) (by omega) (by unfold maxLen; omega)
  refine wr_atM (f := svV) (v := ⟨some (Addr.mk r53 0 none), s.len, s.len⟩) (fun _ => rfl) (own ++ [bkE r1 sf sc sh, E3, ef]) e2 [E53] (by simp) o2 (by omega) (by omega) (fun e3 o3 hid => ?_)
  rw [Int.toNat_natCast] at o3
  have hw5 : Wf ⟨own ++ [bkE r1 sf sc sh, E3, ef] ++ e3 :: [E53], ro⟩ := hw4.ids (by simp [hid])
  refine ⟨sc, bkE_1 (r := r1) (sf := sf) (sh := sh) (by simp), rfl, rfl, ?_⟩
  refine bk_out (sf := s) (sc := sc) (sh := s2) (cs := [Value.slice none 0 0, .slice none 0 0, .slice none 0 0]) (own ++ [bkE r1 sf sc sh]) [ef, e3, E53] (by simp [hE3]) rfl ?_
  have hw6 : Wf ⟨own ++ [ef, e3, E53], ro⟩ := hw5.sub (by
    simp only [List.append_assoc]
    refine List.Sublist.append_left ?_ _
    exact .cons _ (.cons _ (List.Sublist.refl _)))
  obtain ⟨ro', g, mo, rd⟩ := frzE (own := own) _ ro hw6
  refine ⟨⟨own, ro'⟩, (Gh.drop ?_).trans g, h2 hbe s s2 ro' mo ⟨rd ef (by simp) _ _ oF, ?_, ?_⟩⟩
  · rw [List.append_assoc]
    refine List.Sublist.append_left ?_ _
    exact .cons _ (.cons _ (List.Sublist.refl _))
  · obtain ⟨rc, c1, c2⟩ := hb.c
    exact ⟨rc, c1.mono (by simp) mo, c2⟩
  · refine ⟨rh.set t (⟨some (Addr.mk r53 0 none), s.len, s.len⟩, List.replicate b.free.length 0), ⟨?_, fun r hr => ?_⟩, by rw [List.map_set, rh2]; rfl⟩
    · have e : (rh.set t (⟨some (Addr.mk r53 0 none), s.len, s.len⟩, List.replicate b.free.length 0)).map (fun r => Value.slice r.1.a r.1.len r.1.cap) = ((rh.map Prod.fst).set t ⟨some (Addr.mk r53 0 none), s.len, s.len⟩).map svV := by
        rw [List.map_set, List.map_set, List.map_map]; rfl
      rw [e]
      exact rd e3 (by simp) _ _ o3
    · rcases mem_set_cases hr with rfl | ⟨j, _, hj⟩
      · exact rd E53 (by simp) _ _ o53
      · exact (rh1.2 r (List.mem_of_getElem? hj)).mono (by simp) mo
def SfRes (b0 : Bk) (n : Nat) (told : List Nat) (s : SV) (ro : Addr → Option Value) : Prop :=
  (∀ r, bgo b0 n told (bfree b0 told) = some r → RdSl ⟨[], ro⟩ s (ints (r.map Int.ofNat))) ∧ (bgo b0 n told (bfree b0 told) = none → s.len < b0.claim.length)
theorem bgo_len {b : Bk} {n : Nat} {out r : List Nat} (hn : out.length + n = b.claim.length) (hd : out.Nodup) (hl : ∀ t ∈ out, t < b.claim.length) (h : bgo b n out (bfree b out) = some r) : r.length = b.claim.length := by
  obtain ⟨l, rfl, hc⟩ := bgo_out hn hd hl h
  rw [List.length_append]; exact hc.len
set_option maxHeartbeats 1600000 in
theorem ref4_safeFrom_c {b0 : Bk} (ho : BOk b0) : ∀ (n : Nat) {b : Bk} {told : List Nat} {sf sc sh st : SV} {own : List Ent} {ro : Addr → Option Value} {post : Value → H → Prop}, told.length + n = b0.claim.length → told.Nodup → (∀ t ∈ told, t < b0.claim.length) → BS b0 b told → BkRd ⟨[], ro⟩ sf sc sh b → RdSl ⟨[], ro⟩ st (ints (told.map Int.ofNat)) →
    (∀ s' ro', (∀ a v, ro a = some v → ro' a = some v) → SfRes b0 n told s' ro' → post (.slice s'.a s'.len s'.cap) ⟨own, ro'⟩) → SemCall Tryz.prog 92 (List.toArray [bkV sf sc sh, .slice st.a st.len st.cap]) ⟨own, ro⟩ post
  | n, b, told, sf, sc, sh, st, own, ro, post, hn, hnd, hlt, hS, hb, hst, hk => by
    refine f92_call sf sc sh st _ post ?_
    intro r1 _
    rw [show (⟨some r1, [Value.slice sf.a sf.len sf.cap, .slice sc.a sc.len sc.cap, .slice sh.a sh.len sh.cap], List.length [Value.slice sf.a sf.len sf.cap, .slice sc.a sc.len sc.cap, .slice sh.a sh.len sh.cap]⟩ : Ent) = bkE r1 sf sc sh from rfl]
    have cl := hb.cl
    have fl := hb.fl
    have stl := hst.len
    rw [ints_length, nats_len] at stl
    have hcl : b.claim.length = b0.claim.length := by rw [hS.c]
    have hfl : b.free.length = b0.free.length := by rw [hS.f, bfree_len]
    have hm5 := ho.m5
    have hn3 := ho.n3
    have hE : ∀ {X : List Ent}, bkE r1 sf sc sh ∈ own ++ bkE r1 sf sc sh :: X := fun {X} => by simp
    refine ⟨fun h => ∃ ro', (∀ a v, ro a = some v → ro' a = some v) ∧ h = ⟨own ++ [bkE r1 sf sc sh], ro'⟩ ∧ (n ≠ 0 → bgo b0 n told (bfree b0 told) = none),
      ⟨fun m x h => ∃ (t : Nat) (ro' : Addr → Option Value), x = (t : Int) ∧ t ≤ b0.claim.length ∧ m = b0.claim.length - t ∧ (∀ a v, ro a = some v → ro' a = some v) ∧ h = ⟨own ++ [bkE r1 sf sc sh], ro'⟩ ∧ ∀ u, u < t → u ∉ told → bends b0 (bfree b0 told) u = true → bgo b0 n told (bfree b0 told) = none,
        ⟨_, gi ⟨0, ro, rfl, Nat.zero_le _, rfl, fun _ _ h => h, rfl, fun j hj => by omega⟩⟩, ?_⟩, ?_⟩
    rotate_left
    · rintro _ _ ⟨ro', m, rfl, hno⟩
      refine ⟨⟨own, ro'⟩, Gh.drop (by simp), hk st ro' m ⟨fun r hr => ?_, fun hr => ?_⟩⟩
      · cases n with
        | zero =>
          simp only [bgo, Option.some.injEq] at hr
          subst hr
          exact hst.mono (by simp) m
        | succ n => rw [hno (by omega)] at hr; cases hr
      · cases n with
        | zero => simp [bgo] at hr
        | succ n => omega
    rintro m _ x _ ⟨t, ro1, rfl, ht, rfl, m1, rfl, hall⟩
    simp only [f92_L4, add_mk', Nat.zero_add, Nat.add_zero]
    refine join_b (h := ⟨own ++ [bkE r1 sf sc sh], ro1⟩) (decide (t < b0.claim.length ∧ told.length < b0.claim.length)) ⟨sc, bkE_1 hE, VIf_dec (fun h3 => ⟨sc, bkE_1 hE, gi ⟨rfl, ?_⟩⟩) (fun h3 => gi ⟨rfl, (decide_eq_false (by omega)).symm⟩)⟩ ?_
    · exact decide_eq_decide.2 ⟨fun h => by omega, fun h => by omega⟩
    simp only [f92_J3]
    refine VIf_dec (fun hc => ?_) (fun hc => gi ⟨ro1, m1, rfl, fun hn0 => ?_⟩)
    rotate_left
    · -- none was found
      obtain ⟨n', rfl⟩ : ∃ n', n = n' + 1 := ⟨n - 1, by omega⟩
      cases hx : bgo b0 (n' + 1) told (bfree b0 told) with
      | none => rfl
      | some r =>
        exfalso
        have hx2 := hx
        rw [bgo] at hx2
        cases hb2 : bnext b0 (bfree b0 told) told with
        | none => rw [hb2] at hx2; cases hx2
        | some u =>
          obtain ⟨g1, g2, g3, _⟩ := bnext_some hb2
          rw [hall u (by omega) g2 g3] at hx
          cases hx
    obtain ⟨htm, htl⟩ := hc
    obtain ⟨n', rfl⟩ : ∃ n', n = n' + 1 := ⟨n - 1, by omega⟩
    -- what is left to do at this t
    have next : ∀ {ro2 : Addr → Option Value}, (∀ a v, ro a = some v → ro2 a = some v) → (t ∉ told → bends b0 (bfree b0 told) t = true → bgo b0 (n' + 1) told (bfree b0 told) = none) →
        In64 ((t : Int) + 1) ∧ ∃ m6, m6 < b0.claim.length - t ∧ ∃ h90, Gh ⟨own ++ [bkE r1 sf sc sh], ro2⟩ h90 ∧ ∃ (t2 : Nat) (ro' : Addr → Option Value), (t : Int) + 1 = (t2 : Int) ∧ t2 ≤ b0.claim.length ∧ m6 = b0.claim.length - t2 ∧ (∀ a v, ro a = some v → ro' a = some v) ∧ h90 = ⟨own ++ [bkE r1 sf sc sh], ro'⟩ ∧ ∀ u, u < t2 → u ∉ told → bends b0 (bfree b0 told) u = true → bgo b0 (n' + 1) told (bfree b0 told) = none := by
      intro ro2 m2 hno
      refine ⟨⟨by omega, by omega⟩, b0.claim.length - (t + 1), by omega, gi ⟨t + 1, ro2, by omega, by omega, rfl, m2, rfl, fun u hu h1 h2 => ?_⟩⟩
      by_cases he : u = t
      · subst he; exact hno h1 h2
      · exact hall u (by omega) h1 h2
    refine ⟨fun h => ∃ ro2, (∀ a v, ro a = some v → ro2 a = some v) ∧ h = ⟨own ++ [bkE r1 sf sc sh], ro2⟩ ∧ (t ∉ told → bends b0 (bfree b0 told) t = true → bgo b0 (n' + 1) told (bfree b0 told) = none), ?_, ?_⟩
    rotate_left
    · rintro _ _ ⟨ro2, m2, rfl, hno⟩
      exact next m2 hno
    clear next
    -- is it out already
    refine ⟨fun x h => h = ⟨own ++ [bkE r1 sf sc sh], ro1⟩ ∧ x = decide (t ∈ told), ⟨fun m x y h => ∃ j : Nat, y = (j : Int) ∧ j ≤ told.length ∧ m = told.length - j ∧ h = ⟨own ++ [bkE r1 sf sc sh], ro1⟩ ∧ x = decide (t ∈ told.take j), ⟨_, gi ⟨0, rfl, Nat.zero_le _, rfl, rfl, by simp⟩⟩, ?_⟩, ?_⟩
    · rintro m _ x y _ ⟨j, rfl, hj, rfl, rfl, rfl⟩
      simp only [f92_L1]
      refine VIf_dec (fun hi => ?_) (fun hi => gi ⟨rfl, ?_⟩)
      rotate_left
      · rw [List.take_of_length_le (by omega)]
      have hjt : j < told.length := by omega
      have htk : told.take (j + 1) = told.take j ++ [told[j]] := by rw [List.take_add_one, List.getElem?_eq_getElem hjt]; rfl
      refine join_b (h := ⟨own ++ [bkE r1 sf sc sh], ro1⟩) (decide (t ∈ told.take (j + 1))) (VIf_dec (fun h3 => gi ⟨rfl, (decide_eq_true (by rw [htk]; exact List.mem_append_left _ h3)).symm⟩) (fun h3 => ?_)) ⟨⟨by omega, by omega⟩, told.length - (j + 1), by omega, gi ⟨j + 1, by omega, by omega, rfl, rfl, rfl⟩⟩
      have hst1 : RdSl ⟨own ++ [bkE r1 sf sc sh], ro1⟩ st (ints (told.map Int.ofNat)) := hst.mono (by simp) m1
      refine idxG hst1 (by omega) (by rw [nats_len]; omega) (gi ⟨rfl, ?_⟩)
      rw [Int.toNat_natCast, show gI (told.map Int.ofNat) j = (told[j] : Int) from gI_at2 (by rw [List.getElem?_map, List.getElem?_eq_getElem hjt]; rfl), show ((told[j] : Int) == (t : Int)) = decide (told[j] = t) from by
        by_cases h : told[j] = t
        · simp [h]
        · have h2 : ¬ ((told[j] : Nat) : Int) = (t : Int) := by omega
          simp [h, h2]]
      exact decide_eq_decide.2 (by rw [htk]; simp only [List.mem_append, List.mem_singleton, h3, false_or]; exact ⟨fun h => h.symm, fun h => h.symm⟩)
    rintro _ x _ ⟨rfl, rfl⟩
    simp only [f92_J2, add_mk', Nat.zero_add, Nat.add_zero]
    refine VIf_dec (fun h3 => gi ⟨ro1, m1, rfl, fun h => absurd h3 h⟩) (fun hto => ?_)
    have hSh : Shp b t := by
      refine ⟨by omega, by have := hS.hl; omega, by omega, by have := hS.hl; omega, ?_, ?_, fun k hk => ?_, fun k hk => ?_, fun k hk => ?_⟩
      · rw [hS.c, hfl]; exact (ho.cn t htm).1
      · rw [hfl]; exact hS.hr t htm
      · rw [hS.f]
        have := bfree_b ho hnd hlt (k := k) (by omega)
        omega
      · rw [hS.c]; exact (ho.c t k htm (by omega)).1
      · rw [hS.hg t k htm (by omega) hto]
        have := ho.c t k htm (by omega)
        omega
    have hbe := hS.ends htm hto
    refine ⟨sf, bkE_0 hE, sc, bkE_1 hE, sh, bkE_2 hE, ref4_ended_c (hb.mono (by simp) m1) hSh (fun hf => ⟨sf, sc, sh, false, rfl, ?_⟩) (fun hT sf2 sh2 ro2 m2 hb2 => ⟨sf2, sc, sh2, true, rfl, ?_⟩)⟩
    · intro r47 _
      refine ⟨rfl, rfl, ?_⟩
      refine wro _ ⟨some r47, [Value.slice none 0 0, .slice none 0 0, .slice none 0 0], 3⟩ [] ⟨rfl, rfl, rfl, trivial⟩ rfl rfl (by simp) ?_
      refine VIf_b (nomatch ·) (fun _ => ⟨⟨own ++ [bkE r1 sf sc sh], ro1⟩, Gh.drop (by simp), ro1, m1, rfl, fun _ h => ?_⟩)
      rw [← hbe, hf] at h; cases h
    rw [hbe] at hT
    intro r47 _
    refine ⟨rfl, rfl, ?_⟩
    refine wro _ ⟨some r47, [Value.slice none 0 0, .slice none 0 0, .slice none 0 0], 3⟩ [] ⟨rfl, rfl, rfl, trivial⟩ rfl rfl (by simp) ?_
    rw [show (⟨some r47, spl [Value.slice none 0 0, .slice none 0 0, .slice none 0 0] 0 [.slice sf2.a sf2.len sf2.cap, .slice sc.a sc.len sc.cap, .slice sh2.a sh2.len sh2.cap], 3⟩ : Ent) = bkE r47 sf2 sc sh2 from rfl]
    refine VIf_b (fun _ => ?_) (nomatch ·)
    have mm : ∀ a v, ro a = some v → ro2 a = some v := fun a v h => m2 a v (m1 a v h)
    have hst2 : ∀ {X}, RdSl ⟨X, ro2⟩ st (ints (told.map Int.ofNat)) := fun {X} => hst.mono (by simp) mm
    refine app_new hst2 (by omega) (fun s50 e50 o50 l50 _ => ?_)
    have hm47 : bkE r47 sf2 sc sh2 ∈ own ++ [bkE r1 sf sc sh] ++ bkE r47 sf2 sc sh2 :: [] ++ [e50] := by simp
    have hnd2 : (told ++ [t]).Nodup := List.nodup_append.2 ⟨hnd, by simp, by simp; exact fun a ha e => hto (e ▸ ha)⟩
    have hlt2 : ∀ u ∈ told ++ [t], u < b0.claim.length := fun u hu => by
      rcases List.mem_append.1 hu with hu | hu
      · exact hlt u hu
      · simp only [List.mem_singleton] at hu; omega
    have call : ∀ {X : List Ent} {s59 : SV} {e59 : Ent}, OwnsSl 1 s59 e59 (ints (told.map Int.ofNat) ++ [.int .i64 (t : Int)]) →
        SemCall Tryz.prog 92 (List.toArray [.agg (List.toArray [.slice sf2.a sf2.len sf2.cap, .slice sc.a sc.len sc.cap, .slice sh2.a sh2.len sh2.cap]), .slice s59.a s59.len s59.cap]) ⟨own ++ [bkE r1 sf sc sh] ++ bkE r47 sf2 sc sh2 :: [] ++ e59 :: X, ro2⟩ fun v60 h61 =>
          ∃ x62 : SV, v60 = .slice x62.a x62.len x62.cap ∧ ∃ h63, Gh h61 h63 ∧ ∃ ro4, (∀ a v, ro a = some v → ro4 a = some v) ∧ h63 = ⟨own ++ [bkE r1 sf sc sh], ro4⟩ ∧ SfRes b0 n' (told ++ [t]) x62 ro4 := by
      intro X s59 e59 o59
      refine SemCall.frz (own ++ [bkE r1 sf sc sh] ++ bkE r47 sf2 sc sh2 :: []) e59 X rfl o59 (fun ro3 m3 r3 => ?_)
      have r3' : RdSl ⟨[], ro3⟩ s59 (ints ((told ++ [t]).map Int.ofNat)) := by
        have : ints (told.map Int.ofNat) ++ [.int .i64 (t : Int)] = ints ((told ++ [t]).map Int.ofNat) := by simp [ints, intV]
        rw [this] at r3
        exact r3.sl
      refine ref4_safeFrom_c ho n' (by simp; omega) hnd2 hlt2 (hS.go htm hto) (hb2.mono (by simp) m3) r3' (fun s' ro4 m4 hres => ⟨s', rfl, ⟨own ++ [bkE r1 sf sc sh], ro4⟩, Gh.drop (by simp), ro4, fun a v h => m4 a v (m3 a v (mm a v h)), rfl, hres⟩)
    have l50' := o50.sl_len
    rw [ints_length, nats_len] at l50'
    refine ⟨fun s h => ∃ ro4, (∀ a v, ro a = some v → ro4 a = some v) ∧ h = ⟨own ++ [bkE r1 sf sc sh], ro4⟩ ∧ SfRes b0 n' (told ++ [t]) s ro4, ⟨?_, ?_⟩, ?_⟩
    · refine ⟨sf2, bkE_0 hm47, sc, bkE_1 hm47, sh2, bkE_2 hm47, ?_⟩
      exact app_row grows_ints (vs := [.int .i64 (t : Int)]) rfl ⟨rfl, trivial⟩ (own ++ [bkE r1 sf sc sh] ++ bkE r47 sf2 sc sh2 :: []) e50 [] (by simp) o50 (by omega) (fun s59 e59 o59 _ => call o59)
    · intro r64 _
      have hm64 : bkE r47 sf2 sc sh2 ∈ own ++ [bkE r1 sf sc sh] ++ bkE r47 sf2 sc sh2 :: [] ++ [e50] ++ [⟨some r64, [.int .i64 (t : Int)], 1⟩] := by simp
      refine ⟨?_, ?_⟩
      · refine ⟨sf2, bkE_0 hm64, sc, bkE_1 hm64, sh2, bkE_2 hm64, ?_⟩
        exact app_row2 grows_ints (vs := [.int .i64 (t : Int)]) (c := 1) rfl ⟨rfl, trivial⟩ (own ++ [bkE r1 sf sc sh] ++ bkE r47 sf2 sc sh2 :: []) e50 [] (by simp) (by simp) o50 (by omega) (fun s59 e59 o59 _ => call o59)
      · refine app_row2 grows_ints (vs := [.int .i64 (t : Int)]) (c := 1) rfl ⟨rfl, trivial⟩ (own ++ [bkE r1 sf sc sh] ++ bkE r47 sf2 sc sh2 :: []) e50 [] (by simp) (by simp) o50 (by omega) (fun s59 e59 o59 _ => ?_)
        have hm65 : bkE r47 sf2 sc sh2 ∈ own ++ [bkE r1 sf sc sh] ++ bkE r47 sf2 sc sh2 :: [] ++ e59 :: [] := by simp
        exact ⟨sf2, bkE_0 hm65, sc, bkE_1 hm65, sh2, bkE_2 hm65, call o59⟩
    rintro _ s _ ⟨ro4, m4, rfl, hres⟩
    refine ⟨sc, bkE_1 hE, VIf_eq (fun he => ?_) (fun he => gi ⟨ro4, m4, rfl, fun _ _ => ?_⟩)⟩
    · -- found
      cases hx : bgo b0 n' (told ++ [t]) (bfree b0 (told ++ [t])) with
      | none => have := hres.2 hx; omega
      | some r =>
        have hrs := hres.1 r hx
        obtain ⟨l, e1, hcmp⟩ := bgo_out (out := told ++ [t]) (by simp; omega) hnd2 hlt2 hx
        -- the whole search finds the same
        have htot : bgo b0 (n' + 1) told (bfree b0 told) = some r := by
          obtain ⟨r2, hr2⟩ := bgo_cmp ho hn (hcmp.cons hT)
          have hr3 := hr2
          rw [bgo] at hr3
          cases hb3 : bnext b0 (bfree b0 told) told with
          | none => rw [hb3] at hr3; cases hr3
          | some u =>
            obtain ⟨g1, g2, g3, g4⟩ := bnext_some hb3
            have : u = t := by
              rcases Nat.lt_trichotomy u t with h | h | h
              · rw [hall u h g2 g3] at hr2; cases hr2
              · exact h
              · have := g4 t h hto
                rw [hT] at this; cases this
            subst this
            rw [bgo, hb3]
            dsimp only
            rw [← bfree_app]; exact hx
        refine ⟨⟨own, ro4⟩, Gh.drop (by simp), hk s ro4 m4 ⟨fun r' hr' => ?_, fun hr' => ?_⟩⟩
        · rw [htot] at hr'; cases hr'; exact hrs
        · rw [htot] at hr'; cases hr'
    · cases hx : bgo b0 (n' + 1) told (bfree b0 told) with
      | none => rfl
      | some r =>
        exfalso
        cases hy : bgo b0 n' (told ++ [t]) (bfree b0 (told ++ [t])) with
        | some r2 =>
          have h1 := (hres.1 r2 hy).len
          have h2 := bgo_len (out := told ++ [t]) (by simp; omega) hnd2 hlt2 hy
          rw [ints_length, nats_len] at h1
          omega
        | none =>
          have hx2 := hx
          rw [bgo] at hx2
          cases hb3 : bnext b0 (bfree b0 told) told with
          | none => rw [hb3] at hx2; cases hx2
          | some u =>
            obtain ⟨g1, g2, g3, g4⟩ := bnext_some hb3
            rw [hb3] at hx2
            dsimp only at hx2
            rw [← bfree_app] at hx2
            rcases Nat.lt_trichotomy u t with h | h | h
            · rw [hall u h g2 g3] at hx; cases hx
            · subst h; rw [hy] at hx2; cases hx2
            · have := g4 t h hto
              rw [hT] at this; cases this
theorem ref4_safe_c {b : Bk} {sf sc sh : SV} {own : List Ent} {ro : Addr → Option Value} {post : Value → H → Prop} (hb : BkRd ⟨[], ro⟩ sf sc sh b) (ho : BOk b)
    (h1 : brow b = none → ∀ ro', (∀ a v, ro a = some v → ro' a = some v) → post (.tuple (List.toArray [.slice none 0 0, .bool false])) ⟨own, ro'⟩)
    (h2 : ∀ (r : List Nat) (s' : SV) ro', (∀ a v, ro a = some v → ro' a = some v) → brow b = some r → RdSl ⟨[], ro'⟩ s' (ints (r.map Int.ofNat)) → post (.tuple (List.toArray [.slice s'.a s'.len s'.cap, .bool true])) ⟨own, ro'⟩) :
    SemCall Tryz.prog 59 (List.toArray [bkV sf sc sh]) ⟨own, ro⟩ post := by
  refine f59_call sf sc sh _ post ?_
  intro r1 _
  simp only [add_mk', Nat.zero_add, Nat.add_zero]
  have hE : bkE r1 sf sc sh ∈ own ++ [bkE r1 sf sc sh] := by simp
  have cl := hb.cl
  refine ⟨sf, bkE_0 hE, sc, bkE_1 hE, sh, bkE_2 hE, ref4_safeFrom_c ho b.claim.length (st := nilV) (told := []) (by simp) (by simp) (by simp) (BS.start ho) hb ⟨rfl, fun _ => rfl, fun b hb => nomatch hb⟩ (fun s' ro' m hres => ⟨s', rfl, sc, bkE_1 hE, VIf_dec (fun hlt => ?_) (fun hge => ?_)⟩)⟩
  · cases hx : brow b with
    | none => exact ⟨⟨own, ro'⟩, Gh.drop (by simp), h1 hx ro' m⟩
    | some r =>
      have h3 := (hres.1 r hx).len
      have h4 := bgo_len (out := []) (n := b.claim.length) (by simp) (by simp) (by simp) hx
      rw [ints_length, nats_len] at h3
      omega
  · cases hx : brow b with
    | none => have := hres.2 hx; omega
    | some r => exact ⟨⟨own, ro'⟩, Gh.drop (by simp), h2 r s' ro' m hx (hres.1 r hx)⟩
end Go.Proofs.YtnppmcgmmdcpiaaGreatDoor
namespace Go.Proofs.YtnppmcgmmdcpiaaGreatDoor
open Go.Eng
set_option maxRecDepth 20000
/-! ### the document's bank: lent, and given back -/
set_option maxHeartbeats 1600000 in
theorem ref4_lend_c {b : Bk} {sf sc sh sw : SV} {want : List Int} {t : Int} (back : Bool) {own : List Ent} {ro : Addr → Option Value} {post : Value → H → Prop} (hb : BkRd ⟨[], ro⟩ sf sc sh b) (hw : RdSl ⟨[], ro⟩ sw (ints want))
    (h0 : (if back = true then bback b t want else bask b t want) ≠ 0 → ∀ ro', (∀ a v, ro a = some v → ro' a = some v) → post (.tuple (List.toArray [bkV nilV nilV nilV, .int .i64 (if back = true then bback b t want else bask b t want)])) ⟨own, ro'⟩)
    (h1 : (if back = true then bback b t want else bask b t want) = 0 → BAsk b t want → ∀ sf' sc' sh' ro', (∀ a v, ro a = some v → ro' a = some v) → BkRd ⟨[], ro'⟩ sf' sc' sh' (bmv b t.toNat want (if back = true then -1 else 1)) → post (.tuple (List.toArray [bkV sf' sc' sh', .int .i64 0])) ⟨own, ro'⟩) :
    SemCall Tryz.prog 93 (List.toArray [bkV sf sc sh, .int .i64 t, .slice sw.a sw.len sw.cap, .bool back]) ⟨own, ro⟩ post := by
  refine f93_call sf sc sh t sw back _ post ?_
  intro r1 _ r3 _
  simp only [add_mk', Nat.zero_add, Nat.add_zero]
  obtain ⟨E3, hE3⟩ : ∃ E3 : Ent, E3 = ⟨some r3, [Value.slice none 0 0, .slice none 0 0, .slice none 0 0], 3⟩ := ⟨_, rfl⟩
  have hE3' : (⟨some r3, [Value.slice none 0 0, .slice none 0 0, .slice none 0 0], List.length [Value.slice none 0 0, .slice none 0 0, .slice none 0 0]⟩ : Ent) = E3 := by rw [hE3]; rfl
  have hE1' : (⟨some r1, [Value.slice sf.a sf.len sf.cap, .slice sc.a sc.len sc.cap, .slice sh.a sh.len sh.cap], List.length [Value.slice sf.a sf.len sf.cap, .slice sc.a sc.len sc.cap, .slice sh.a sh.len sh.cap]⟩ : Ent) = bkE r1 sf sc sh := rfl
  have hc2 : own ++ [bkE r1 sf sc sh] ++ [E3] = own ++ [bkE r1 sf sc sh, E3] := by simp
  rw [hE1', hE3', hc2]
  have hup : ∀ {X}, BkRd ⟨X, ro⟩ sf sc sh b := fun {X} => hb.mono (by simp) (fun _ _ h => h)
  have hwu : ∀ {X}, RdSl ⟨X, ro⟩ sw (ints want) := fun {X} => hw.mono (by simp) (fun _ _ h => h)
  have hE : bkE r1 sf sc sh ∈ own ++ [bkE r1 sf sc sh, E3] := by simp
  have swl := hw.len
  rw [ints_length] at swl
  have cl := hb.cl
  have fl := hb.fl
  have hhl' := hb.hl
  obtain ⟨e, he⟩ : ∃ e, e = (if back = true then bback b t want else bask b t want) := ⟨_, rfl⟩
  rw [← he] at h0 h1
  have bad : ∀ {ro' : Addr → Option Value} {X : List Ent} {v : Int}, e ≠ 0 → (∀ a v, ro a = some v → ro' a = some v) → v = e →
      H.wr ⟨own ++ [bkE r1 sf sc sh, E3] ++ X, ro'⟩ (Addr.mk r3 0 none) [.slice none 0 0, .slice none 0 0, .slice none 0 0] fun h => ∃ x : SV, H.rd h (Addr.mk r3 0 none) (.slice x.a x.len x.cap) ∧ ∃ y : SV, H.rd h (Addr.mk r3 1 none) (.slice y.a y.len y.cap) ∧ ∃ z : SV, H.rd h (Addr.mk r3 2 none) (.slice z.a z.len z.cap) ∧ VRet h (.tuple (List.toArray [.agg (List.toArray [.slice x.a x.len x.cap, .slice y.a y.len y.cap, .slice z.a z.len z.cap]), .int .i64 v])) post := by
    intro ro' X v hne hm hv
    refine bk_out (sf := nilV) (sc := nilV) (sh := nilV) (cs := [Value.slice none 0 0, .slice none 0 0, .slice none 0 0]) (own ++ [bkE r1 sf sc sh]) X (by simp [hE3]) rfl ?_
    rw [hv]
    exact ⟨⟨own, ro'⟩, Gh.drop (by simp), h0 hne ro' hm⟩
  have bad0 := fun {v : Int} (hne : e ≠ 0) (hv : v = e) => by
    have := bad (ro' := ro) (X := []) hne (fun _ _ h => h) hv
    rwa [List.append_nil] at this
  refine ⟨sf, bkE_0 hE, sc, bkE_1 hE, sh, bkE_2 hE, ref4_bank_c hup ⟨_, rfl, ?_⟩⟩
  refine join_b (h := ⟨own ++ [bkE r1 sf sc sh, E3], ro⟩) (decide (bcheck b = 0 ∧ ¬ (0 ≤ t ∧ t ≤ (b.claim.length : Int) - 1))) (VIf_eq (fun hz => ⟨sc, bkE_1 hE, ?_⟩) (fun hz => gi ⟨rfl, (decide_eq_false (fun h => hz h.1)).symm⟩)) ?_
  · have := (bcheck_zero.1 hz).m5
    refine ⟨⟨by omega, by omega⟩, ref4_in_i (fun hc => ⟨_, rfl, gi ⟨rfl, (decide_eq_true ⟨hz, by omega⟩).symm⟩⟩) (fun c0 c1 => ⟨_, rfl, gi ⟨rfl, (decide_eq_false (by omega)).symm⟩⟩)⟩
  obtain ⟨e1, he1⟩ : ∃ e1 : Int, e1 = if bcheck b ≠ 0 then bcheck b else if ¬ (0 ≤ t ∧ t ≤ (b.claim.length : Int) - 1) then 1 else 0 := ⟨_, rfl⟩
  refine ⟨fun x h => h = ⟨own ++ [bkE r1 sf sc sh, E3], ro⟩ ∧ x = e1, VIf_dec (fun hc => gi ⟨rfl, ?_⟩) (fun hc => gi ⟨rfl, ?_⟩), ?_⟩
  · rw [he1, if_neg (by omega), if_pos hc.2]
  · rw [he1]
    by_cases hz : bcheck b = 0
    · rw [if_neg (by omega), if_neg (fun h => hc ⟨hz, h⟩)]; exact hz
    · rw [if_pos hz]
  rintro _ x _ ⟨rfl, rfl⟩
  simp only [add_mk', Nat.zero_add, Nat.add_zero]
  refine join_b (h := ⟨own ++ [bkE r1 sf sc sh, E3], ro⟩) (decide (x = 0 ∧ want.length ≠ b.free.length)) (VIf_eq (fun hz => ⟨sf, bkE_0 hE, gi ⟨rfl, ?_⟩⟩) (fun hz => gi ⟨rfl, (decide_eq_false (fun h => hz h.1)).symm⟩)) ?_
  · rw [bne_dec]; exact decide_eq_decide.2 ⟨fun h => ⟨hz, by omega⟩, fun h => by omega⟩
  obtain ⟨e2, he2⟩ : ∃ e2 : Int, e2 = if x ≠ 0 then x else if want.length ≠ b.free.length then 3 else 0 := ⟨_, rfl⟩
  refine ⟨fun y h => h = ⟨own ++ [bkE r1 sf sc sh, E3], ro⟩ ∧ y = e2, VIf_dec (fun hc => gi ⟨rfl, ?_⟩) (fun hc => gi ⟨rfl, ?_⟩), ?_⟩
  · rw [he2, if_neg (by omega), if_pos hc.2]
  · rw [he2]
    by_cases hz : x = 0
    · rw [if_neg (by omega), if_neg (fun h => hc ⟨hz, h⟩)]; exact hz
    · rw [if_pos hz]
  rintro _ y _ ⟨rfl, rfl⟩
  have hbk : basked b t want = if y ≠ 0 then y else if ∃ k, k < want.length ∧ ¬ (0 ≤ gI want k ∧ gI want k ≤ 1000) then 1 else 0 := by
    rw [he2, he1]
    unfold basked
    by_cases c1 : bcheck b ≠ 0
    · rw [if_pos c1, if_pos c1, if_pos c1, if_pos c1]
    · rw [if_neg c1, if_neg c1]
      by_cases c2 : ¬ (0 ≤ t ∧ t ≤ (b.claim.length : Int) - 1)
      · rw [if_pos c2, if_pos c2]; rfl
      · rw [if_neg c2, if_neg c2]
        by_cases c3 : want.length ≠ b.free.length
        · rw [if_pos c3, if_pos c3]; rfl
        · rw [if_neg c3, if_neg c3]; rfl
  have hlen : y = 0 → b.free.length ≤ 3 ∧ want.length = b.free.length := fun hy => by
    have hx0 : x = 0 := Classical.byContradiction fun hx => by rw [he2, if_pos hx] at hy; exact hx hy
    have h9 : want.length = b.free.length := Classical.byContradiction fun h => by rw [he2, if_neg (by omega), if_pos h] at hy; cases hy
    have h8 : bcheck b = 0 := Classical.byContradiction fun h => by rw [he1, if_pos h] at hx0; exact h hx0
    exact ⟨(bcheck_zero.1 h8).n3, h9⟩
  clear he1 he2
  refine ⟨fun z h => h = ⟨own ++ [bkE r1 sf sc sh, E3], ro⟩ ∧ z = basked b t want,
    ⟨fun n z i h => ∃ k : Nat, i = (k : Int) ∧ k ≤ want.length ∧ n = want.length - k ∧ h = ⟨own ++ [bkE r1 sf sc sh, E3], ro⟩ ∧ ((y ≠ 0 ∧ z = y) ∨ (y = 0 ∧ z = 1 ∧ ∃ i, i < want.length ∧ ¬ (0 ≤ gI want i ∧ gI want i ≤ 1000)) ∨ (y = 0 ∧ z = 0 ∧ ∀ i, i < k → (0 ≤ gI want i ∧ gI want i ≤ 1000))),
      ⟨_, gi ⟨0, rfl, Nat.zero_le _, rfl, rfl, by
        by_cases hy : y = 0
        · exact .inr (.inr ⟨hy, hy, fun i hi => by omega⟩)
        · exact .inl ⟨hy, rfl⟩⟩⟩, ?_⟩, ?_⟩
  · rintro n _ z i _ ⟨k, rfl, hk', rfl, rfl, hz⟩
    simp only [f93_L2, f93_J1]
    refine join_b (h := ⟨own ++ [bkE r1 sf sc sh, E3], ro⟩) (decide (k < want.length ∧ z = 0)) (VIf_dec (fun hk2 => gi ⟨rfl, ?_⟩) (fun hk2 => gi ⟨rfl, (decide_eq_false (by omega)).symm⟩)) (VIf_dec (fun hc => ?_) (fun hc => gi ⟨rfl, ?_⟩))
    · show decide (z = 0) = _
      exact decide_eq_decide.2 ⟨fun h => ⟨by omega, h⟩, fun h => h.2⟩
    · have hz : y = 0 ∧ ∀ i, i < k → (0 ≤ gI want i ∧ gI want i ≤ 1000) := by
        rcases hz with ⟨h1, h2⟩ | ⟨_, h2, _⟩ | ⟨h1, _, h3⟩
        · omega
        · omega
        · exact ⟨h1, h3⟩
      have hln := hlen hz.1
      refine idxG hwu (by omega) (by omega) (ref4_in_i (fun hc2 => ⟨_, rfl, VIf_nb (fun _ => ⟨⟨by omega, by omega⟩, want.length - (k + 1), by omega, gi ⟨k + 1, by omega, by omega, rfl, rfl, .inr (.inl ⟨hz.1, (by trivial), k, hc.1, hc2⟩)⟩⟩) (nomatch ·)⟩) (fun c0 c1 => ⟨_, rfl, VIf_nb (nomatch ·) (fun _ => ⟨⟨by omega, by omega⟩, want.length - (k + 1), by omega, gi ⟨k + 1, by omega, by omega, rfl, rfl, .inr (.inr ⟨hz.1, hc.2, fun i hi => ?_⟩)⟩⟩)⟩))
      by_cases hik : i = k
      · subst hik; exact ⟨c0, c1⟩
      · exact hz.2 i (by omega)
    · rw [hbk]
      rcases hz with ⟨h1, h2⟩ | ⟨h1, h2, h3⟩ | ⟨h1, h2, h3⟩
      · rw [if_pos h1, h2]
      · rw [if_neg (by omega), if_pos h3, h2]
      · rw [if_neg (by omega), if_neg (by rintro ⟨i, hi, hni⟩; exact hni (h3 i (by omega))), h2]
  clear hbk hlen
  rintro _ z _ ⟨rfl, rfl⟩
  simp only [f93_J8, add_mk', Nat.zero_add, Nat.add_zero]
  refine VIf_ne (fun hne => ⟨rfl, rfl, bad0 ?_ ?_⟩) (fun hz => ?_)
  · rw [he]; cases back
    · rw [if_neg (by simp), bask, if_pos hne]; exact hne
    · rw [if_pos rfl, bback, if_pos hne]; exact hne
  · rw [he]; cases back
    · rw [if_neg (by simp), bask, if_pos hne]
    · rw [if_pos rfl, bback, if_pos hne]
  have hA := basked_zero hz
  obtain ⟨ho, t0, t1, hl, hwr⟩ := hA
  have hA : BAsk b t want := ⟨ho, t0, t1, hl, hwr⟩
  have hm5 := ho.m5
  have hn3 := ho.n3
  have hhl := ho.hl
  obtain ⟨cn1, cn2⟩ := ho.cn t.toNat (by omega)
  refine ⟨fun h => h = ⟨own ++ [bkE r1 sf sc sh, E3], ro⟩ ∧ ∀ j, j < want.length → (back = true → gI want j ≤ g2 b.has t.toNat j) ∧ (back = false → g2 b.has t.toNat j + gI want j ≤ g2 b.claim t.toNat j),
    ⟨fun n i h => ∃ k : Nat, i = (k : Int) ∧ k ≤ want.length ∧ n = want.length - k ∧ h = ⟨own ++ [bkE r1 sf sc sh, E3], ro⟩ ∧ ∀ j, j < k → (back = true → gI want j ≤ g2 b.has t.toNat j) ∧ (back = false → g2 b.has t.toNat j + gI want j ≤ g2 b.claim t.toNat j), ⟨_, gi ⟨0, rfl, Nat.zero_le _, rfl, rfl, fun j hj => by omega⟩⟩, ?_⟩, ?_⟩
  · rintro n _ i _ ⟨k, rfl, hk', rfl, rfl, hall⟩
    simp only [f93_L4, f93_J3, add_mk', Nat.zero_add, Nat.add_zero]
    refine VIf_dec (fun hi => ?_) (fun hi => gi ⟨rfl, fun t ht => hall t (by omega)⟩)
    have h5 := hwr k (by omega)
    have h6 := ho.c t.toNat k (by omega) (by omega)
    have e2 : gI ((b.has[t.toNat]?).getD []) ((k : Nat) : Int).toNat = g2 b.has t.toNat k := rfl
    have e1 : gI ((b.claim[t.toNat]?).getD []) ((k : Nat) : Int).toNat = g2 b.claim t.toNat k := rfl
    refine join_b (h := ⟨own ++ [bkE r1 sf sc sh, E3], ro⟩) (decide (back = true ∧ gI want k > g2 b.has t.toNat k)) (VIf_b (fun hbt => idxG hwu (by omega) (by omega) ⟨sh, bkE_2 hE, hup.ha t0 (by omega) fun xh hxh hlh => idxG hxh (by omega) (by omega) (gi ⟨rfl, ?_⟩)⟩) (fun hbf => gi ⟨rfl, (decide_eq_false (by simp [hbf])).symm⟩)) (VIf_dec (fun hc => ⟨rfl, rfl, bad0 ?_ ?_⟩) (fun hc => ?_))
    · rw [e2, Int.toNat_natCast]
      exact decide_eq_decide.2 ⟨fun h => ⟨hbt, h⟩, fun h => h.2⟩
    · rw [he, hc.1, if_pos rfl, bback, if_neg (by simpa using hz), if_pos ⟨k, by omega, hc.2⟩]; decide
    · rw [he, hc.1, if_pos rfl, bback, if_neg (by simpa using hz), if_pos ⟨k, by omega, hc.2⟩]
    refine join_b (h := ⟨own ++ [bkE r1 sf sc sh, E3], ro⟩) (decide (back = false ∧ g2 b.has t.toNat k + gI want k > g2 b.claim t.toNat k)) (VIf_nb (fun hbf => ⟨sh, bkE_2 hE, hup.ha t0 (by omega) fun xh hxh hlh => idxG hxh (by omega) (by omega) (idxG hwu (by omega) (by omega) ?_)⟩) (fun hbt => gi ⟨rfl, (decide_eq_false (by simp [hbt])).symm⟩)) (VIf_dec (fun hc2 => ⟨rfl, rfl, bad0 ?_ ?_⟩) (fun hc2 => ⟨⟨by omega, by omega⟩, want.length - (k + 1), by omega, gi ⟨k + 1, by omega, by omega, rfl, rfl, fun j hj => ?_⟩⟩))
    · rw [e2, Int.toNat_natCast]
      refine ⟨⟨by omega, by omega⟩, sc, bkE_1 hE, hup.ca t0 t1 fun xc hxc hlc => idxG hxc (by omega) (by omega) (gi ⟨rfl, ?_⟩)⟩
      rw [e1]
      exact decide_eq_decide.2 ⟨fun h => ⟨hbf, h⟩, fun h => h.2⟩
    · rw [he, hc2.1, if_neg (by simp), bask, if_neg (by simpa using hz), if_pos ⟨k, by omega, hc2.2⟩]; decide
    · rw [he, hc2.1, if_neg (by simp), bask, if_neg (by simpa using hz), if_pos ⟨k, by omega, hc2.2⟩]
    · by_cases hjk : j = k
      · subst hjk
        exact ⟨fun h => Int.not_lt.1 fun h2 => hc ⟨h, h2⟩, fun h => Int.not_lt.1 fun h2 => hc2 ⟨h, h2⟩⟩
      · exact hall j (by omega)
  rintro _ _ ⟨rfl, hall⟩
  simp only [f93_J7, f93_J6, add_mk', Nat.zero_add, Nat.add_zero]
  refine VIf_b (fun hbt => ?_) (fun hbf => ?_)
  · subst hbt
    have hcl := fun j hj => (hall j hj).1 rfl
    have n6 : ¬ ∃ k, k < want.length ∧ gI want k > g2 b.has t.toNat k := fun ⟨k, h5, h6⟩ => by have := hcl k h5; omega
    have e6 : e = 0 := by rw [he, if_pos rfl, bback, if_neg (by simpa using hz), if_neg n6]
    refine ⟨sf, bkE_0 hE, sc, bkE_1 hE, sh, bkE_2 hE, ref4_moved_c hb hw ho t0 t1 hl hwr (.inr rfl) (fun sf' sc' sh' ro' hm hb' => ⟨sf', sc', sh', rfl, rfl, rfl, ?_⟩)⟩
    refine bk_out (cs := [Value.slice none 0 0, .slice none 0 0, .slice none 0 0]) (own ++ [bkE r1 sf sc sh]) [] (by simp [hE3]) rfl ?_
    exact ⟨⟨own, ro'⟩, Gh.drop (by simp), h1 e6 hA sf' sc' sh' ro' hm hb'⟩
  subst hbf
  have hcl := fun j hj => (hall j hj).2 rfl
  have n6 : ¬ ∃ k, k < want.length ∧ g2 b.has t.toNat k + gI want k > g2 b.claim t.toNat k := fun ⟨k, h5, h6⟩ => by have := hcl k h5; omega
  refine ⟨fun h => h = ⟨own ++ [bkE r1 sf sc sh, E3], ro⟩ ∧ ∀ k, k < want.length → gI want k ≤ gI b.free k,
    ⟨fun n i h => ∃ k : Nat, i = (k : Int) ∧ k ≤ want.length ∧ n = want.length - k ∧ h = ⟨own ++ [bkE r1 sf sc sh, E3], ro⟩ ∧ ∀ j, j < k → gI want j ≤ gI b.free j, ⟨_, gi ⟨0, rfl, Nat.zero_le _, rfl, rfl, fun j hj => by omega⟩⟩, ?_⟩, ?_⟩
  · rintro n _ i _ ⟨k, rfl, hk', rfl, rfl, hall⟩
    simp only [f93_L5, add_mk', Nat.zero_add, Nat.add_zero]
    refine VIf_dec (fun hi => ?_) (fun hi => gi ⟨rfl, fun t ht => hall t (by omega)⟩)
    refine idxG hwu (by omega) (by omega) ⟨sf, bkE_0 hE, idxG hup.f (by omega) (by omega) ?_⟩
    rw [Int.toNat_natCast]
    refine VIf_dec (fun hgt => ?_) (fun hle => ⟨⟨by omega, by omega⟩, want.length - (k + 1), by omega, gi ⟨k + 1, by omega, by omega, rfl, rfl, fun j hj => ?_⟩⟩)
    · have e6 : e = 5 := by rw [he, if_neg (by simp), bask, if_neg (by simpa using hz), if_neg n6, if_pos ⟨k, by omega, hgt⟩]
      exact ⟨rfl, rfl, bad0 (by rw [e6]; decide) e6.symm⟩
    · by_cases hjk : j = k
      · subst hjk; omega
      · exact hall j (by omega)
  rintro _ _ ⟨rfl, hfr⟩
  have n5 : ¬ ∃ k, k < want.length ∧ gI want k > gI b.free k := fun ⟨k, h5, h6⟩ => by have := hfr k h5; omega
  have ho2 := bask_mv hA hcl hfr
  refine ⟨sf, bkE_0 hE, sc, bkE_1 hE, sh, bkE_2 hE, ref4_moved_c hb hw ho t0 t1 hl hwr (.inl rfl) (fun sf' sc' sh' ro' hm hb' => ⟨sf', sc', sh', rfl, ?_⟩)⟩
  intro r149 _
  refine ⟨rfl, rfl, ?_⟩
  refine bk_out (own ++ [bkE r1 sf sc sh, E3]) [] rfl rfl ?_
  refine ref4_safe_c hb' ho2 (fun hr ro2 m2 => ⟨⟨none, 0, 0⟩, false, rfl, VIf_nb (fun _ => ?_) (nomatch ·)⟩) (fun r s' ro2 m2 hr _ => ⟨s', true, rfl, VIf_nb (nomatch ·) (fun _ => ?_)⟩)
  · have e6 : e = 7 := by rw [he, if_neg (by simp), bask, if_neg (by simpa using hz), if_neg n6, if_neg n5, if_pos hr]
    exact ⟨rfl, rfl, bad (by rw [e6]; decide) (fun a v h => m2 a v (hm a v h)) e6.symm⟩
  · have e6 : e = 0 := by rw [he, if_neg (by simp), bask, if_neg (by simpa using hz), if_neg n6, if_neg n5, if_neg (by rw [hr]; exact fun h => nomatch h)]
    have hm149 : bkE r149 sf' sc' sh' ∈ own ++ [bkE r1 sf sc sh, E3] ++ [bkE r149 sf' sc' sh'] := by simp
    refine ⟨sf', bkE_0 hm149, sc', bkE_1 hm149, sh', bkE_2 hm149, rfl, rfl, ?_⟩
    refine bk_out (cs := [Value.slice none 0 0, .slice none 0 0, .slice none 0 0]) (own ++ [bkE r1 sf sc sh]) [bkE r149 sf' sc' sh'] (by simp [hE3]) rfl ?_
    exact ⟨⟨own, ro2⟩, Gh.drop (by simp), h1 e6 hA sf' sc' sh' ro2 (fun a v h => m2 a v (hm a v h)) (hb'.mono (by simp) m2)⟩
/-! #### the law -/
def nilB : Bk := ⟨[], [], []⟩
theorem nilB_rd {h : H} : BkRd h nilV nilV nilV nilB := ⟨⟨rfl, fun _ => rfl, fun b hb => nomatch hb⟩, ⟨[], ⟨⟨rfl, fun _ => rfl, fun b hb => nomatch hb⟩, by simp⟩, rfl⟩, ⟨[], ⟨⟨rfl, fun _ => rfl, fun b hb => nomatch hb⟩, by simp⟩, rfl⟩⟩
theorem nilB_sml : Sml nilB := ⟨by decide, ⟨by decide, by simp [nilB]⟩, ⟨by decide, by simp [nilB]⟩⟩
theorem bmv_sml {b : Bk} (ho : BOk b) {t : Nat} {want : List Int} {s : Int} : Sml (bmv b t want s) := by
  have h := ho.sml
  refine ⟨by rw [bmv_fl]; exact h.f, h.c, ⟨by simpa [bmv] using h.h.1, fun l hl => ?_⟩⟩
  rcases mem_set_cases hl with rfl | ⟨j, _, hj⟩
  · simpa using h.f
  · exact h.h.2 l (List.mem_of_getElem? hj)
/-- what two ways tell alike -/
theorem says_same' {x e : Int} {own : List Ent} {ro : Addr → Option Value} {post : Value → H → Prop} (hG : HasErrT ro) (he : x = e) (hK : post (.bool true) ⟨own, ro⟩) : SemCall Tryz.prog 15 (List.toArray [errV (eno 57 x), .int .i64 e]) ⟨own, ro⟩ post :=
  same_error_c hG (by subst he; simpa using hK)
theorem says_same {x e : Int} {own : List Ent} {ro : Addr → Option Value} {K : H → Prop} (hG : HasErrT ro) (he : x = e) (hK : K ⟨own, ro⟩) : SemCall Tryz.prog 15 (List.toArray [errV (eno 57 x), .int .i64 e]) ⟨own, ro⟩ fun v h => v = .bool true ∧ K h :=
  same_error_c hG (by subst he; simpa using hK)

end Go.Proofs.YtnppmcgmmdcpiaaGreatDoor
namespace Go.Proofs.YtnppmcgmmdcpiaaGreatDoor
open Go.Eng
set_option maxRecDepth 20000
/-! ### the bank: the laws -/
theorem bcheck_ne7 (b : Bk) : bcheck b ≠ 7 := by
  intro h
  unfold bcheck at h
  (repeat' split at h) <;> cases h
theorem basked_ne7 (b : Bk) (t : Int) (want : List Int) : basked b t want ≠ 7 := by
  intro h
  unfold basked at h
  split at h
  · exact bcheck_ne7 b h
  · (repeat' split at h) <;> cases h
theorem bask_seven {b : Bk} {t : Int} {want : List Int} (h : bask b t want = 7) : BAsk b t want ∧ BOk (bmv b t.toNat want 1) ∧ brow (bmv b t.toNat want 1) = none := by
  unfold bask at h
  split at h
  · exact absurd h (basked_ne7 b t want)
  rename_i h0
  have hA := basked_zero (Classical.byContradiction h0)
  split at h
  · cases h
  rename_i h1
  split at h
  · cases h
  rename_i h2
  split at h
  · rename_i h3
    exact ⟨hA, bask_mv hA (fun k hk => Classical.byContradiction fun hc => h1 ⟨k, hk, by omega⟩) (fun k hk => Classical.byContradiction fun hc => h2 ⟨k, hk, by omega⟩), h3⟩
  · cases h
theorem bask_nil {b : Bk} {t : Int} {want : List Int} (h : bask b t want = 0) : ∃ r, brow (bmv b t.toNat want 1) = some r := by
  unfold bask at h
  split at h
  · rename_i h0; exact absurd h h0
  split at h
  · cases h
  split at h
  · cases h
  split at h
  · cases h
  · rename_i h3
    exact Option.ne_none_iff_exists'.1 h3
theorem in_bank {K : Type} {enc : TypeId × Value → K} {W : World} {v : Value} {d : DataW K} {ps : List MemPlace} (hv : Value.okWide Tryz.prog W .any 0 25 v) (h : DataW.Trod enc Tryz.prog W 0 (fun _ => true) true 25 v d ps) :
    ∃ (sf sc sh : SV) (b : Bk), v = bkV sf sc sh ∧ BkRd ⟨[], W.cell?⟩ sf sc sh b := by
  obtain ⟨s, sc, sh, xs, rc, rh, rfl, h1, h2, h3⟩ := in_three (e := 3) Tryz.underlying25 ⟨rfl, rfl, rfl⟩ rfl rfl rfl rfl rfl Tryz.underlying22 Tryz.underlying3 rfl Tryz.underlying23 hv h
  exact ⟨s, sc, sh, ⟨xs, rc.map Prod.snd, rh.map Prod.snd⟩, rfl, h1, ⟨rc, h2, rfl⟩, ⟨rh, h3, rfl⟩⟩
end Go.Proofs.YtnppmcgmmdcpiaaGreatDoor
