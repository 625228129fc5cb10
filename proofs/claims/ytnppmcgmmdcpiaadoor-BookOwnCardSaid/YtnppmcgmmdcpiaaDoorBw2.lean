import Derived.Test.YtnppmcgmmdcpiaaDoorBv
namespace Go.Proofs.YtnppmcgmmdcpiaaDoor
open Go.Eng
set_option maxRecDepth 20000
/-! ### BookOwn -/
theorem rd_svs {h : H} {s : SV} {ss : List SV} (r : RdSl h s (ss.map svV)) {b : Addr} (hb : s.a = some b) {i : Nat} {x : SV} (hx : ss[i]? = some x) : H.rd h (Addr.add (Addr.add b (i * 1)) 0) (.slice x.a x.len x.cap) := by
  have := r.get hb (i := i) (v := svV x) (by rw [List.getElem?_map, hx]; rfl)
  simpa [Addr.add_zero', svV] using this
theorem svs_addr {h : H} {s : SV} {ss : List SV} (r : RdSl h s (ss.map svV)) (hp : 0 < ss.length) : ∃ b, s.a = some b := r.addr (by rw [List.length_map]; exact hp)
theorem split_at {α : Type} {L : List α} {k : Nat} {e : α} (h : L[k]? = some e) : ∃ L1 L2, L = L1 ++ e :: L2 ∧ ∀ e', L.set k e' = L1 ++ e' :: L2 := by
  obtain ⟨h5, h6⟩ := List.getElem?_eq_some_iff.1 h
  have hl : (L.take k).length = k := by simp; omega
  have e1 : L = L.take k ++ e :: L.drop (k + 1) := by rw [← h6, List.getElem_cons_drop, List.take_append_drop]
  refine ⟨L.take k, L.drop (k + 1), e1, fun e' => ?_⟩
  conv => lhs; rw [e1]
  rw [List.set_append_right _ _ (by rw [hl]; exact Nat.le_refl _), hl, Nat.sub_self]
  rfl
theorem OwPar.set2 {xs : List Ent} {ss : List SV} {ls : List (List Int)} (h : OwPar xs ss ls) {p : Nat} {s : SV} {l : List Int} {e : Ent} (hs : ss[p]? = some s) (hr : OwnsSl 1 s e (ints l)) : OwPar (xs.set p e) ss (ls.set p l) := h.set hs hr
/-- rows, each owned by its slice -/
def OwAny (A C : List Ent) (ss : List SV) (ro : Addr → Option Value) (h : H) : Prop := ∃ L ls, h = ⟨A ++ (L ++ C), ro⟩ ∧ OwPar L ss ls


set_option maxHeartbeats 400000 in
theorem own_h1 {n : Int} {r18 : Nat} {A C : List Ent} {ro : Addr → Option Value} {sF sC sH : SV} {eS : Ent} {ss : List SV} (hm : bkE r18 sF sC sH ∈ A ++ C) (heS : eS ∈ A ++ C) (oS : OwnsSl 1 sH eS (ss.map svV)) (hb : ∀ x ∈ ss, x.len ≤ 1000) {t : Nat} {st : SV} (ht : ss[t]? = some st)
    {k : Nat} (hk : k ≤ st.len) {h : H} (hh : OwAny A C ss ro h) {Q : H → Prop} (hQ : ∀ h, OwAny A C ss ro h → Q h) :
    f3_L2 n r18 (t : Int) Q (fun m i h => ∃ k : Nat, i = (k : Int) ∧ k ≤ st.len ∧ m = st.len - k ∧ OwAny A C ss ro h) (st.len - k) (k : Int) h := by
  obtain ⟨L, ls, rfl, oP⟩ := hh
  have up : ∀ {e : Ent} {L : List Ent}, e ∈ A ++ C → e ∈ A ++ (L ++ C) := fun {e L} h => by
    simp only [List.mem_append] at h ⊢
    rcases h with h | h
    · exact .inl h
    · exact .inr (.inr h)
  have htl := (List.getElem?_eq_some_iff.1 ht).1
  have hsl := oS.sl_len
  rw [List.length_map] at hsl
  have hR : RdSl ⟨A ++ (L ++ C), ro⟩ sH (ss.map svV) := RdSl.of_own (e := eS) (up heS) oS
  obtain ⟨b, hbb⟩ := svs_addr hR (by omega)
  have hst := hb _ (List.mem_of_getElem? ht)
  simp only [f3_L2, add_mk', Nat.zero_add, Nat.add_zero]
  have e1 := rd_svs hR hbb (i := ((t : Nat) : Int).toNat) (by rw [Int.toNat_natCast]; exact ht)
  refine ⟨sH, bkE_2 (up hm), b, hbb, by omega, by omega, st, e1, VIf_dec (fun hi => ?_) (fun hi => gi (hQ _ ⟨L, ls, rfl, oP⟩))⟩
  obtain ⟨e, he⟩ : ∃ e, L[t]? = some e := ⟨_, List.getElem?_eq_getElem (by rw [oP.l1]; exact htl)⟩
  obtain ⟨l, hl⟩ : ∃ l, ls[t]? = some l := ⟨_, List.getElem?_eq_getElem (by rw [← oP.l2]; exact htl)⟩
  have oe := oP.g t e st l he ht hl
  obtain ⟨L1, L2, rfl, hset⟩ := split_at he
  refine ⟨sH, bkE_2 (up hm), b, hbb, by omega, by omega, st, e1, ?_⟩
  refine wr_at (A ++ L1) e (L2 ++ C) (by simp) oe (by omega) (by omega) (fun e' oe' _ => ⟨⟨by omega, by omega⟩, st.len - (k + 1), by omega, gi ⟨k + 1, by omega, by omega, rfl, L1 ++ e' :: L2, ls.set t (l.set ((k : Nat) : Int).toNat n), by simp, by rw [← hset]; exact oP.set2 ht oe'⟩⟩)
theorem own_h2 {n : Int} {r18 : Nat} {A C : List Ent} {ro : Addr → Option Value} {sF sC sH : SV} {eS : Ent} {ss : List SV} (hm : bkE r18 sF sC sH ∈ A ++ C) (heS : eS ∈ A ++ C) (oS : OwnsSl 1 sH eS (ss.map svV)) (hb : ∀ x ∈ ss, x.len ≤ 1000) (hb2 : ss.length ≤ 1000)
    {k : Nat} (hk : k ≤ ss.length) {h : H} (hh : OwAny A C ss ro h) {Q : H → Prop} (hQ : ∀ h, OwAny A C ss ro h → Q h) :
    f3_L3 n r18 Q (fun m i h => ∃ k : Nat, i = (k : Int) ∧ k ≤ ss.length ∧ m = ss.length - k ∧ OwAny A C ss ro h) (ss.length - k) (k : Int) h := by
  have hh0 := hh
  obtain ⟨L, ls, rfl, oP⟩ := hh
  have up : ∀ {e : Ent} {L : List Ent}, e ∈ A ++ C → e ∈ A ++ (L ++ C) := fun {e L} h => by
    simp only [List.mem_append] at h ⊢
    rcases h with h | h
    · exact .inl h
    · exact .inr (.inr h)
  have hsl := oS.sl_len
  rw [List.length_map] at hsl
  simp only [f3_L3, add_mk', Nat.zero_add, Nat.add_zero]
  refine ⟨sH, bkE_2 (up hm), VIf_dec (fun hi => ?_) (fun hi => gi (hQ _ ⟨L, ls, rfl, oP⟩))⟩
  have hkl : k < ss.length := by omega
  have ht := List.getElem?_eq_getElem hkl
  refine ⟨OwAny A C ss ro, ⟨OwAny A C ss ro, ⟨fun m i h => ∃ k' : Nat, i = (k' : Int) ∧ k' ≤ ss[k].len ∧ m = ss[k].len - k' ∧ OwAny A C ss ro h, ⟨ss[k].len - 0, gi ⟨0, rfl, Nat.zero_le _, rfl, hh0⟩⟩, ?_⟩, fun _ h hq => gi hq⟩, fun _ h hq => ⟨⟨by omega, by omega⟩, ss.length - (k + 1), by omega, gi ⟨k + 1, by omega, by omega, rfl, hq⟩⟩⟩
  rintro m _ i h ⟨k', rfl, hk', rfl, hq⟩
  exact own_h1 hm heS oS hb ht hk' hq (fun _ h => h)


set_option maxHeartbeats 400000 in
theorem own_c1 {n : Int} {r18 : Nat} {A C : List Ent} {ro : Addr → Option Value} {sF sC sH : SV} {eS : Ent} {ss : List SV} (hm : bkE r18 sF sC sH ∈ A ++ C) (heS : eS ∈ A ++ C) (oS : OwnsSl 1 sC eS (ss.map svV)) (hb : ∀ x ∈ ss, x.len ≤ 1000) {t : Nat} {st : SV} (ht : ss[t]? = some st)
    {k : Nat} (hk : k ≤ st.len) {h : H} (hh : OwAny A C ss ro h) {Q : H → Prop} (hQ : ∀ h, OwAny A C ss ro h → Q h) :
    f3_L4 n r18 (t : Int) Q (fun m i h => ∃ k : Nat, i = (k : Int) ∧ k ≤ st.len ∧ m = st.len - k ∧ OwAny A C ss ro h) (st.len - k) (k : Int) h := by
  obtain ⟨L, ls, rfl, oP⟩ := hh
  have up : ∀ {e : Ent} {L : List Ent}, e ∈ A ++ C → e ∈ A ++ (L ++ C) := fun {e L} h => by
    simp only [List.mem_append] at h ⊢
    rcases h with h | h
    · exact .inl h
    · exact .inr (.inr h)
  have htl := (List.getElem?_eq_some_iff.1 ht).1
  have hsl := oS.sl_len
  rw [List.length_map] at hsl
  have hR : RdSl ⟨A ++ (L ++ C), ro⟩ sC (ss.map svV) := RdSl.of_own (e := eS) (up heS) oS
  obtain ⟨b, hbb⟩ := svs_addr hR (by omega)
  have hst := hb _ (List.mem_of_getElem? ht)
  simp only [f3_L4, add_mk', Nat.zero_add, Nat.add_zero]
  have e1 := rd_svs hR hbb (i := ((t : Nat) : Int).toNat) (by rw [Int.toNat_natCast]; exact ht)
  refine ⟨sC, bkE_1 (up hm), b, hbb, by omega, by omega, st, e1, VIf_dec (fun hi => ?_) (fun hi => gi (hQ _ ⟨L, ls, rfl, oP⟩))⟩
  obtain ⟨e, he⟩ : ∃ e, L[t]? = some e := ⟨_, List.getElem?_eq_getElem (by rw [oP.l1]; exact htl)⟩
  obtain ⟨l, hl⟩ : ∃ l, ls[t]? = some l := ⟨_, List.getElem?_eq_getElem (by rw [← oP.l2]; exact htl)⟩
  have oe := oP.g t e st l he ht hl
  obtain ⟨L1, L2, rfl, hset⟩ := split_at he
  refine ⟨sC, bkE_1 (up hm), b, hbb, by omega, by omega, st, e1, ?_⟩
  refine wr_at (A ++ L1) e (L2 ++ C) (by simp) oe (by omega) (by omega) (fun e' oe' _ => ⟨⟨by omega, by omega⟩, st.len - (k + 1), by omega, gi ⟨k + 1, by omega, by omega, rfl, L1 ++ e' :: L2, ls.set t (l.set ((k : Nat) : Int).toNat n), by simp, by rw [← hset]; exact oP.set2 ht oe'⟩⟩)
theorem own_c2 {n : Int} {r18 : Nat} {A C : List Ent} {ro : Addr → Option Value} {sF sC sH : SV} {eS : Ent} {ss : List SV} (hm : bkE r18 sF sC sH ∈ A ++ C) (heS : eS ∈ A ++ C) (oS : OwnsSl 1 sC eS (ss.map svV)) (hb : ∀ x ∈ ss, x.len ≤ 1000) (hb2 : ss.length ≤ 1000)
    {k : Nat} (hk : k ≤ ss.length) {h : H} (hh : OwAny A C ss ro h) {Q : H → Prop} (hQ : ∀ h, OwAny A C ss ro h → Q h) :
    f3_L5 n r18 Q (fun m i h => ∃ k : Nat, i = (k : Int) ∧ k ≤ ss.length ∧ m = ss.length - k ∧ OwAny A C ss ro h) (ss.length - k) (k : Int) h := by
  have hh0 := hh
  obtain ⟨L, ls, rfl, oP⟩ := hh
  have up : ∀ {e : Ent} {L : List Ent}, e ∈ A ++ C → e ∈ A ++ (L ++ C) := fun {e L} h => by
    simp only [List.mem_append] at h ⊢
    rcases h with h | h
    · exact .inl h
    · exact .inr (.inr h)
  have hsl := oS.sl_len
  rw [List.length_map] at hsl
  simp only [f3_L5, add_mk', Nat.zero_add, Nat.add_zero]
  refine ⟨sC, bkE_1 (up hm), VIf_dec (fun hi => ?_) (fun hi => gi (hQ _ ⟨L, ls, rfl, oP⟩))⟩
  have hkl : k < ss.length := by omega
  have ht := List.getElem?_eq_getElem hkl
  refine ⟨OwAny A C ss ro, ⟨OwAny A C ss ro, ⟨fun m i h => ∃ k' : Nat, i = (k' : Int) ∧ k' ≤ ss[k].len ∧ m = ss[k].len - k' ∧ OwAny A C ss ro h, ⟨ss[k].len - 0, gi ⟨0, rfl, Nat.zero_le _, rfl, hh0⟩⟩, ?_⟩, fun _ h hq => gi hq⟩, fun _ h hq => ⟨⟨by omega, by omega⟩, ss.length - (k + 1), by omega, gi ⟨k + 1, by omega, by omega, rfl, hq⟩⟩⟩
  rintro m _ i h ⟨k', rfl, hk', rfl, hq⟩
  exact own_c1 hm heS oS hb ht hk' hq (fun _ h => h)


set_option maxHeartbeats 800000 in
theorem bookOwn_c {b : Bk} {sf sc sh ss : SV} {n : Int} {rows : List (SV × List Int)} {ro : Addr → Option Value} {post : Value → H → Prop} {T : Nat} (hG : HasErrT ro) (hTab : HasTab ro) (hb : BkRd ⟨[], ro⟩ sf sc sh b) (hs : RdRowsOf ⟨[], ro⟩ ss rows) (hcap : ∀ r ∈ rows, r.1.len ≤ r.1.cap) (hpost : ∀ h, post (.bool true) h) :
    SemCall Tryd.prog 3 (List.toArray [bkV sf sc sh, .slice ss.a ss.len ss.cap, .int .i64 n]) ⟨[shE 1 T 20], ro⟩ post := by
  refine f3_call sf sc sh ss n _ post ?_
  intro r1 _
  simp only [add_mk', Nat.zero_add, Nat.add_zero]
  rw [show (⟨some r1, [Value.slice sf.a sf.len sf.cap, .slice sc.a sc.len sc.cap, .slice sh.a sh.len sh.cap], List.length [Value.slice sf.a sf.len sf.cap, .slice sc.a sc.len sc.cap, .slice sh.a sh.len sh.cap]⟩ : Ent) = bkE r1 sf sc sh from rfl]
  have hTm : shE 1 T 20 ∈ [shE 1 T 20] ++ [bkE r1 sf sc sh] := by simp
  have hE : bkE r1 sf sc sh ∈ [shE 1 T 20] ++ [bkE r1 sf sc sh] := by simp
  refine fact_c hG hTm hTab (fun ro1 m1 => ⟨true, rfl, VIf_nb (nomatch ·) (fun _ => ?_)⟩)
  refine ⟨sf, bkE_0 hE, sc, bkE_1 hE, sh, bkE_2 hE, told_c' hTm (hTab.up m1) (hb.mono (by simp) m1) (hs.mono (by simp) m1) hcap (fun _ => ⟨none, false, rfl, VIf_nb (fun _ => ret (hpost _)) (nomatch ·)⟩) (fun _ _ s ro2 m2 hB => ⟨_, true, rfl, VIf_nb (nomatch ·) (fun _ => ?_)⟩)⟩
  generalize btold b (rows.map Prod.snd) = x at hB
  generalize hA0 : [shE 1 T 20] ++ [bkE r1 sf sc sh] = A0
  refine bank_own hB A0 [] (by simp) (fun ef eC eH sF sC sH X Y ssC ssH hw oF oC oH pC pH => ⟨sF, sC, sH, rfl, ?_⟩)
  have hn3 := hB.sh.n3; have hm5 := hB.sh.m5; have hhl := hB.sh.hl
  have cC : ∀ y ∈ ssC, y.len ≤ 1000 := fun y hy => by
    obtain ⟨j, hj⟩ := List.mem_iff_getElem?.1 hy
    have hlt := (List.getElem?_eq_some_iff.1 hj).1
    have hlb : j < x.b.claim.length := by rw [← pC.l2]; exact hlt
    have o := pC.g j _ y _ (List.getElem?_eq_getElem (by rw [pC.l1]; exact hlt)) hj (List.getElem?_eq_getElem hlb)
    have h1 := o.sl_len
    rw [ints_length] at h1
    have h2 := (hB.sh.cn j hlb).1
    rw [List.getElem?_eq_getElem hlb] at h2
    simp only [Option.getD_some] at h2
    omega
  have cH : ∀ y ∈ ssH, y.len ≤ 1000 := fun y hy => by
    obtain ⟨j, hj⟩ := List.mem_iff_getElem?.1 hy
    have hlt := (List.getElem?_eq_some_iff.1 hj).1
    have hlb : j < x.b.has.length := by rw [← pH.l2]; exact hlt
    have o := pH.g j _ y _ (List.getElem?_eq_getElem (by rw [pH.l1]; exact hlt)) hj (List.getElem?_eq_getElem hlb)
    have h1 := o.sl_len
    rw [ints_length] at h1
    have h2 := (hB.sh.cn j (by omega)).2
    rw [List.getElem?_eq_getElem hlb] at h2
    simp only [Option.getD_some] at h2
    omega
  have lC : ssC.length ≤ 1000 := by have := pC.l2; omega
  have lH : ssH.length ≤ 1000 := by have := pH.l2; omega
  clear hw
  intro r18 _
  refine ⟨rfl, rfl, wro (A0 ++ boL s ++ (ef :: eC :: eH :: (X ++ Y))) ⟨some r18, [Value.slice none 0 0, .slice none 0 0, .slice none 0 0], 3⟩ [] ⟨rfl, rfl, rfl, trivial⟩ rfl rfl (by simp) ?_⟩
  have E18 : (⟨some r18, spl [Value.slice none 0 0, .slice none 0 0, .slice none 0 0] 0 [.slice sF.a sF.len sF.cap, .slice sC.a sC.len sC.cap, .slice sH.a sH.len sH.cap], 3⟩ : Ent) = bkE r18 sF sC sH := rfl
  rw [E18]
  refine bank_ro hB A0 ((ef :: eC :: eH :: (X ++ Y)) ++ bkE r18 sF sC sH :: []) (by simp) (fun y5 y6 y7 ro3 m3 hy => ⟨y5, y6, y7, rfl, ?_⟩)
  intro r26 _
  refine ⟨rfl, rfl, wro (A0 ++ boL s ++ (ef :: eC :: eH :: (X ++ Y)) ++ bkE r18 sF sC sH :: []) ⟨some r26, [Value.slice none 0 0, .slice none 0 0, .slice none 0 0], 3⟩ [] ⟨rfl, rfl, rfl, trivial⟩ rfl rfl (by simp) ?_⟩
  have E26 : (⟨some r26, spl [Value.slice none 0 0, .slice none 0 0, .slice none 0 0] 0 [.slice y5.a y5.len y5.cap, .slice y6.a y6.len y6.cap, .slice y7.a y7.len y7.cap], 3⟩ : Ent) = bkE r26 y5 y6 y7 := rfl
  rw [E26]
  -- the first loop: what is free
  have hF0 : sF.len ≤ 1000 := by have := oF.sl_len; rw [ints_length] at this; omega
  refine ⟨fun h => ∃ ef xs, OwnsSl 1 sF ef (ints xs) ∧ h = ⟨A0 ++ boL s ++ ef :: (eC :: eH :: (X ++ Y) ++ [bkE r18 sF sC sH, bkE r26 y5 y6 y7]), ro3⟩, ⟨fun m i h => ∃ (k : Nat) (ef : Ent) (xs : List Int), i = (k : Int) ∧ k ≤ sF.len ∧ m = sF.len - k ∧ OwnsSl 1 sF ef (ints xs) ∧ h = ⟨A0 ++ boL s ++ ef :: (eC :: eH :: (X ++ Y) ++ [bkE r18 sF sC sH, bkE r26 y5 y6 y7]), ro3⟩,
    ⟨sF.len - 0, gi ⟨0, ef, _, rfl, Nat.zero_le _, rfl, oF, by simp⟩⟩, ?_⟩, ?_⟩
  · rintro m _ i _ ⟨k, ef, xs, rfl, hk, rfl, oF, rfl⟩
    have hm : ∀ {ef : Ent}, bkE r18 sF sC sH ∈ A0 ++ boL s ++ ef :: (eC :: eH :: (X ++ Y) ++ [bkE r18 sF sC sH, bkE r26 y5 y6 y7]) := fun {ef} => by simp
    simp only [f3_L1, add_mk', Nat.zero_add, Nat.add_zero]
    refine ⟨sF, bkE_0 hm, VIf_dec (fun hi => ⟨sF, bkE_0 hm, ?_⟩) (fun _ => gi ⟨ef, xs, oF, rfl⟩)⟩
    exact wr_at (A0 ++ boL s) ef _ rfl oF (by omega) (by omega) (fun e' oe' _ => ⟨⟨by omega, by omega⟩, sF.len - (k + 1), by omega, gi ⟨k + 1, e', _, by omega, by omega, rfl, oe', rfl⟩⟩)
  clear oF
  rintro _ _ ⟨ef, xs, oF, rfl⟩
  -- what is had
  refine ⟨OwAny (A0 ++ boL s ++ ef :: eC :: eH :: X) [bkE r18 sF sC sH, bkE r26 y5 y6 y7] ssH ro3, ⟨fun m i h => ∃ k : Nat, i = (k : Int) ∧ k ≤ ssH.length ∧ m = ssH.length - k ∧ OwAny (A0 ++ boL s ++ ef :: eC :: eH :: X) [bkE r18 sF sC sH, bkE r26 y5 y6 y7] ssH ro3 h,
    ⟨ssH.length - 0, gi ⟨0, rfl, Nat.zero_le _, rfl, Y, _, by simp, pH⟩⟩, ?_⟩, ?_⟩
  · rintro m _ i h ⟨k, rfl, hk, rfl, hq⟩
    exact own_h2 (sF := sF) (sC := sC) (by simp) (eS := eH) (by simp) oH cH lH hk hq (fun _ h => h)
  clear pH
  rintro _ _ ⟨Y, lsH, rfl, pH⟩
  simp only [f3_J6]
  -- what is claimed
  refine ⟨OwAny (A0 ++ boL s ++ [ef, eC, eH]) (Y ++ [bkE r18 sF sC sH, bkE r26 y5 y6 y7]) ssC ro3, ⟨fun m i h => ∃ k : Nat, i = (k : Int) ∧ k ≤ ssC.length ∧ m = ssC.length - k ∧ OwAny (A0 ++ boL s ++ [ef, eC, eH]) (Y ++ [bkE r18 sF sC sH, bkE r26 y5 y6 y7]) ssC ro3 h,
    ⟨ssC.length - 0, gi ⟨0, rfl, Nat.zero_le _, rfl, X, _, by simp, pC⟩⟩, ?_⟩, ?_⟩
  · rintro m _ i h ⟨k, rfl, hk, rfl, hq⟩
    exact own_c2 (sF := sF) (sH := sH) (by simp) (eS := eC) (by simp) oC cC lC hk hq (fun _ h => h)
  clear pC
  rintro _ _ ⟨X, lsC, rfl, pC⟩
  simp only [add_mk', Nat.zero_add, Nat.add_zero]
  have hm26 : bkE r26 y5 y6 y7 ∈ A0 ++ boL s ++ [ef, eC, eH] ++ (X ++ (Y ++ [bkE r18 sF sC sH, bkE r26 y5 y6 y7])) := by simp
  refine ⟨y5, bkE_0 hm26, y6, bkE_1 hm26, y7, bkE_2 hm26, bank_ro (hB.up m3) A0 ([ef, eC, eH] ++ (X ++ (Y ++ [bkE r18 sF sC sH, bkE r26 y5 y6 y7]))) (by simp) (fun z5 z6 z7 ro4 m4 hz => ⟨OwnExt.same, z5, z6, z7, rfl, ?_⟩)⟩
  exact same_banks_c (hz.mono (by simp) (fun _ _ h => h)) (hy.mono (by simp) m4) hB.sh.sml (fun _ => ⟨true, rfl, ret (hpost _)⟩) (fun h => absurd rfl h)

end Go.Proofs.YtnppmcgmmdcpiaaDoor
