import Derived.Test.YtnppmcgmmdcpiaaDoorHd
import Derived.Test.YtnppmcgmmdcpiaaDoorB2
namespace Go.Proofs.YtnppmcgmmdcpiaaDoor
open Go.Eng
set_option maxRecDepth 20000
/-! ### the bank, walked -/
structure BkRd (h : H) (sf sc sh : SV) (b : Bk) : Prop where
  f : RdSl h sf (ints b.free)
  c : ∃ rc, RdRowsOf h sc rc ∧ rc.map Prod.snd = b.claim
  h : ∃ rh, RdRowsOf h sh rh ∧ rh.map Prod.snd = b.has
theorem BkRd.mono {h h2 : H} {sf sc sh : SV} {b : Bk} (r : BkRd h sf sc sh b) (hs : ∀ e ∈ h.own, e ∈ h2.own) (hr : ∀ a v, h.ro a = some v → h2.ro a = some v) : BkRd h2 sf sc sh b := by
  obtain ⟨f, ⟨rc, c1, c2⟩, ⟨rh, h1, h2⟩⟩ := r
  exact ⟨f.mono hs hr, ⟨rc, c1.mono hs hr, c2⟩, ⟨rh, h1.mono hs hr, h2⟩⟩
theorem rowsof_len {h : H} {s : SV} {rc : List (SV × List Int)} {l : List (List Int)} (r : RdRowsOf h s rc) (e : rc.map Prod.snd = l) : s.len = l.length := by
  have := r.1.len
  rw [← e]
  simpa using this
theorem BkRd.fl {h : H} {sf sc sh : SV} {b : Bk} (r : BkRd h sf sc sh b) : sf.len = b.free.length := by have := r.f.len; rwa [ints_length] at this
theorem BkRd.cl {h : H} {sf sc sh : SV} {b : Bk} (r : BkRd h sf sc sh b) : sc.len = b.claim.length := by obtain ⟨rc, h1, h2⟩ := r.c; exact rowsof_len h1 h2
theorem BkRd.hl {h : H} {sf sc sh : SV} {b : Bk} (r : BkRd h sf sc sh b) : sh.len = b.has.length := by obtain ⟨rc, h1, h2⟩ := r.h; exact rowsof_len h1 h2
theorem rowsof_at {h : H} {s : SV} {rc : List (SV × List Int)} {l : List (List Int)} (r : RdRowsOf h s rc) (e : rc.map Prod.snd = l) {t : Int} (h0 : 0 ≤ t) (h1 : t < (l.length : Int)) {K : SV → Prop} (hK : ∀ x : SV, RdSl h x (ints ((l[t.toNat]?).getD [])) → x.len = ((l[t.toNat]?).getD []).length → K x) :
    ∃ b : Addr, s.a = some b ∧ 0 ≤ t ∧ t < ((s.len : Nat) : Int) ∧ ∃ x : SV, H.rd h (Addr.add (Addr.add b (t.toNat * 1)) 0) (Value.slice x.a x.len x.cap) ∧ K x := by
  have hl := rowsof_len r e
  refine r.idx h0 (by omega) fun x xs hx hr => ?_
  have : (l[t.toNat]?).getD [] = xs := by rw [← e, List.getElem?_map, hx]; rfl
  refine hK x (by rw [this]; exact hr) (by rw [this]; have := hr.len; rwa [ints_length] at this)
theorem BkRd.ca {h : H} {sf sc sh : SV} {b : Bk} (r : BkRd h sf sc sh b) {t : Int} (h0 : 0 ≤ t) (h1 : t < (b.claim.length : Int)) {K : SV → Prop} (hK : ∀ x : SV, RdSl h x (ints ((b.claim[t.toNat]?).getD [])) → x.len = ((b.claim[t.toNat]?).getD []).length → K x) :
    ∃ b' : Addr, sc.a = some b' ∧ 0 ≤ t ∧ t < ((sc.len : Nat) : Int) ∧ ∃ x : SV, H.rd h (Addr.add (Addr.add b' (t.toNat * 1)) 0) (Value.slice x.a x.len x.cap) ∧ K x := by
  obtain ⟨rc, c1, c2⟩ := r.c
  exact rowsof_at c1 c2 h0 h1 hK
theorem BkRd.ha {h : H} {sf sc sh : SV} {b : Bk} (r : BkRd h sf sc sh b) {t : Int} (h0 : 0 ≤ t) (h1 : t < (b.has.length : Int)) {K : SV → Prop} (hK : ∀ x : SV, RdSl h x (ints ((b.has[t.toNat]?).getD [])) → x.len = ((b.has[t.toNat]?).getD []).length → K x) :
    ∃ b' : Addr, sh.a = some b' ∧ 0 ≤ t ∧ t < ((sh.len : Nat) : Int) ∧ ∃ x : SV, H.rd h (Addr.add (Addr.add b' (t.toNat * 1)) 0) (Value.slice x.a x.len x.cap) ∧ K x := by
  obtain ⟨rc, c1, c2⟩ := r.h
  exact rowsof_at c1 c2 h0 h1 hK
theorem rdm {h h2 : H} {a : Addr} {v : Value} (r : H.rd h a v) (hs : ∀ e ∈ h.own, e ∈ h2.own) (hr : ∀ a v, h.ro a = some v → h2.ro a = some v) : H.rd h2 a v := ⟨r.1, r.2.elim (fun ⟨e, h1, h2⟩ => .inl ⟨e, hs e h1, h2⟩) (fun h => .inr (hr _ _ h))⟩
theorem BkRd.cu {own own2 : List Ent} {ro : Addr → Option Value} {sf sc sh : SV} {b : Bk} (r : BkRd ⟨own, ro⟩ sf sc sh b) (hs : ∀ e ∈ own, e ∈ own2) {t : Int} (h0 : 0 ≤ t) (h1 : t < (b.claim.length : Int)) {K : SV → Prop} (hK : ∀ x : SV, RdSl ⟨own, ro⟩ x (ints ((b.claim[t.toNat]?).getD [])) → x.len = ((b.claim[t.toNat]?).getD []).length → K x) :
    ∃ b' : Addr, sc.a = some b' ∧ 0 ≤ t ∧ t < ((sc.len : Nat) : Int) ∧ ∃ x : SV, H.rd ⟨own2, ro⟩ (Addr.add (Addr.add b' (t.toNat * 1)) 0) (Value.slice x.a x.len x.cap) ∧ K x := by
  obtain ⟨b', h2, h3, h4, x, h5, h6⟩ := r.ca h0 h1 (K := fun x => RdSl ⟨own, ro⟩ x (ints ((b.claim[t.toNat]?).getD [])) ∧ x.len = ((b.claim[t.toNat]?).getD []).length) (fun x a b => ⟨a, b⟩)
  exact ⟨b', h2, h3, h4, x, rdm h5 hs (fun _ _ h => h), hK x h6.1 h6.2⟩
theorem idxG {h : H} {s : SV} {xs : List Int} (r : RdSl h s (ints xs)) {i : Int} (h0 : 0 ≤ i) (h1 : i < (xs.length : Int)) {K : Int → Prop} (hK : K (gI xs i.toNat)) :
    ∃ b : Addr, s.a = some b ∧ 0 ≤ i ∧ i < ((s.len : Nat) : Int) ∧ ∃ x : Int, H.rd h (Addr.add (Addr.add b (i.toNat * 1)) 0) (Value.int .i64 x) ∧ K x := by
  have hl := r.len
  rw [ints_length] at hl
  refine r.idx h0 (by omega) fun x hx => ?_
  have : gI xs i.toNat = x := by unfold gI; rw [hx]; rfl
  rw [← this]; exact hK
def bkE (r : Nat) (sf sc sh : SV) : Ent := ⟨some r, [.slice sf.a sf.len sf.cap, .slice sc.a sc.len sc.cap, .slice sh.a sh.len sh.cap], 3⟩
def bkV (sf sc sh : SV) : Value := .agg (List.toArray [.slice sf.a sf.len sf.cap, .slice sc.a sc.len sc.cap, .slice sh.a sh.len sh.cap])
theorem bkE_0 {own : List Ent} {ro : Addr → Option Value} {r : Nat} {sf sc sh : SV} (h : bkE r sf sc sh ∈ own) : H.rd ⟨own, ro⟩ (Addr.mk r 0 none) (.slice sf.a sf.len sf.cap) := rdo _ h rfl rfl
theorem bkE_1 {own : List Ent} {ro : Addr → Option Value} {r : Nat} {sf sc sh : SV} (h : bkE r sf sc sh ∈ own) : H.rd ⟨own, ro⟩ (Addr.mk r 1 none) (.slice sc.a sc.len sc.cap) := rdo _ h rfl rfl
theorem bkE_2 {own : List Ent} {ro : Addr → Option Value} {r : Nat} {sf sc sh : SV} (h : bkE r sf sc sh ∈ own) : H.rd ⟨own, ro⟩ (Addr.mk r 2 none) (.slice sh.a sh.len sh.cap) := rdo _ h rfl rfl
theorem bank_ends_c {b : Bk} {sf sc sh sx : SV} {fr : List Int} {t : Int} {own : List Ent} {ro : Addr → Option Value} {post : Value → H → Prop} (hb : BkRd ⟨own, ro⟩ sf sc sh b) (hx : RdSl ⟨own, ro⟩ sx (ints fr)) (ho : BOk b) (t0 : 0 ≤ t) (t1 : t < b.claim.length) (hl : fr.length = b.free.length)
    (hk : post (.bool (bends b fr t.toNat)) ⟨own, ro⟩) : SemCall Tryd.prog 47 (List.toArray [bkV sf sc sh, .slice sx.a sx.len sx.cap, .int .i64 t]) ⟨own, ro⟩ post := by
  refine f47_call sf sc sh sx t _ post ?_
  intro r1 _
  have hb' : BkRd ⟨own ++ [bkE r1 sf sc sh], ro⟩ sf sc sh b := hb.mono (fun e he => List.mem_append_left _ he) (fun _ _ h => h)
  have hx' : RdSl ⟨own ++ [bkE r1 sf sc sh], ro⟩ sx (ints fr) := hx.mono (fun e he => List.mem_append_left _ he) (fun _ _ h => h)
  have hE : bkE r1 sf sc sh ∈ own ++ [bkE r1 sf sc sh] := by simp
  have hxl := hx.len
  rw [ints_length] at hxl
  have hhl := ho.hl
  have hn3 := ho.n3
  obtain ⟨cn1, cn2⟩ := ho.cn t.toNat (by omega)
  refine ⟨fun h => h = ⟨own ++ [bkE r1 sf sc sh], ro⟩ ∧ bends b fr t.toNat = true, ⟨fun n i h => ∃ k : Nat, i = (k : Int) ∧ k ≤ fr.length ∧ n = fr.length - k ∧ h = ⟨own ++ [bkE r1 sf sc sh], ro⟩ ∧ ∀ j, j < k → g2 b.claim t.toNat j - g2 b.has t.toNat j ≤ gI fr j, ⟨_, gi ⟨0, rfl, Nat.zero_le _, rfl, rfl, fun j hj => by omega⟩⟩, ?_⟩, ?_⟩
  · rintro n _ i _ ⟨k, rfl, hk', rfl, rfl, hall⟩
    refine VIf_dec (fun hi => ?_) (fun hi => gi ⟨rfl, bends_iff.2 fun j hj => hall j (by omega)⟩)
    simp only [add_mk', Nat.zero_add, Nat.add_zero]
    refine idxG hx' (by omega) (by omega) ⟨sc, bkE_1 hE, hb'.ca t0 (by omega) fun xc hxc hlc => idxG hxc (by omega) (by omega) ⟨sh, bkE_2 hE, hb'.ha t0 (by omega) fun xh hxh hlh => idxG hxh (by omega) (by omega) ?_⟩⟩
    have hc := ho.c t.toNat k (by omega) (by omega)
    rw [Int.toNat_natCast]
    have e1 : gI ((b.claim[t.toNat]?).getD []) k = g2 b.claim t.toNat k := rfl
    have e2 : gI ((b.has[t.toNat]?).getD []) k = g2 b.has t.toNat k := rfl
    rw [e1, e2]
    refine ⟨⟨by omega, by omega⟩, VIf_dec (fun hgt => ?_) (fun hle => ⟨⟨by omega, by omega⟩, fr.length - (k + 1), by omega, gi ⟨k + 1, by omega, by omega, rfl, rfl, fun j hj => ?_⟩⟩)⟩
    · have : bends b fr t.toNat = false := by
        cases hbe : bends b fr t.toNat with
        | false => rfl
        | true => have := bends_iff.1 hbe k (by omega); omega
      rw [this] at hk
      exact ⟨⟨own, ro⟩, Gh.drop (by simp), hk⟩
    · by_cases he : j = k
      · subst he; omega
      · exact hall j (by omega)
  · rintro _ _ ⟨rfl, h⟩
    rw [h] at hk
    exact ⟨⟨own, ro⟩, Gh.drop (by simp), hk⟩
theorem bne_dec {x y : Int} : (x != y) = decide (x ≠ y) := by by_cases h : x = y <;> simp [h]
/-! #### the check -/
def ballT (b : Bk) (t j : Nat) : Int := (b.has.take t).foldl (fun s h => s + gI h j) (gI b.free j)
theorem ballT_succ {b : Bk} {t j : Nat} (h : t < b.has.length) : ballT b (t + 1) j = ballT b t j + g2 b.has t j := by
  have hx : b.has[t]? = some b.has[t] := List.getElem?_eq_getElem h
  rw [ballT, List.take_add_one, hx]
  simp only [Option.toList_some, List.foldl_append, List.foldl_cons, List.foldl_nil]
  rw [g2, hx]; rfl
theorem ballT_all {b : Bk} {j : Nat} : ballT b b.has.length j = ball b j := by rw [ballT, List.take_length]; rfl
theorem ballT_b {b : Bk} {j : Nat} (hf : 0 ≤ gI b.free j ∧ gI b.free j ≤ 1000) : ∀ {t : Nat}, t ≤ b.has.length → (∀ s, s < t → 0 ≤ g2 b.has s j ∧ g2 b.has s j ≤ 1000) → 0 ≤ ballT b t j ∧ ballT b t j ≤ 1000 * (t + 1)
  | 0, _, _ => by simp only [ballT, List.take_zero, List.foldl_nil]; omega
  | t + 1, ht, h => by
    rw [ballT_succ (by omega)]
    have h1 := ballT_b hf (t := t) (by omega) (fun s hs => h s (by omega))
    have h2 := h t (by omega)
    omega
set_option maxHeartbeats 800000 in
theorem bank_check_c {b : Bk} {sf sc sh : SV} {own : List Ent} {ro : Addr → Option Value} {post : Value → H → Prop} (hb : BkRd ⟨own, ro⟩ sf sc sh b)
    (hk : post (errV (eno 60 (bcheck b))) ⟨own, ro⟩) : SemCall Tryd.prog 35 (List.toArray [bkV sf sc sh]) ⟨own, ro⟩ post := by
  refine f35_call sf sc sh _ post ?_
  intro r1 _
  have fl := hb.fl
  have cl := hb.cl
  have hl := hb.hl
  have hup : ∀ {X : List Ent}, BkRd ⟨own ++ bkE r1 sf sc sh :: X, ro⟩ sf sc sh b := fun {X} => hb.mono (fun e he => List.mem_append_left _ he) (fun _ _ h => h)
  have hE : ∀ {X : List Ent}, bkE r1 sf sc sh ∈ own ++ bkE r1 sf sc sh :: X := fun {X} => by simp
  have done : ∀ {X : List Ent} {v : Value}, v = errV (eno 60 (bcheck b)) → VRet ⟨own ++ bkE r1 sf sc sh :: X, ro⟩ v post := fun {X v} hv => ⟨⟨own, ro⟩, Gh.drop (by simp), by rw [hv]; exact hk⟩
  refine ⟨sf, bkE_0 hE, VIf_eq (fun h0 => done (X := []) ?_) (fun h0 => ?_)⟩
  · rw [bcheck, if_pos (by omega)]; rfl
  refine join_b (h := ⟨own ++ [bkE r1 sf sc sh], ro⟩) (decide (b.free.length > 3 ∨ b.claim.length > 5)) ⟨sf, bkE_0 hE, VIf_dec (fun h1 => gi ⟨rfl, ?_⟩) (fun h1 => ⟨sc, bkE_1 hE, gi ⟨rfl, ?_⟩⟩)⟩ ?_
  · exact (decide_eq_true (.inl (by omega))).symm
  · exact decide_eq_decide.2 ⟨fun h => .inr (by omega), fun h => by omega⟩
  refine VIf_dec (fun h1 => done (X := []) ?_) (fun h1 => ?_)
  · rw [bcheck, if_neg (by omega), if_pos h1]; rfl
  refine ⟨sh, bkE_2 hE, sc, bkE_1 hE, VIf_ne (fun h2 => done (X := []) ?_) (fun h2 => ?_)⟩
  · rw [bcheck, if_neg (by omega), if_neg h1, if_pos (by omega)]; rfl
  -- the shape
  refine ⟨sc, bkE_1 hE, fun h => h = ⟨own ++ [bkE r1 sf sc sh], ro⟩ ∧ ∀ t, t < b.claim.length → ((b.claim[t]?).getD []).length = b.free.length ∧ ((b.has[t]?).getD []).length = b.free.length,
    ⟨fun n i h => ∃ k : Nat, i = (k : Int) ∧ k ≤ b.claim.length ∧ n = b.claim.length - k ∧ h = ⟨own ++ [bkE r1 sf sc sh], ro⟩ ∧ ∀ t, t < k → ((b.claim[t]?).getD []).length = b.free.length ∧ ((b.has[t]?).getD []).length = b.free.length, ⟨_, gi ⟨0, rfl, Nat.zero_le _, rfl, rfl, fun j hj => by omega⟩⟩, ?_⟩, ?_⟩
  · rintro n _ i _ ⟨k, rfl, hk', rfl, rfl, hall⟩
    refine VIf_dec (fun hi => ?_) (fun hi => gi ⟨rfl, fun t ht => hall t (by omega)⟩)
    refine join_b (h := ⟨own ++ [bkE r1 sf sc sh], ro⟩) (decide (((b.claim[k]?).getD []).length ≠ b.free.length ∨ ((b.has[k]?).getD []).length ≠ b.free.length)) ⟨sc, bkE_1 hE, hup.ca (by omega) (by omega) fun xc hxc hlc => ⟨sf, bkE_0 hE, VIf_ne (fun h3 => gi ⟨rfl, ?_⟩) (fun h3 => ⟨sh, bkE_2 hE, hup.ha (by omega) (by omega) fun xh hxh hlh => ⟨sf, bkE_0 hE, gi ⟨rfl, ?_⟩⟩⟩)⟩⟩ ?_
    · rw [Int.toNat_natCast] at hlc
      exact (decide_eq_true (.inl (by omega))).symm
    · rw [Int.toNat_natCast] at hlc hlh
      rw [bne_dec]
      exact decide_eq_decide.2 (by omega)
    refine VIf_dec (fun h3 => done (X := []) ?_) (fun h3 => ⟨⟨by omega, by omega⟩, b.claim.length - (k + 1), by omega, gi ⟨k + 1, by omega, by omega, rfl, rfl, fun t ht => ?_⟩⟩)
    · rw [bcheck, if_neg (by omega), if_neg h1, if_neg (by omega), if_pos ⟨k, by omega, h3⟩]; rfl
    · by_cases he : t = k
      · subst he; omega
      · exact hall t (by omega)
  rintro _ _ ⟨rfl, hsh⟩
  have n4 : ¬ ∃ t, t < b.claim.length ∧ (((b.claim[t]?).getD []).length ≠ b.free.length ∨ ((b.has[t]?).getD []).length ≠ b.free.length) := fun ⟨t, h3, h4⟩ => by have := hsh t h3; omega
  -- what is free
  refine ⟨sf, bkE_0 hE, clone_c (hup (X := [])).f (by omega) (fun sa ea oa => ⟨sa, rfl, sf, bkE_0 (r := r1) (sc := sc) (sh := sh) (by simp), ?_⟩)⟩
  have hal := oa.sl_len
  rw [ints_length] at hal
  have hcat : ∀ {e : Ent}, own ++ [bkE r1 sf sc sh] ++ [e] = own ++ bkE r1 sf sc sh :: [e] := fun {e} => by simp
  rw [hcat]
  refine ⟨fun h => h = ⟨own ++ bkE r1 sf sc sh :: [ea], ro⟩ ∧ ∀ k, k < b.free.length → 0 ≤ gI b.free k ∧ gI b.free k ≤ 1000,
    ⟨fun n i h => ∃ k : Nat, i = (k : Int) ∧ k ≤ b.free.length ∧ n = b.free.length - k ∧ h = ⟨own ++ bkE r1 sf sc sh :: [ea], ro⟩ ∧ ∀ j, j < k → 0 ≤ gI b.free j ∧ gI b.free j ≤ 1000, ⟨_, gi ⟨0, rfl, Nat.zero_le _, rfl, rfl, fun j hj => by omega⟩⟩, ?_⟩, ?_⟩
  · rintro n _ i _ ⟨k, rfl, hk', rfl, rfl, hall⟩
    refine VIf_dec (fun hi => ?_) (fun hi => gi ⟨rfl, fun t ht => hall t (by omega)⟩)
    refine idxG hup.f (by omega) (by omega) (within_i (fun hc => ⟨_, rfl, VIf_nb (fun _ => done ?_) (nomatch ·)⟩) (fun c0 c1 => ⟨_, rfl, VIf_nb (nomatch ·) (fun _ => ⟨⟨by omega, by omega⟩, b.free.length - (k + 1), by omega, gi ⟨k + 1, by omega, by omega, rfl, rfl, fun t ht => ?_⟩⟩)⟩))
    · rw [Int.toNat_natCast] at hc
      rw [bcheck, if_neg (by omega), if_neg h1, if_neg (by omega), if_neg n4, if_pos ⟨k, by omega, hc⟩]; rfl
    · rw [Int.toNat_natCast] at c0 c1
      by_cases he : t = k
      · subst he; exact ⟨c0, c1⟩
      · exact hall t (by omega)
  rintro _ _ ⟨rfl, hfr⟩
  have n5 : ¬ ∃ k, k < b.free.length ∧ ¬ (0 ≤ gI b.free k ∧ gI b.free k ≤ 1000) := fun ⟨k, h3, h4⟩ => h4 (hfr k h3)
  -- what is claimed, and had
  let okc : Nat → Nat → Prop := fun t k => (0 ≤ g2 b.claim t k ∧ g2 b.claim t k ≤ 1000) ∧ (0 ≤ g2 b.has t k ∧ g2 b.has t k ≤ g2 b.claim t k)
  have bad6 : ∀ t k, t < b.claim.length → k < b.free.length → ¬ okc t k → Value.iface 60 (.int .i64 1) = errV (eno 60 (bcheck b)) := fun t k ht hk' hc => by
    rw [bcheck, if_neg (by omega), if_neg h1, if_neg (by omega), if_neg n4, if_neg n5, if_pos ⟨t, k, ht, hk', hc⟩]; rfl
  refine ⟨sc, bkE_1 hE, fun h => ∃ (e : Ent) (L : List Int), h = ⟨own ++ bkE r1 sf sc sh :: [e], ro⟩ ∧ OwnsSl 1 sa e (ints L) ∧ L.length = b.free.length ∧ (∀ j, j < b.free.length → gI L j = ball b j) ∧ ∀ t k, t < b.claim.length → k < b.free.length → okc t k,
    ⟨fun n i h => ∃ (t : Nat) (e : Ent) (L : List Int), i = (t : Int) ∧ t ≤ b.claim.length ∧ n = b.claim.length - t ∧ h = ⟨own ++ bkE r1 sf sc sh :: [e], ro⟩ ∧ OwnsSl 1 sa e (ints L) ∧ L.length = b.free.length ∧ (∀ j, j < b.free.length → gI L j = ballT b t j) ∧ ∀ s k, s < t → k < b.free.length → okc s k, ⟨_, gi ⟨0, ea, b.free, rfl, Nat.zero_le _, rfl, rfl, oa, rfl, fun j hj => rfl, fun s k hs => by omega⟩⟩, ?_⟩, ?_⟩
  · rintro n _ i _ ⟨t, e, L, rfl, ht, rfl, rfl, oe, hL, hLg, hok⟩
    refine VIf_dec (fun hi => ?_) (fun hi => gi ⟨e, L, rfl, oe, hL, fun j hj => by rw [hLg j hj, show t = b.has.length by omega, ballT_all], fun s k hs hk' => hok s k (by omega) hk'⟩)
    have htc : t < b.claim.length := by omega
    refine ⟨fun h => ∃ (e : Ent) (L : List Int), h = ⟨own ++ bkE r1 sf sc sh :: [e], ro⟩ ∧ OwnsSl 1 sa e (ints L) ∧ L.length = b.free.length ∧ (∀ j, j < b.free.length → gI L j = ballT b (t + 1) j) ∧ ∀ k, k < b.free.length → okc t k, ?_, ?_⟩
    · refine ⟨sc, bkE_1 hE, hb.cu (fun e he => List.mem_append_left _ he) (by omega) (by omega) fun xc hxc0 hlc => ?_⟩
      rw [Int.toNat_natCast] at hxc0 hlc
      have hcl2 := (hsh t htc).1
      have hhl2 := (hsh t htc).2
      refine ⟨fun h => ∃ (e : Ent) (L : List Int), h = ⟨own ++ bkE r1 sf sc sh :: [e], ro⟩ ∧ OwnsSl 1 sa e (ints L) ∧ L.length = b.free.length ∧ (∀ j, j < b.free.length → gI L j = ballT b (t + 1) j) ∧ ∀ k, k < b.free.length → okc t k,
        ⟨fun n i h => ∃ (k : Nat) (e : Ent) (L : List Int), i = (k : Int) ∧ k ≤ b.free.length ∧ n = b.free.length - k ∧ h = ⟨own ++ bkE r1 sf sc sh :: [e], ro⟩ ∧ OwnsSl 1 sa e (ints L) ∧ L.length = b.free.length ∧ (∀ j, j < b.free.length → gI L j = ballT b t j + if j < k then g2 b.has t j else 0) ∧ ∀ k', k' < k → okc t k',
          ⟨_, gi ⟨0, e, L, rfl, Nat.zero_le _, rfl, rfl, oe, hL, fun j hj => by rw [hLg j hj, if_neg (by omega)]; omega, fun s hs => by omega⟩⟩, ?_⟩, ?_⟩
      rotate_left
      · rintro _ _ ⟨e, L, rfl, o, l, g, k⟩
        exact gi ⟨e, L, rfl, o, l, g, k⟩
      clear hLg hL oe
      rintro n _ i _ ⟨k, e, L, rfl, hk', rfl, rfl, oe, hL, hLg, hok2⟩
      refine VIf_dec (fun hi => ?_) (fun hi => gi ⟨e, L, rfl, oe, hL, fun j hj => by rw [hLg j hj, if_pos (by omega), ballT_succ (by omega)], fun k' hk2 => hok2 k' (by omega)⟩)
      have hkf : k < b.free.length := by omega
      have hxe : RdSl ⟨own ++ bkE r1 sf sc sh :: [e], ro⟩ xc (ints ((b.claim[t]?).getD [])) := by
        exact RdSl.mono (h := ⟨own, ro⟩) hxc0 (fun e he => List.mem_append_left _ he) (fun _ _ h => h)
      refine idxG hxe (by omega) (by omega) ?_
      rw [Int.toNat_natCast]
      have e1 : gI ((b.claim[t]?).getD []) k = g2 b.claim t k := rfl
      have e2 : gI ((b.has[t]?).getD []) k = g2 b.has t k := rfl
      rw [e1]
      refine join_b (h := ⟨own ++ bkE r1 sf sc sh :: [e], ro⟩) (decide (¬ okc t k)) (within_i (fun hc => ⟨_, rfl, VIf_nb (fun _ => gi ⟨rfl, (decide_eq_true (p := ¬ okc t k) (fun h => hc h.1)).symm⟩) (nomatch ·)⟩) (fun c0 c1 => ⟨_, rfl, VIf_nb (nomatch ·) (fun _ => ⟨sh, bkE_2 hE, hup.ha (by omega) (by omega) fun xh hxh hlh => ?_⟩)⟩)) ?_
      · rw [Int.toNat_natCast] at hxh hlh
        refine idxG hxh (by omega) (by omega) ?_
        rw [Int.toNat_natCast, e2]
        refine within_c ⟨_, rfl, gi ⟨rfl, ?_⟩⟩
        by_cases h : 0 ≤ g2 b.has t k ∧ g2 b.has t k ≤ g2 b.claim t k
        · rw [decide_eq_true h, decide_eq_false (fun hn => hn ⟨⟨c0, c1⟩, h⟩)]; rfl
        · rw [decide_eq_false h, decide_eq_true (p := ¬ okc t k) (fun hh => h hh.2)]; rfl
      refine VIf_dec (fun hc => done (bad6 t k htc hkf hc)) (fun hc => ?_)
      have hc : okc t k := Classical.byContradiction hc
      have hbb := ballT_b (hfr k hkf) (t := t) (by omega) (fun s hs => by have h9 := hok s k hs hkf; exact ⟨h9.2.1, Int.le_trans h9.2.2 h9.1.2⟩)
      have hra : RdSl ⟨own ++ bkE r1 sf sc sh :: [e], ro⟩ sa (ints L) := RdSl.of_own (e := e) (by simp) oe
      refine idxG hra (by omega) (by omega) ⟨sh, bkE_2 hE, hup.ha (by omega) (by omega) fun xh hxh hlh => ?_⟩
      rw [Int.toNat_natCast] at hxh hlh
      refine idxG hxh (by omega) (by omega) ?_
      rw [Int.toNat_natCast, e2, hLg k hkf, if_neg (by omega)]
      have hcc := hc.1
      have hch := hc.2
      refine ⟨⟨by omega, by omega⟩, wr_at (own ++ [bkE r1 sf sc sh]) e [] (by simp) oe (by omega) (by omega) (fun e' oe' _ => ⟨⟨by omega, by omega⟩, b.free.length - (k + 1), by omega, gi ⟨k + 1, e', _, by omega, by omega, rfl, by simp, oe', by simpa using hL, fun j hj => ?_, fun k' hk2 => ?_⟩⟩)⟩
      · rw [Int.toNat_natCast, gI_bset (by omega)]
        by_cases he : j = k
        · subst he; rw [if_pos rfl, if_pos (by omega)]; omega
        · rw [if_neg he, hLg j hj]
          by_cases hjk : j < k
          · rw [if_pos hjk, if_pos (by omega)]
          · rw [if_neg hjk, if_neg (by omega)]
      · by_cases he : k' = k
        · subst he; exact hc
        · exact hok2 k' (by omega)
    · rintro _ _ ⟨e, L, rfl, o, l, g, k⟩
      refine ⟨⟨by omega, by omega⟩, b.claim.length - (t + 1), by omega, gi ⟨t + 1, e, L, by omega, by omega, rfl, rfl, o, l, g, fun s k' hs hk' => ?_⟩⟩
      by_cases he : s = t
      · subst he; exact k k' hk'
      · exact hok s k' (by omega) hk'
  rintro _ _ ⟨e, L, rfl, oe, hL, hLg, hok⟩
  have n6 : ¬ ∃ t k, t < b.claim.length ∧ k < b.free.length ∧ ¬ ((0 ≤ g2 b.claim t k ∧ g2 b.claim t k ≤ 1000) ∧ (0 ≤ g2 b.has t k ∧ g2 b.has t k ≤ g2 b.claim t k)) := fun ⟨t, k, h3, h4, h5⟩ => h5 (hok t k h3 h4)
  have hra : RdSl ⟨own ++ bkE r1 sf sc sh :: [e], ro⟩ sa (ints L) := RdSl.of_own (e := e) (by simp) oe
  refine ⟨sc, bkE_1 hE, fun h => h = ⟨own ++ bkE r1 sf sc sh :: [e], ro⟩ ∧ ∀ t k, t < b.claim.length → k < b.free.length → g2 b.claim t k ≤ ball b k,
    ⟨fun n i h => ∃ t : Nat, i = (t : Int) ∧ t ≤ b.claim.length ∧ n = b.claim.length - t ∧ h = ⟨own ++ bkE r1 sf sc sh :: [e], ro⟩ ∧ ∀ s k, s < t → k < b.free.length → g2 b.claim s k ≤ ball b k, ⟨_, gi ⟨0, rfl, Nat.zero_le _, rfl, rfl, fun s k hs => by omega⟩⟩, ?_⟩, ?_⟩
  · rintro n _ i _ ⟨t, rfl, ht, rfl, rfl, hall⟩
    refine VIf_dec (fun hi => ?_) (fun hi => gi ⟨rfl, fun s k hs hk' => hall s k (by omega) hk'⟩)
    have htc : t < b.claim.length := by omega
    have hcl2 := (hsh t htc).1
    refine ⟨fun h => h = ⟨own ++ bkE r1 sf sc sh :: [e], ro⟩ ∧ ∀ k, k < b.free.length → g2 b.claim t k ≤ ball b k, ?_, ?_⟩
    · refine ⟨sc, bkE_1 hE, hup.ca (by omega) (by omega) fun xc hxc hlc => ?_⟩
      rw [Int.toNat_natCast] at hxc hlc
      refine ⟨fun h => h = ⟨own ++ bkE r1 sf sc sh :: [e], ro⟩ ∧ ∀ k, k < b.free.length → g2 b.claim t k ≤ ball b k,
        ⟨fun n i h => ∃ k : Nat, i = (k : Int) ∧ k ≤ b.free.length ∧ n = b.free.length - k ∧ h = ⟨own ++ bkE r1 sf sc sh :: [e], ro⟩ ∧ ∀ k', k' < k → g2 b.claim t k' ≤ ball b k', ⟨_, gi ⟨0, rfl, Nat.zero_le _, rfl, rfl, fun s hs => by omega⟩⟩, ?_⟩, ?_⟩
      rotate_left
      · rintro _ _ ⟨rfl, h⟩
        exact gi ⟨rfl, h⟩
      rintro n _ i _ ⟨k, rfl, hk', rfl, rfl, hall2⟩
      refine VIf_dec (fun hi => ?_) (fun hi => gi ⟨rfl, fun k' hk2 => hall2 k' (by omega)⟩)
      have hkf : k < b.free.length := by omega
      refine idxG hxc (by omega) (by omega) (idxG hra (by omega) (by omega) ?_)
      rw [Int.toNat_natCast, hLg k hkf]
      have e1 : gI ((b.claim[t]?).getD []) k = g2 b.claim t k := rfl
      rw [e1]
      refine VIf_dec (fun hgt => done ?_) (fun hle => ⟨⟨by omega, by omega⟩, b.free.length - (k + 1), by omega, gi ⟨k + 1, by omega, by omega, rfl, rfl, fun k' hk2 => ?_⟩⟩)
      · rw [bcheck, if_neg (by omega), if_neg h1, if_neg (by omega), if_neg n4, if_neg n5, if_neg n6, if_pos ⟨t, k, htc, hkf, by omega⟩]; rfl
      · by_cases he : k' = k
        · subst he; omega
        · exact hall2 k' (by omega)
    · rintro _ _ ⟨rfl, h⟩
      refine ⟨⟨by omega, by omega⟩, b.claim.length - (t + 1), by omega, gi ⟨t + 1, by omega, by omega, rfl, rfl, fun s k' hs hk' => ?_⟩⟩
      by_cases he : s = t
      · subst he; exact h k' hk'
      · exact hall s k' (by omega) hk'
  rintro _ _ ⟨rfl, h⟩
  refine done ?_
  rw [bcheck_zero.2 ⟨by omega, by omega, by omega, by omega, hsh, hfr, hok, h⟩]; rfl
end Go.Proofs.YtnppmcgmmdcpiaaDoor
