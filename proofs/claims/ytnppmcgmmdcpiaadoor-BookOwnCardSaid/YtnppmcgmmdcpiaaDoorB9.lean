import Derived.Test.YtnppmcgmmdcpiaaDoorB7
namespace Go.Proofs.YtnppmcgmmdcpiaaDoor
open Go.Eng
set_option maxRecDepth 20000
/-! ### the document's bank -/
theorem ref4_in_i {n lo hi : Int} {h : H} {post : Value → H → Prop} (h1 : ¬ (lo ≤ n ∧ n ≤ hi) → post (.bool false) h) (h2 : lo ≤ n → n ≤ hi → post (.bool true) h) : SemCall Tryd.prog 32 (List.toArray [.int .i64 n, .int .i64 lo, .int .i64 hi]) h post := by
  refine f32_call n lo hi h post ?_
  refine ⟨fun b h' => h' = h ∧ b = decide (lo ≤ n ∧ n ≤ hi), VIf_dec (fun hx => gi ⟨rfl, ?_⟩) (fun hx => gi ⟨rfl, ?_⟩), ?_⟩
  · have : lo ≤ n := hx; simp [this]
  · have : ¬ lo ≤ n := hx; simp [this]
  · rintro _ b h' ⟨rfl, rfl⟩
    by_cases h : lo ≤ n ∧ n ≤ hi
    · rw [decide_eq_true h]; exact ret (h2 h.1 h.2)
    · rw [decide_eq_false h]; exact ret (h1 h)
theorem ref4_all_c {b : Bk} {sf sc sh : SV} {k : Nat} {own : List Ent} {ro : Addr → Option Value} {post : Value → H → Prop} (hb : BkRd ⟨own, ro⟩ sf sc sh b) (hk' : k < b.free.length) (h5 : b.has.length ≤ 5) (hsh : ∀ t, t < b.has.length → ((b.has[t]?).getD []).length = b.free.length)
    (hf : 0 ≤ gI b.free k ∧ gI b.free k ≤ 1000) (hh : ∀ t, t < b.has.length → 0 ≤ g2 b.has t k ∧ g2 b.has t k ≤ 1000) (hk : post (.int .i64 (ball b k)) ⟨own, ro⟩) :
    SemCall Tryd.prog 33 (List.toArray [bkV sf sc sh, .int .i64 k]) ⟨own, ro⟩ post := by
  refine f33_call sf sc sh k _ post ?_
  intro r1 _
  simp only [add_mk', Nat.zero_add, Nat.add_zero]
  have hup : BkRd ⟨own ++ [bkE r1 sf sc sh], ro⟩ sf sc sh b := ha_all hb (fun e he => List.mem_append_left _ he)
  have hE : bkE r1 sf sc sh ∈ own ++ [bkE r1 sf sc sh] := by simp
  have hl := hb.hl
  refine ⟨sf, bkE_0 hE, idxG hup.f (by omega) (by omega) ?_⟩
  rw [Int.toNat_natCast]
  refine ⟨fun v h => v = ball b k ∧ h = ⟨own ++ [bkE r1 sf sc sh], ro⟩, ⟨fun n v i h => ∃ t : Nat, i = (t : Int) ∧ t ≤ b.has.length ∧ n = b.has.length - t ∧ v = ballT b t k ∧ h = ⟨own ++ [bkE r1 sf sc sh], ro⟩, ⟨_, gi ⟨0, rfl, Nat.zero_le _, rfl, rfl, rfl⟩⟩, ?_⟩, ?_⟩
  · rintro n _ v i _ ⟨t, rfl, ht, rfl, rfl, rfl⟩
    refine ⟨sh, bkE_2 hE, VIf_dec (fun hi => ?_) (fun hi => gi ⟨?_, rfl⟩)⟩
    rotate_left
    · have : t = b.has.length := by omega
      subst this; exact ballT_all
    have htl : t < b.has.length := by omega
    have hs := hsh t htl
    refine ⟨sh, bkE_2 hE, hup.ha (by omega) (by omega) fun xh hxh hlh => idxG hxh (by omega) (by rw [Int.toNat_natCast]; omega) ?_⟩
    have e2 : gI ((b.has[((t : Nat) : Int).toNat]?).getD []) ((k : Nat) : Int).toNat = g2 b.has t k := rfl
    rw [e2]
    have h6 := ballT_b hf (t := t) (by omega) (fun s hs => hh s (by omega))
    have h7 := hh t htl
    exact ⟨⟨by omega, by omega⟩, ⟨by omega, by omega⟩, b.has.length - (t + 1), by omega, gi ⟨t + 1, by omega, by omega, rfl, (ballT_succ htl).symm, rfl⟩⟩
  · rintro _ v _ ⟨rfl, rfl⟩
    exact ⟨⟨own, ro⟩, Gh.drop (by simp), hk⟩
set_option maxHeartbeats 800000 in
theorem ref4_bank_c {b : Bk} {sf sc sh : SV} {own : List Ent} {ro : Addr → Option Value} {post : Value → H → Prop} (hb : BkRd ⟨own, ro⟩ sf sc sh b)
    (hk : post (.int .i64 (bcheck b)) ⟨own, ro⟩) : SemCall Tryd.prog 20 (List.toArray [bkV sf sc sh]) ⟨own, ro⟩ post := by
  refine f20_call sf sc sh _ post ?_
  intro r1 _
  simp only [add_mk', Nat.zero_add, Nat.add_zero]
  have fl := hb.fl
  have cl := hb.cl
  have hl := hb.hl
  have hup : BkRd ⟨own ++ [bkE r1 sf sc sh], ro⟩ sf sc sh b := ha_all hb (fun e he => List.mem_append_left _ he)
  have hE : bkE r1 sf sc sh ∈ own ++ [bkE r1 sf sc sh] := by simp
  have done : ∀ {v : Int}, v = bcheck b → VRet ⟨own ++ [bkE r1 sf sc sh], ro⟩ (.int .i64 v) post := fun {v} hv => ⟨⟨own, ro⟩, Gh.drop (by simp), by rw [hv]; exact hk⟩
  refine ⟨sf, bkE_0 hE, VIf_eq (fun h0 => done ?_) (fun h0 => ?_)⟩
  · rw [bcheck, if_pos (by omega)]
  refine join_b (h := ⟨own ++ [bkE r1 sf sc sh], ro⟩) (decide (b.free.length > 3 ∨ b.claim.length > 5)) (VIf_dec (fun h1 => gi ⟨rfl, ?_⟩) (fun h1 => ⟨sc, bkE_1 hE, gi ⟨rfl, ?_⟩⟩)) ?_
  · exact (decide_eq_true (.inl (by omega))).symm
  · exact decide_eq_decide.2 ⟨fun h => .inr (by omega), fun h => by omega⟩
  refine VIf_dec (fun h1 => done ?_) (fun h1 => ?_)
  · rw [bcheck, if_neg (by omega), if_pos h1]
  simp only [add_mk', Nat.zero_add, Nat.add_zero]
  refine ⟨sh, bkE_2 hE, sc, bkE_1 hE, VIf_ne (fun h2 => done ?_) (fun h2 => ?_)⟩
  · rw [bcheck, if_neg (by omega), if_neg h1, if_pos (by omega)]
  refine ⟨fun h => h = ⟨own ++ [bkE r1 sf sc sh], ro⟩ ∧ ∀ t, t < b.claim.length → ((b.claim[t]?).getD []).length = b.free.length ∧ ((b.has[t]?).getD []).length = b.free.length,
    ⟨fun n i h => ∃ k : Nat, i = (k : Int) ∧ k ≤ b.claim.length ∧ n = b.claim.length - k ∧ h = ⟨own ++ [bkE r1 sf sc sh], ro⟩ ∧ ∀ t, t < k → ((b.claim[t]?).getD []).length = b.free.length ∧ ((b.has[t]?).getD []).length = b.free.length, ⟨_, gi ⟨0, rfl, Nat.zero_le _, rfl, rfl, fun j hj => by omega⟩⟩, ?_⟩, ?_⟩
  · rintro n _ i _ ⟨k, rfl, hk', rfl, rfl, hall⟩
    simp only [f20_L1, add_mk', Nat.zero_add, Nat.add_zero]
    refine ⟨sc, bkE_1 hE, VIf_dec (fun hi => ?_) (fun hi => gi ⟨rfl, fun t ht => hall t (by omega)⟩)⟩
    refine join_b (h := ⟨own ++ [bkE r1 sf sc sh], ro⟩) (decide (((b.claim[k]?).getD []).length ≠ b.free.length ∨ ((b.has[k]?).getD []).length ≠ b.free.length)) ⟨sc, bkE_1 hE, hup.ca (by omega) (by omega) fun xc hxc hlc => VIf_ne (fun h3 => gi ⟨rfl, ?_⟩) (fun h3 => ⟨sh, bkE_2 hE, hup.ha (by omega) (by omega) fun xh hxh hlh => gi ⟨rfl, ?_⟩⟩)⟩ ?_
    · rw [Int.toNat_natCast] at hlc
      exact (decide_eq_true (.inl (by omega))).symm
    · rw [Int.toNat_natCast] at hlc hlh
      rw [bne_dec]
      exact decide_eq_decide.2 (by omega)
    refine VIf_dec (fun h3 => done ?_) (fun h3 => ⟨⟨by omega, by omega⟩, b.claim.length - (k + 1), by omega, gi ⟨k + 1, by omega, by omega, rfl, rfl, fun t ht => ?_⟩⟩)
    · rw [bcheck, if_neg (by omega), if_neg h1, if_neg (by omega), if_pos ⟨k, by omega, h3⟩]
    · by_cases he : t = k
      · subst he; omega
      · exact hall t (by omega)
  rintro _ _ ⟨rfl, hsh⟩
  have n4 : ¬ ∃ t, t < b.claim.length ∧ (((b.claim[t]?).getD []).length ≠ b.free.length ∨ ((b.has[t]?).getD []).length ≠ b.free.length) := fun ⟨t, h3, h4⟩ => by have := hsh t h3; omega
  refine ⟨fun h => h = ⟨own ++ [bkE r1 sf sc sh], ro⟩ ∧ ∀ k, k < b.free.length → 0 ≤ gI b.free k ∧ gI b.free k ≤ 1000,
    ⟨fun n i h => ∃ k : Nat, i = (k : Int) ∧ k ≤ b.free.length ∧ n = b.free.length - k ∧ h = ⟨own ++ [bkE r1 sf sc sh], ro⟩ ∧ ∀ j, j < k → 0 ≤ gI b.free j ∧ gI b.free j ≤ 1000, ⟨_, gi ⟨0, rfl, Nat.zero_le _, rfl, rfl, fun j hj => by omega⟩⟩, ?_⟩, ?_⟩
  · rintro n _ i _ ⟨k, rfl, hk', rfl, rfl, hall⟩
    simp only [f20_L2, add_mk', Nat.zero_add, Nat.add_zero]
    refine VIf_dec (fun hi => ?_) (fun hi => gi ⟨rfl, fun t ht => hall t (by omega)⟩)
    refine ⟨sf, bkE_0 hE, idxG hup.f (by omega) (by omega) (ref4_in_i (fun hc => ⟨_, rfl, VIf_nb (fun _ => done ?_) (nomatch ·)⟩) (fun c0 c1 => ⟨_, rfl, VIf_nb (nomatch ·) (fun _ => ⟨⟨by omega, by omega⟩, b.free.length - (k + 1), by omega, gi ⟨k + 1, by omega, by omega, rfl, rfl, fun t ht => ?_⟩⟩)⟩))⟩
    · rw [Int.toNat_natCast] at hc
      rw [bcheck, if_neg (by omega), if_neg h1, if_neg (by omega), if_neg n4, if_pos ⟨k, by omega, hc⟩]
    · rw [Int.toNat_natCast] at c0 c1
      by_cases he : t = k
      · subst he; exact ⟨c0, c1⟩
      · exact hall t (by omega)
  rintro _ _ ⟨rfl, hfr⟩
  have n5 : ¬ ∃ k, k < b.free.length ∧ ¬ (0 ≤ gI b.free k ∧ gI b.free k ≤ 1000) := fun ⟨k, h3, h4⟩ => h4 (hfr k h3)
  let okc : Nat → Nat → Prop := fun t k => (0 ≤ g2 b.claim t k ∧ g2 b.claim t k ≤ 1000) ∧ (0 ≤ g2 b.has t k ∧ g2 b.has t k ≤ g2 b.claim t k)
  have bad6 : ∀ t k, t < b.claim.length → k < b.free.length → ¬ okc t k → 1 = bcheck b := fun t k ht hk' hc => by
    rw [bcheck, if_neg (by omega), if_neg h1, if_neg (by omega), if_neg n4, if_neg n5, if_pos ⟨t, k, ht, hk', hc⟩]
  refine ⟨fun h => h = ⟨own ++ [bkE r1 sf sc sh], ro⟩ ∧ ∀ t k, t < b.claim.length → k < b.free.length → okc t k,
    ⟨fun n i h => ∃ t : Nat, i = (t : Int) ∧ t ≤ b.claim.length ∧ n = b.claim.length - t ∧ h = ⟨own ++ [bkE r1 sf sc sh], ro⟩ ∧ ∀ s k, s < t → k < b.free.length → okc s k, ⟨_, gi ⟨0, rfl, Nat.zero_le _, rfl, rfl, fun s k hs => by omega⟩⟩, ?_⟩, ?_⟩
  · rintro n _ i _ ⟨t, rfl, ht, rfl, rfl, hok⟩
    simp only [f20_L4, add_mk', Nat.zero_add, Nat.add_zero]
    refine ⟨sc, bkE_1 hE, VIf_dec (fun hi => ?_) (fun hi => gi ⟨rfl, fun s k hs hk' => hok s k (by omega) hk'⟩)⟩
    have htc : t < b.claim.length := by omega
    have hcl2 := (hsh t htc).1
    have hhl2 := (hsh t htc).2
    refine ⟨fun h => h = ⟨own ++ [bkE r1 sf sc sh], ro⟩ ∧ ∀ k, k < b.free.length → okc t k, ⟨fun h => h = ⟨own ++ [bkE r1 sf sc sh], ro⟩ ∧ ∀ k, k < b.free.length → okc t k,
      ⟨fun n i h => ∃ k : Nat, i = (k : Int) ∧ k ≤ b.free.length ∧ n = b.free.length - k ∧ h = ⟨own ++ [bkE r1 sf sc sh], ro⟩ ∧ ∀ k', k' < k → okc t k', ⟨_, gi ⟨0, rfl, Nat.zero_le _, rfl, rfl, fun s hs => by omega⟩⟩, ?_⟩, ?_⟩, ?_⟩
    · rintro n _ i _ ⟨k, rfl, hk', rfl, rfl, hok2⟩
      simp only [f20_L3, add_mk', Nat.zero_add, Nat.add_zero]
      refine VIf_dec (fun hi => ?_) (fun hi => gi ⟨rfl, fun k' hk2 => hok2 k' (by omega)⟩)
      have hkf : k < b.free.length := by omega
      have e1 : gI ((b.claim[((t : Nat) : Int).toNat]?).getD []) ((k : Nat) : Int).toNat = g2 b.claim t k := rfl
      have e2 : gI ((b.has[((t : Nat) : Int).toNat]?).getD []) ((k : Nat) : Int).toNat = g2 b.has t k := rfl
      refine join_b (h := ⟨own ++ [bkE r1 sf sc sh], ro⟩) (decide (¬ okc t k)) ⟨sc, bkE_1 hE, hup.ca (by omega) (by omega) fun xc hxc hlc => idxG hxc (by omega) (by rw [Int.toNat_natCast]; omega) ?_⟩ ?_
      · rw [e1]
        refine ref4_in_i (fun hc => ⟨_, rfl, VIf_nb (fun _ => gi ⟨rfl, (decide_eq_true (p := ¬ okc t k) (fun h => hc h.1)).symm⟩) (nomatch ·)⟩) (fun c0 c1 => ⟨_, rfl, VIf_nb (nomatch ·) (fun _ => ?_)⟩)
        refine ⟨sh, bkE_2 hE, hup.ha (by omega) (by omega) fun xh hxh hlh => idxG hxh (by omega) (by rw [Int.toNat_natCast]; omega) ⟨sc, bkE_1 hE, hup.ca (by omega) (by omega) fun xc hxc hlc => idxG hxc (by omega) (by rw [Int.toNat_natCast]; omega) ?_⟩⟩
        rw [e1, e2]
        exact ref4_in_i (fun hc => ⟨_, rfl, gi ⟨rfl, (decide_eq_true (p := ¬ okc t k) (fun h => hc h.2)).symm⟩⟩) (fun d0 d1 => ⟨_, rfl, gi ⟨rfl, (decide_eq_false (fun hn => hn ⟨⟨c0, c1⟩, d0, d1⟩)).symm⟩⟩)
      refine VIf_dec (fun hc => done (bad6 t k htc hkf hc)) (fun hc => ⟨⟨by omega, by omega⟩, b.free.length - (k + 1), by omega, gi ⟨k + 1, by omega, by omega, rfl, rfl, fun k' hk2 => ?_⟩⟩)
      by_cases he : k' = k
      · subst he; exact Classical.byContradiction hc
      · exact hok2 k' (by omega)
    · rintro _ _ h; exact gi h
    · rintro _ _ ⟨rfl, h⟩
      refine ⟨⟨by omega, by omega⟩, b.claim.length - (t + 1), by omega, gi ⟨t + 1, by omega, by omega, rfl, rfl, fun s k' hs hk' => ?_⟩⟩
      by_cases he : s = t
      · subst he; exact h k' hk'
      · exact hok s k' (by omega) hk'
  rintro _ _ ⟨rfl, hok⟩
  have n6 : ¬ ∃ t k, t < b.claim.length ∧ k < b.free.length ∧ ¬ ((0 ≤ g2 b.claim t k ∧ g2 b.claim t k ≤ 1000) ∧ (0 ≤ g2 b.has t k ∧ g2 b.has t k ≤ g2 b.claim t k)) := fun ⟨t, k, h3, h4, h5⟩ => h5 (hok t k h3 h4)
  refine ⟨fun h => h = ⟨own ++ [bkE r1 sf sc sh], ro⟩ ∧ ∀ t k, t < b.claim.length → k < b.free.length → g2 b.claim t k ≤ ball b k,
    ⟨fun n i h => ∃ t : Nat, i = (t : Int) ∧ t ≤ b.claim.length ∧ n = b.claim.length - t ∧ h = ⟨own ++ [bkE r1 sf sc sh], ro⟩ ∧ ∀ s k, s < t → k < b.free.length → g2 b.claim s k ≤ ball b k, ⟨_, gi ⟨0, rfl, Nat.zero_le _, rfl, rfl, fun s k hs => by omega⟩⟩, ?_⟩, ?_⟩
  · rintro n _ i _ ⟨t, rfl, ht, rfl, rfl, hall⟩
    simp only [f20_L6, add_mk', Nat.zero_add, Nat.add_zero]
    refine ⟨sc, bkE_1 hE, VIf_dec (fun hi => ?_) (fun hi => gi ⟨rfl, fun s k hs hk' => hall s k (by omega) hk'⟩)⟩
    have htc : t < b.claim.length := by omega
    have hcl2 := (hsh t htc).1
    refine ⟨fun h => h = ⟨own ++ [bkE r1 sf sc sh], ro⟩ ∧ ∀ k, k < b.free.length → g2 b.claim t k ≤ ball b k, ⟨fun h => h = ⟨own ++ [bkE r1 sf sc sh], ro⟩ ∧ ∀ k, k < b.free.length → g2 b.claim t k ≤ ball b k,
      ⟨fun n i h => ∃ k : Nat, i = (k : Int) ∧ k ≤ b.free.length ∧ n = b.free.length - k ∧ h = ⟨own ++ [bkE r1 sf sc sh], ro⟩ ∧ ∀ k', k' < k → g2 b.claim t k' ≤ ball b k', ⟨_, gi ⟨0, rfl, Nat.zero_le _, rfl, rfl, fun s hs => by omega⟩⟩, ?_⟩, ?_⟩, ?_⟩
    · rintro n _ i _ ⟨k, rfl, hk', rfl, rfl, hall2⟩
      simp only [f20_L5, add_mk', Nat.zero_add, Nat.add_zero]
      refine VIf_dec (fun hi => ?_) (fun hi => gi ⟨rfl, fun k' hk2 => hall2 k' (by omega)⟩)
      have hkf : k < b.free.length := by omega
      have e1 : gI ((b.claim[((t : Nat) : Int).toNat]?).getD []) ((k : Nat) : Int).toNat = g2 b.claim t k := rfl
      refine ⟨sc, bkE_1 hE, hup.ca (by omega) (by omega) fun xc hxc hlc => idxG hxc (by omega) (by rw [Int.toNat_natCast]; omega) ?_⟩
      rw [e1]
      refine ⟨sf, bkE_0 hE, sc, bkE_1 hE, sh, bkE_2 hE, ref4_all_c hup hkf (by omega) (fun t ht => (hsh t (by omega)).2) (hfr k hkf) (fun t ht => by have h9 := hok t k (by omega) hkf; exact ⟨h9.2.1, Int.le_trans h9.2.2 h9.1.2⟩) ⟨⟨[], by simp⟩, _, rfl, ?_⟩⟩
      refine VIf_dec (fun hgt => done ?_) (fun hle => ⟨⟨by omega, by omega⟩, b.free.length - (k + 1), by omega, gi ⟨k + 1, by omega, by omega, rfl, rfl, fun k' hk2 => ?_⟩⟩)
      · rw [bcheck, if_neg (by omega), if_neg h1, if_neg (by omega), if_neg n4, if_neg n5, if_neg n6, if_pos ⟨t, k, htc, hkf, by omega⟩]
      · by_cases he : k' = k
        · subst he; omega
        · exact hall2 k' (by omega)
    · rintro _ _ h; exact gi h
    · rintro _ _ ⟨rfl, h⟩
      refine ⟨⟨by omega, by omega⟩, b.claim.length - (t + 1), by omega, gi ⟨t + 1, by omega, by omega, rfl, rfl, fun s k' hs hk' => ?_⟩⟩
      by_cases he : s = t
      · subst he; exact h k' hk'
      · exact hall s k' (by omega) hk'
  rintro _ _ ⟨rfl, h⟩
  exact done (bcheck_zero.2 ⟨by omega, by omega, by omega, by omega, hsh, hfr, hok, h⟩).symm
/-! #### rows by search -/
def bended (b : Bk) (t : Nat) : Bk := ⟨badd b b.free t, b.claim, b.has.set t (List.replicate b.free.length 0)⟩
structure BS (b0 b : Bk) (told : List Nat) : Prop where
  c : b.claim = b0.claim
  f : b.free = bfree b0 told
  hl : b.has.length = b0.claim.length
  hr : ∀ t, t < b0.claim.length → ((b.has[t]?).getD []).length = b0.free.length
  hg : ∀ t k, t < b0.claim.length → k < b0.free.length → t ∉ told → g2 b.has t k = g2 b0.has t k
theorem BS.start {b : Bk} (ho : BOk b) : BS b b [] := ⟨rfl, rfl, ho.hl, fun t ht => (ho.cn t ht).2, fun _ _ _ _ _ => rfl⟩
theorem BS.go {b0 b : Bk} {told : List Nat} (h : BS b0 b told) {t : Nat} (ht : t < b0.claim.length) (hn : t ∉ told) : BS b0 (bended b t) (told ++ [t]) := by
  have hl := h.hl
  have hfl : b.free.length = b0.free.length := by rw [h.f, bfree_len]
  refine ⟨h.c, ?_, by simp [bended, hl], fun u hu => ?_, fun u k hu hk hnu => ?_⟩
  · show badd b b.free t = _
    rw [bfree_app, ← h.f]
    refine gI_ext (by rw [badd_len, badd_len]) fun k hk => ?_
    rw [badd_len] at hk
    rw [badd_get hk, badd_get hk, h.hg t k ht (by omega) hn]
  · show ((b.has.set t _)[u]?.getD []).length = _
    by_cases he : u = t
    · subst he; rw [List.getElem?_set_self (by omega)]; simp [hfl]
    · rw [List.getElem?_set_ne (fun e => he e.symm)]; exact h.hr u hu
  · show g2 (b.has.set t _) u k = _
    have hne : u ≠ t := fun e => hnu (by simp [e])
    rw [g2_set (by omega), if_neg hne]
    exact h.hg u k hu hk (fun hm => hnu (by simp [hm]))
theorem BS.ends {b0 b : Bk} {told : List Nat} (h : BS b0 b told) {t : Nat} (ht : t < b0.claim.length) (hn : t ∉ told) : bends b b.free t = bends b0 (bfree b0 told) t := by
  have e : ∀ {x y : Bool}, (x = true ↔ y = true) → x = y := fun {x y} h => by cases x <;> cases y <;> simp_all
  refine e ?_
  rw [bends_iff, bends_iff, h.f, h.c]
  have hfl := bfree_len b0 told
  exact ⟨fun hk k hl => by have := hk k hl; rwa [h.hg t k ht (by omega) hn] at this, fun hk k hl => by rw [h.hg t k ht (by omega) hn]; exact hk k hl⟩
end Go.Proofs.YtnppmcgmmdcpiaaDoor
