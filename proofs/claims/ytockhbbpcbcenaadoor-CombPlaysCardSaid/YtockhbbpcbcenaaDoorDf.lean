import Derived.Test.YtockhbbpcbcenaaDoorDe
import Derived.Test.YtockhbbpcbcenaaDoorEngJ
import Derived.Test.YtockhbbpcbcenaaDoorEngL
namespace Go.Proofs.YtockhbbpcbcenaaDoor
open Go.Eng
set_option maxRecDepth 20000
/-! ### any comb, played -/
theorem comb_halves_c {p : Nat} {m : List Int} {L own : List Ent} {ro : Addr → Option Value} {post : Value → H → Prop} (hs : CombAt p m L) (hL : ∀ e ∈ L, e ∈ own) (hm : COk m)
    (hk : ∀ (s' : SV) (e' : Ent), OwnsSl 1 s' e' (ints [gI m 1, gI m 10]) → post (.tuple (List.toArray [.slice s'.a s'.len s'.cap, .int .i64 (gI m 37)])) ⟨own ++ [e'], ro⟩) :
    SemCall Tryd.prog 13 (List.toArray [.pointer (some (Addr.mk p 0 none))]) ⟨own, ro⟩ post := by
  refine f13_call _ _ post ?_
  obtain ⟨hb, n0, n4, hw⟩ := hm
  obtain ⟨hl, c, rfl⟩ := hs
  simp only [f13_sem, add_mk', Option.some.injEq, exists_eq_left', Nat.zero_add, Nat.add_zero, Nat.mul_one, Int.toNat_zero, Int.toNat_one, Nat.zero_mul, Nat.one_mul]
  have rI0 : ∀ (k : Nat), k < 59 → H.rd ⟨own, ro⟩ (Addr.mk p k none) (.int .i64 (gI m k)) := fun k hk => rd_gI ⟨some p, ints m, c⟩ (hL _ (by simp)) rfl rfl (by omega)
  refine ⟨by omega, by omega, by omega, by omega, _, rI0 1 (by omega), _, rI0 10 (by omega), _, rI0 37 (by omega), ?_⟩
  intro r7 _
  refine clone_c (s := ⟨some (Addr.mk r7 0 none), 2, 2⟩) (xs := [gI m 1, gI m 10]) (RdSl.of_own (e := ⟨some r7, [.int .i64 (gI m 1), .int .i64 (gI m 10)], 2⟩) (by simp) (OwnsSl.at0 1 (by simp [ints]) (by simp) (by simp [maxLen]))) (by simp) (fun s' e' o => ⟨⟨[e'], by simp⟩, s', rfl, ?_⟩)
  exact ⟨⟨own ++ [e'], ro⟩, Gh.drop (by simp), hk s' e' o⟩
theorem cstp_n (c : CS) (k : Nat) : (cstp c k).1.n = c.n := by
  unfold cstp
  repeat' split
  all_goals rfl
def CcSt (p r n : Nat) (ro : Addr → Option Value) (i : Int) (h : H) : Prop :=
  ∃ L c m Nw Su As At Ad Nu ro', h = ⟨L ++ [ccE r n Nw Su c.W c.K As At Ad Nu], ro'⟩ ∧ (∀ a v, ro a = some v → ro' a = some v) ∧ CcR ro' n c Nw Su As At Ad Nu ∧ CombAt p m L ∧ CRel c m ∧ CI c i ∧ c.n = n
theorem CcSt.mono {p r n : Nat} {ro : Addr → Option Value} {i j : Int} {h : H} (hs : CcSt p r n ro i h) (hj : i ≤ j) : CcSt p r n ro j h := by
  obtain ⟨L, c, m, Nw, Su, As, At, Ad, Nu, ro', e, hm, hR, hs, hr, hc, hn⟩ := hs
  exact ⟨L, c, m, Nw, Su, As, At, Ad, Nu, ro', e, hm, hR, hs, hr, hc.mono hj, hn⟩
theorem rows_up {ro ro' : Addr → Option Value} {st : SV} {rows : List (SV × List Int)} (hr : RdRowsOf ⟨[], ro⟩ st rows) (h : ∀ a v, ro a = some v → ro' a = some v) {own : List Ent} : RdRowsOf ⟨own, ro'⟩ st rows := hr.mono (by simp) h
set_option maxHeartbeats 4000000 in
theorem combPlays_c {n : Int} {st : SV} {rows : List (SV × List Int)} {ro : Addr → Option Value} {post : Value → H → Prop} (hG : HasErrT ro) (hr : RdRowsOf ⟨[], ro⟩ st rows) (hpost : ∀ h, post (.bool true) h) :
    SemCall Tryd.prog 3 (List.toArray [.int .i64 n, .slice st.a st.len st.cap]) ⟨[], ro⟩ post := by
  refine f3_call _ _ _ post ?_
  refine comb_new_c (fun hc => ⟨_, _, rfl, join_or ?_⟩) (fun p L hs c0 c1 => ⟨_, none, rfl, join_or ?_⟩)
  · rw [show decide (n < 1 ∨ n > 4) = true from decide_eq_true (by omega)]
    exact VIf_b (fun _ => same_error_c hG ⟨_, rfl, ret (hpost _)⟩) (nomatch ·)
  rw [show decide (n < 1 ∨ n > 4) = false from decide_eq_false (by omega)]
  obtain ⟨N0, rfl⟩ : ∃ N : Nat, n = (N : Int) := ⟨n.toNat, by omega⟩
  have hN4 : N0 ≤ 4 := by omega
  refine VIf_b (nomatch ·) (fun _ => VIf_nnil (ref4_new_c hN4 (fun Nw Su As At Ad Nu ro0 hm0 hR0 => ⟨N0, Nw, Su, 0, 0, As, At, Ad, Nu, rfl, ?_⟩)))
  rw [List.nil_append]
  intro r _
  refine cc_put (r := r) (a0 := N0) (a1 := Nw) (a2 := Su) (a3 := 0) (a4 := 0) (a5 := As) (a6 := At) (a7 := Ad) (a8 := Nu) (z0 := 0) (z1 := ⟨none, 0, 0⟩) (z2 := ⟨none, 0, 0⟩) (z3 := 0) (z4 := 0) (z5 := ⟨none, 0, 0⟩) (z6 := ⟨none, 0, 0⟩) (z7 := ⟨none, 0, 0⟩) (z8 := ⟨none, 0, 0⟩) L [] rfl ?_
  refine ⟨fun h => CcSt p r N0 ro 900 h, ⟨fun m i h => CcSt p r N0 ro (i * 3) h ∧ 0 ≤ i ∧ i ≤ 300 ∧ m = (300 - i).toNat, ⟨300, gi ⟨⟨L, cs0 N0, comb0 N0, Nw, Su, As, At, Ad, Nu, ro0, rfl, hm0, hR0, hs, CRel.start N0, (CI.start c0 c1).mono (by omega), rfl⟩, by omega, by omega, rfl⟩⟩, ?_⟩, ?_⟩
  rotate_left
  · rintro _ _ ⟨L, c, m, Nw, Su, As, At, Ad, Nu, ro', rfl, hm, hR, hs, hr, hc, hn⟩
    have hok := hr.ok hc (by omega)
    have hn0 : gI m 0 = N0 := by rw [hr.n, hn]
    refine comb_done_c hs (fun _ h => by simp [h]) hok ⟨_, _, rfl, ?_⟩
    rw [if_neg (by omega), if_neg (by omega)]
    refine ⟨fun x h => x = true, ?_, fun _ x h hx => by rw [hx]; exact ret (hpost _)⟩
    refine VIf_eq (fun _ => VIf_eq (fun _ => ?_) (fun h => absurd rfl h)) (fun h => absurd rfl h)
    refine comb_at_c hs (fun _ h => by simp [h]) hok ⟨_, rfl, ?_⟩
    rw [if_neg (by omega)]
    exact gi rfl
  clear hs hR0
  rintro _ _ i _ ⟨hS, hi0, hi1, rfl⟩
  refine join_and (VIf_dec (fun hc => ?_) (fun _ => gi (hS.mono (by omega))))
  refine ⟨fun h => CcSt p r N0 ro (i * 3 + 3) h, ?_, fun _ h hS => ⟨⟨by omega, by omega⟩, _, by omega, gi ⟨hS.mono (by omega), by omega, by omega, rfl⟩⟩⟩
  obtain ⟨L, c, m, Nw, Su, As, At, Ad, Nu, ro', rfl, hm, hR, hs, hrel, hci, hn⟩ := hS
  refine RdRowsOf.idx (h := ⟨L ++ [ccE r N0 Nw Su c.W c.K As At Ad Nu], ro'⟩) (rows_up hr hm) hi0 hc.1 (fun l ys hly _ => ?_)
  have rd : ∀ {own ro2}, (∀ a v, ro a = some v → ro2 a = some v) → RdSl ⟨own, ro2⟩ l (ints ys) := fun {own ro2} h => (rows_up hr (own := own) h).2 (l, ys) (List.mem_of_getElem? hly)
  have hyl : l.len = ys.length := by have := (rd (own := []) hm).len; rwa [ints_length] at this
  -- what is told behind it
  have fin : ∀ h, CcSt p r N0 ro (i * 3 + 3) h → f3_J2 (N0 : Int) post (some (Addr.mk p 0 none)) r (fun h => CcSt p r N0 ro (i * 3 + 3) h) h := by
    rintro _ ⟨L, c, m, Nw, Su, As, At, Ad, Nu, ro', rfl, hm, hR, hs, hrel, hci, hn⟩
    have hS : CcSt p r N0 ro (i * 3 + 3) ⟨L ++ [ccE r N0 Nw Su c.W c.K As At Ad Nu], ro'⟩ := ⟨L, c, m, Nw, Su, As, At, Ad, Nu, ro', rfl, hm, hR, hs, hrel, hci, hn⟩
    have hok := hrel.ok hci (by omega)
    have hW := hci.w
    have hn0 : gI m 0 = N0 := by rw [hrel.n, hn]
    have hWm : gI m 37 = (c.W : Int) := hrel.W
    have hWn : (gI m 37).toNat = c.W := by rw [hWm]; simp
    have e1 : gI m 1 = c.S 0 := hrel.S 0 (by omega)
    have e10 : gI m 10 = c.S 1 := hrel.S 1 (by omega)
    have eW : gI m (1 + (gI m 37).toNat * 9) = c.S c.W := by rw [hWn]; exact hrel.S c.W hW
    refine comb_halves_c hs (fun _ h => by simp [h]) hok (fun s' e' o => ⟨s', _, rfl, ?_⟩)
    rw [e1, e10] at o
    refine ⟨fun b h => b = false ∧ h = ⟨L ++ [ccE r N0 Nw Su c.W c.K As At Ad Nu], ro'⟩, ?_, ?_⟩
    · refine rS0 (ccE r N0 Nw Su c.W c.K As At Ad Nu) (by simp) rfl rfl (rI0 (ccE r N0 Nw Su c.W c.K As At Ad Nu) (by simp) rfl rfl (two_at hR.nw hW rfl (fun x hx => rm_ati hx (k := 0) (by omega) rfl ?_)))
      refine comb_sum_c hs (fun _ h => by simp [h]) hok ⟨⟨[], by simp⟩, _, rfl, ?_⟩
      rw [eW]
      refine VIf_ne (fun h => absurd rfl h) (fun _ => rI0 (ccE r N0 Nw Su c.W c.K As At Ad Nu) (by simp) rfl rfl (VIf_ne (fun h => absurd hWm h) (fun _ => ?_)))
      refine rS0 (ccE r N0 Nw Su c.W c.K As At Ad Nu) (by simp) rfl rfl (two_at hR.nw (w := 0) (by omega) rfl (fun x0 hx0 => rm_ati hx0 (k := 0) (by omega) rfl ?_))
      refine rS0 (ccE r N0 Nw Su c.W c.K As At Ad Nu) (by simp) rfl rfl (two_at hR.nw (w := 1) (by omega) rfl (fun x1 hx1 => rm_ati hx1 (k := 0) (by omega) rfl ?_))
      intro r2 _
      refine same_ints_c (xs := [c.S 0, c.S 1]) (ys := [c.S 0, c.S 1]) (s2 := ⟨some (Addr.mk r2 0 none), 2, 2⟩) (RdSl.of_own (e := e') (by simp) o) (RdSl.of_own (e := ⟨some r2, [.int .i64 (c.S 0), .int .i64 (c.S 1)], 2⟩) (by simp; exact .inr (.inr (.inr ⟨rfl, rfl⟩))) (OwnsSl.at0 1 (by simp [ints]) (by simp) (by simp [maxLen]))) (by have := o.sl_len; rw [ints_length] at this; simp at this; omega) ⟨_, rfl, ?_⟩
      exact ⟨_, Gh.drop (by simp), by simp, rfl⟩
    rintro _ b _ ⟨rfl, rfl⟩
    refine VIf_b (nomatch ·) (fun _ => ?_)
    refine ⟨fun h => CcSt p r N0 ro (i * 3 + 3) h, ⟨fun m k h => h = ⟨L ++ [ccE r N0 Nw Su c.W c.K As At Ad Nu], ro'⟩ ∧ 0 ≤ k ∧ k ≤ N0 ∧ m = (N0 - k).toNat, ⟨_, gi ⟨rfl, by omega, by omega, rfl⟩⟩, ?_⟩, fun _ h hS => gi hS⟩
    rintro _ _ k _ ⟨rfl, k0, k1, rfl⟩
    refine VIf_dec (fun hk => ?_) (fun _ => gi hS)
    obtain ⟨q, rfl⟩ : ∃ q : Nat, k = (q : Int) := ⟨k.toNat, by omega⟩
    have hq : q < N0 := by omega
    refine comb_done_c hs (fun _ h => by simp [h]) hok ⟨_, _, rfl, ?_⟩
    rw [if_pos (by omega), if_pos (by omega), Int.toNat_natCast, hWn]
    have eD : gI m (2 + c.W * 9 + q) = c.D c.W q := by rw [← hrel.D c.W q hW (by omega)]; congr 1; omega
    have eG : gI m (6 + c.W * 9 + q) = c.G c.W q := by rw [← hrel.G c.W q hW (by omega)]; congr 1; omega
    rw [eD, eG]
    refine ⟨fun b h => b = false ∧ h = ⟨L ++ [ccE r N0 Nw Su c.W c.K As At Ad Nu], ro'⟩, ⟨⟨by omega, by omega⟩, ⟨by omega, by omega⟩, ?_⟩, ?_⟩
    · refine rS0 (ccE r N0 Nw Su c.W c.K As At Ad Nu) (by simp) rfl rfl (rI0 (ccE r N0 Nw Su c.W c.K As At Ad Nu) (by simp) rfl rfl (two_at hR.nw hW rfl (fun x hx => rm_ati hx (k := 1 + 2 * q) (by omega) (by omega) ?_)))
      rw [cF_d]
      refine VIf_ne (fun h => absurd rfl h) (fun _ => ⟨⟨by omega, by omega⟩, ⟨by omega, by omega⟩, ?_⟩)
      refine rS0 (ccE r N0 Nw Su c.W c.K As At Ad Nu) (by simp) rfl rfl (rI0 (ccE r N0 Nw Su c.W c.K As At Ad Nu) (by simp) rfl rfl (two_at hR.nw hW rfl (fun x hx => rm_ati hx (k := 2 + 2 * q) (by omega) (by omega) ?_)))
      rw [cF_g]
      refine VIf_ne (fun h => absurd rfl h) (fun _ => rS0 (ccE r N0 Nw Su c.W c.K As At Ad Nu) (by simp) rfl rfl (rm_ati hR.ln hq rfl ?_))
      refine comb_at_c hs (fun _ h => by simp [h]) hok ⟨⟨[], by simp⟩, _, rfl, ?_⟩
      rw [if_pos (by omega), Int.toNat_natCast, hrel.hL q (by omega)]
      exact gi ⟨by simp, rfl⟩
    rintro _ b _ ⟨rfl, rfl⟩
    exact VIf_b (nomatch ·) (fun _ => ⟨⟨by omega, by omega⟩, _, by omega, gi ⟨rfl, by omega, by omega, rfl⟩⟩)
  -- begun
  refine ⟨fun h => CcSt p r N0 ro (i * 3 + 1) h, VIf_eq (fun hl2 => ?_) (fun _ => gi ⟨L, c, m, Nw, Su, As, At, Ad, Nu, ro', rfl, hm, hR, hs, hrel, hci.mono (by omega), hn⟩), ?_⟩
  · obtain ⟨bb, hb⟩ := (rd (own := []) hm).addr (by simp; omega)
    have rd0 : ∀ {own ro2}, (∀ a v, ro a = some v → ro2 a = some v) → H.rd ⟨own, ro2⟩ (Addr.add (Addr.add bb (((0 : Int)).toNat * 1)) 0) (Value.int .i64 (gI ys 0)) := fun {own ro2} h => (rd (own := own) h).rdi hb (gI_ex (by omega))
    have rd1 : ∀ {own ro2}, (∀ a v, ro a = some v → ro2 a = some v) → H.rd ⟨own, ro2⟩ (Addr.add (Addr.add bb (((1 : Int)).toNat * 1)) 0) (Value.int .i64 (gI ys 1)) := fun {own ro2} h => (rd (own := own) h).rdi hb (gI_ex (by omega))
    refine ⟨bb, hb, by omega, by omega, bb, hb, by omega, by omega, cc_get (a0 := N0) (a1 := Nw) (a2 := Su) (a3 := c.W) (a4 := c.K) (a5 := As) (a6 := At) (a7 := Ad) (a8 := Nu) (by simp) ⟨_, rd0 hm, _, rd1 hm, ?_⟩⟩
    refine SemCall.mono (p := fun w2 h => ∃ e c' m' At' Ad' Nu' ro2, w2 = ccP e N0 Nw Su c'.W c'.K As At' Ad' Nu' ∧ h = ⟨L ++ [ccE r N0 Nw Su c.W c.K As At Ad Nu], ro2⟩ ∧ (∀ a v, ro' a = some v → ro2 a = some v) ∧ CcR ro2 N0 c' Nw Su As At' Ad' Nu' ∧ combBegin m (gI ys 0) (gI ys 1) = (m', e) ∧ CRel c' m' ∧ CI c' (i * 3 + 1) ∧ c'.n = N0) ?_ ?_
    · refine ref4_begin_c hR hci (by omega) hn (fun h1 => ?_) (fun k hk hkn ha hz => ?_) (fun k hk hkn ha hz At' Ad' Nu' ro2 q2 hR2 => ?_)
      · exact ⟨1, c, m, At, Ad, Nu, ro', rfl, rfl, fun _ _ h => h, hR, comb_begin1 hrel hci (by rw [hn]; exact h1), hrel, hci.mono (by omega), hn⟩
      · rw [hk]
        exact ⟨7, c, m, At, Ad, Nu, ro', rfl, rfl, fun _ _ h => h, hR, comb_begin7 hrel hci (by omega) ha hz, hrel, hci.mono (by omega), hn⟩
      · rw [hk]
        obtain ⟨b1, b2, b3⟩ := comb_begin0 (k := k) hrel hci (by omega) ha hz
        exact ⟨0, cBg c k (gI ys 1), _, At', Ad', Nu', ro2, rfl, rfl, q2, hR2, Prod.ext rfl b1, b2, b3, hn⟩
    rintro _ _ ⟨e, c', m', At', Ad', Nu', ro2, rfl, rfl, q2, hR2, hcb, hrel', hci', hn'⟩
    have hm2 : ∀ a v, ro a = some v → ro2 a = some v := fun a v h => q2 a v (hm a v h)
    refine ⟨⟨[], by simp⟩, N0, Nw, Su, c'.W, c'.K, As, At', Ad', Nu', e, rfl, fun rn _ => ?_⟩
    refine cc_put (r := rn) (a0 := N0) (a1 := Nw) (a2 := Su) (a3 := c'.W) (a4 := c'.K) (a5 := As) (a6 := At') (a7 := Ad') (a8 := Nu') (z0 := 0) (z1 := ⟨none, 0, 0⟩) (z2 := ⟨none, 0, 0⟩) (z3 := 0) (z4 := 0) (z5 := ⟨none, 0, 0⟩) (z6 := ⟨none, 0, 0⟩) (z7 := ⟨none, 0, 0⟩) (z8 := ⟨none, 0, 0⟩) (L ++ [ccE r N0 Nw Su c.W c.K As At Ad Nu]) [] rfl ?_
    refine cc_get (r := rn) (a0 := N0) (a1 := Nw) (a2 := Su) (a3 := c'.W) (a4 := c'.K) (a5 := As) (a6 := At') (a7 := Ad') (a8 := Nu') (by simp) ?_
    refine cc_put (r := r) (a0 := N0) (a1 := Nw) (a2 := Su) (a3 := c'.W) (a4 := c'.K) (a5 := As) (a6 := At') (a7 := Ad') (a8 := Nu') (z0 := N0) (z1 := Nw) (z2 := Su) (z3 := c.W) (z4 := c.K) (z5 := As) (z6 := At) (z7 := Ad) (z8 := Nu) L [ccE rn N0 Nw Su c'.W c'.K As At' Ad' Nu'] (by simp) ?_
    refine ⟨bb, hb, by omega, by omega, bb, hb, by omega, by omega, _, rd0 hm2, _, rd1 hm2, ?_⟩
    refine comb_begin_c [] _ rfl hs (hrel.ok hci (by omega)) (fun L' hs' => ⟨_, rfl, same_error_c (hG.up hm2) ⟨_, rfl, ?_⟩⟩)
    rw [hcb] at hs' ⊢
    exact VIf_nb (fun h => absurd rfl (of_decide_eq_false h)) (fun _ => ⟨⟨L' ++ [ccE r N0 Nw Su c'.W c'.K As At' Ad' Nu'], ro2⟩, Gh.drop (by simp), L', c', m', Nw, Su, As, At', Ad', Nu', ro2, rfl, hm2, hR2, hs', hrel', hci', hn'⟩)
  clear hR hs hrel hci hn hm
  rintro _ _ ⟨L, c, m, Nw, Su, As, At, Ad, Nu, ro', rfl, hm, hR, hs, hrel, hci, hn⟩
  -- stepped
  refine ⟨fun h => CcSt p r N0 ro (i * 3 + 2) h, VIf_eq (fun hl1 => ?_) (fun _ => gi ⟨L, c, m, Nw, Su, As, At, Ad, Nu, ro', rfl, hm, hR, hs, hrel, hci.mono (by omega), hn⟩), ?_⟩
  · obtain ⟨bb, hb⟩ := (rd (own := []) hm).addr (by simp; omega)
    have rd0 : ∀ {own ro2}, (∀ a v, ro a = some v → ro2 a = some v) → H.rd ⟨own, ro2⟩ (Addr.add (Addr.add bb (((0 : Int)).toNat * 1)) 0) (Value.int .i64 (gI ys 0)) := fun {own ro2} h => (rd (own := own) h).rdi hb (gI_ex (by omega))
    refine ⟨bb, hb, by omega, by omega, cc_get (a0 := N0) (a1 := Nw) (a2 := Su) (a3 := c.W) (a4 := c.K) (a5 := As) (a6 := At) (a7 := Ad) (a8 := Nu) (by simp) ⟨_, rd0 hm, ?_⟩⟩
    refine SemCall.mono (p := fun w2 h => ∃ d g e c' m' Nw' Su' As' At' ro2, w2 = ccS d g e N0 Nw' Su' c'.W c'.K As' At' Ad Nu ∧ h = ⟨L ++ [ccE r N0 Nw Su c.W c.K As At Ad Nu], ro2⟩ ∧ (∀ a v, ro' a = some v → ro2 a = some v) ∧ CcR ro2 N0 c' Nw' Su' As' At' Ad Nu ∧ combStep m (gI ys 0) = (m', d, g, e) ∧ CRel c' m' ∧ CI c' (i * 3 + 2) ∧ c'.n = N0) ?_ ?_
    · by_cases hin : ¬ (0 ≤ gI ys 0 ∧ gI ys 0 ≤ (N0 : Int) - 1)
      · exact ref4_step1_c hN4 hin ⟨false, 0, 1, c, m, Nw, Su, As, At, ro', rfl, rfl, fun _ _ h => h, hR, comb_line0 hrel hci (by rw [hn]; exact hin), hrel, hci.mono (by omega), hn⟩
      obtain ⟨k, hk⟩ : ∃ k : Nat, gI ys 0 = (k : Int) := ⟨(gI ys 0).toNat, by omega⟩
      have hkn : k < N0 := by omega
      rw [hk]
      by_cases h0 : c.hL k = 0
      · exact ref4_step7_c hR hN4 hkn h0 ⟨false, 0, 7, c, m, Nw, Su, As, At, ro', rfl, rfl, fun _ _ h => h, hR, comb_line7 hrel hci (by omega) h0, hrel, hci.mono (by omega), hn⟩
      · obtain ⟨b1, b2, b3⟩ := comb_line2 (k := k) hrel hci (by omega) h0
        have hn2 := cstp_n c k
        exact ref4_step_c hR hci (by omega) hn hkn h0 (fun Nw' Su' As' At' ro2 q2 hR2 => ⟨_, _, 0, _, _, Nw', Su', As', At', ro2, rfl, rfl, q2, hR2, Prod.ext rfl b1, b2, b3.mono (by omega), hn2.trans hn⟩)
    rintro _ _ ⟨d, g, e, c', m', Nw', Su', As', At', ro2, rfl, rfl, q2, hR2, hcb, hrel', hci', hn'⟩
    have hm2 : ∀ a v, ro a = some v → ro2 a = some v := fun a v h => q2 a v (hm a v h)
    refine ⟨⟨[], by simp⟩, N0, Nw', Su', c'.W, c'.K, As', At', Ad, Nu, d, g, e, rfl, fun rn _ => ?_⟩
    refine cc_put (r := rn) (a0 := N0) (a1 := Nw') (a2 := Su') (a3 := c'.W) (a4 := c'.K) (a5 := As') (a6 := At') (a7 := Ad) (a8 := Nu) (z0 := 0) (z1 := ⟨none, 0, 0⟩) (z2 := ⟨none, 0, 0⟩) (z3 := 0) (z4 := 0) (z5 := ⟨none, 0, 0⟩) (z6 := ⟨none, 0, 0⟩) (z7 := ⟨none, 0, 0⟩) (z8 := ⟨none, 0, 0⟩) (L ++ [ccE r N0 Nw Su c.W c.K As At Ad Nu]) [] rfl ?_
    refine cc_get (r := rn) (a0 := N0) (a1 := Nw') (a2 := Su') (a3 := c'.W) (a4 := c'.K) (a5 := As') (a6 := At') (a7 := Ad) (a8 := Nu) (by simp) ?_
    refine cc_put (r := r) (a0 := N0) (a1 := Nw') (a2 := Su') (a3 := c'.W) (a4 := c'.K) (a5 := As') (a6 := At') (a7 := Ad) (a8 := Nu) (z0 := N0) (z1 := Nw) (z2 := Su) (z3 := c.W) (z4 := c.K) (z5 := As) (z6 := At) (z7 := Ad) (z8 := Nu) L [ccE rn N0 Nw' Su' c'.W c'.K As' At' Ad Nu] (by simp) ?_
    refine ⟨bb, hb, by omega, by omega, _, rd0 hm2, ?_⟩
    refine comb_step_c [] _ rfl hs (hrel.ok hci (by omega)) (hrel.ok9 hci (by omega)) (fun L' hs' => ⟨_, _, _, rfl, ?_⟩)
    rw [hcb] at hs' ⊢
    refine ⟨fun b h => b = false ∧ CcSt p r N0 ro (i * 3 + 2) h, same_error_c (hG.up hm2) ⟨_, rfl, VIf_nb (fun h => absurd rfl (of_decide_eq_false h)) (fun _ => VIf_nb (fun h => by simp at h) (fun _ => ?_))⟩, ?_⟩
    · exact ⟨⟨L' ++ [ccE r N0 Nw' Su' c'.W c'.K As' At' Ad Nu], ro2⟩, Gh.drop (by simp), by simp, L', c', m', Nw', Su', As', At', Ad, Nu, ro2, rfl, hm2, hR2, hs', hrel', hci', hn'⟩
    · rintro _ b _ ⟨rfl, hS⟩
      exact VIf_b (nomatch ·) (fun _ => gi hS)
  clear hR hs hrel hci hn hm
  rintro _ _ ⟨L, c, m, Nw, Su, As, At, Ad, Nu, ro', rfl, hm, hR, hs, hrel, hci, hn⟩
  -- crashed
  refine ⟨fun h => CcSt p r N0 ro (i * 3 + 3) h, VIf_eq (fun hl3 => ?_) (fun _ => gi ⟨L, c, m, Nw, Su, As, At, Ad, Nu, ro', rfl, hm, hR, hs, hrel, hci.mono (by omega), hn⟩), fun _ h hS => fin h hS⟩
  obtain ⟨bb, hb⟩ := (rd (own := []) hm).addr (by simp; omega)
  have rd2 : ∀ {own ro2}, (∀ a v, ro a = some v → ro2 a = some v) → H.rd ⟨own, ro2⟩ (Addr.add (Addr.add bb (((2 : Int)).toNat * 1)) 0) (Value.int .i64 (gI ys 2)) := fun {own ro2} h => (rd (own := own) h).rdi hb (gI_ex (by omega))
  refine cc_get (a0 := N0) (a1 := Nw) (a2 := Su) (a3 := c.W) (a4 := c.K) (a5 := As) (a6 := At) (a7 := Ad) (a8 := Nu) (by simp) ⟨bb, hb, by omega, by omega, _, rd2 hm, ?_⟩
  refine ref4_crash_c hR hN4 (fun Nw' Su' As' At' Ad' Nu' ro2 q2 hR2 => ⟨N0, Nw', Su', c.W, 0, As', At', Ad', Nu', rfl, ?_⟩)
  have hm2 : ∀ a v, ro a = some v → ro2 a = some v := fun a v h => q2 a v (hm a v h)
  refine cc_put (r := r) (a0 := N0) (a1 := Nw') (a2 := Su') (a3 := c.W) (a4 := 0) (a5 := As') (a6 := At') (a7 := Ad') (a8 := Nu') (z0 := N0) (z1 := Nw) (z2 := Su) (z3 := c.W) (z4 := c.K) (z5 := As) (z6 := At) (z7 := Ad) (z8 := Nu) L [] (by simp) ?_
  refine ⟨bb, hb, by omega, by omega, _, rd2 hm2, ?_⟩
  refine comb_crash_c [] _ rfl hs (fun L' hs' => ⟨rfl, gi ⟨L', csCrash c (gI ys 2 == 1), _, Nw', Su', As', At', Ad', Nu', ro2, rfl, hm2, hR2, hs', hrel.crash _, (hci.crash _).mono (by omega), hn⟩⟩)
end Go.Proofs.YtockhbbpcbcenaaDoor
