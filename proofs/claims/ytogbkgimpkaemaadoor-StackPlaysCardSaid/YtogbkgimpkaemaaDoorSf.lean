import Derived.Test.YtogbkgimpkaemaaDoorSe
import Derived.Test.YtogbkgimpkaemaaDoorEngJ
namespace Go.Proofs.YtogbkgimpkaemaaDoor
open Go.Eng
set_option maxRecDepth 20000
/-! ### the law of the document's stack -/
def StS (p r n : Nat) (ro : Addr → Option Value) (i : Int) (h : H) : Prop :=
  ∃ (L : List Ent) (s : SK) (d : SD) (S : SS) (ro' : Addr → Option Value), h = ⟨L ++ [sdE r d S], ro'⟩ ∧ (∀ a v, ro a = some v → ro' a = some v) ∧ StR ro' n d S ∧ KAt p n s L ∧ SDR n s d ∧ KI n s i
theorem rows_up {ro ro' : Addr → Option Value} {st : SV} {rows : List (SV × List Int)} (hr : RdRowsOf ⟨[], ro⟩ st rows) (h : ∀ a v, ro a = some v → ro' a = some v) {own : List Ent} : RdRowsOf ⟨own, ro'⟩ st rows := hr.mono (by simp) h
set_option maxHeartbeats 4000000 in
theorem stackPlays_c {n : Int} {tg : Bool} {st : SV} {rows : List (SV × List Int)} {ro : Addr → Option Value} {post : Value → H → Prop} (hG : HasErrT ro) (hr : RdRowsOf ⟨[], ro⟩ st rows) (hpost : ∀ h, post (.bool true) h) :
    SemCall Tryd.prog 3 (List.toArray [.int .i64 n, .bool tg, .slice st.a st.len st.cap]) ⟨[], ro⟩ post := by
  refine f3_call _ _ _ _ post ?_
  refine stk_new_c (fun hc => ⟨_, _, rfl, join_or ?_⟩) (fun p L hs c0 c1 => ⟨_, none, rfl, join_or ?_⟩)
  · rw [show decide (n < 1 ∨ n > 4) = true from decide_eq_true (by omega)]
    exact VIf_b (fun _ => same_error_c hG ⟨_, rfl, ret (hpost _)⟩) (nomatch ·)
  rw [show decide (n < 1 ∨ n > 4) = false from decide_eq_false (by omega)]
  obtain ⟨N0, rfl⟩ : ∃ N : Nat, n = (N : Int) := ⟨n.toNat, by omega⟩
  rw [Int.toNat_natCast] at hs
  have hN4 : N0 ≤ 4 := by omega
  refine VIf_b (nomatch ·) (fun _ => VIf_nnil (ref_snew_c hN4 (fun S ro0 hm0 hT0 => ⟨tg, -1, 0, S.V, S.X, S.U, S.A, S.M, S.N, S.T, S.Y, rfl, ?_⟩)))
  rw [List.nil_append]
  intro r _
  refine sk_put (r := r) (a0 := tg) (a1 := -1) (a2 := 0) (a3 := S.V) (a4 := S.X) (a5 := S.U) (a6 := S.A) (a7 := S.M) (a8 := S.N) (a9 := S.T) (a10 := S.Y) (z0 := false) (z1 := 0) (z2 := 0) (z3 := zV) (z4 := zV) (z5 := zV) (z6 := zV) (z7 := zV) (z8 := zV) (z9 := zV) (z10 := zV) L [] rfl ?_
  refine ⟨fun h => StS p r N0 ro 300 h, ⟨fun m i h => StS p r N0 ro i h ∧ 0 ≤ i ∧ i ≤ 300 ∧ m = (300 - i).toNat, ⟨300, gi ⟨⟨L, _, d0 tg, S, ro0, rfl, hm0, hT0, hs, SDR.start N0 tg, KI.start N0 tg⟩, by omega, by omega, rfl⟩⟩, ?_⟩, ?_⟩
  rotate_left
  · rintro _ _ ⟨L, s, d, S, ro', rfl, hm, hT, hs, R, I⟩
    refine ⟨fun x h => x = true, ?_, fun _ x h hx => by rw [hx]; exact ret (hpost _)⟩
    refine stk_at_c hs (fun _ h => by simp [h]) ⟨_, rfl, ?_⟩
    rw [if_neg (by omega)]
    refine VIf_eq (fun _ => ?_) (fun h => absurd rfl h)
    refine stk_at_c hs (fun _ h => by simp [h]) ⟨_, rfl, ?_⟩
    rw [if_neg (by omega)]
    exact gi rfl
  clear hs hT0 S
  rintro _ _ i _ ⟨⟨L, s, d, S, ro', rfl, hm, hT, hs, R, I⟩, hi0, hi1, rfl⟩
  refine join_and (VIf_dec (fun hc => ?_) (fun _ => gi ⟨L, s, d, S, ro', rfl, hm, hT, hs, R, I.mono (by omega)⟩))
  refine ⟨fun h => StS p r N0 ro (i + 1) h, ?_, fun _ h hS => ⟨⟨by omega, by omega⟩, _, by omega, gi ⟨hS, by omega, by omega, rfl⟩⟩⟩
  refine RdRowsOf.idx (h := ⟨L ++ [sdE r d S], ro'⟩) (rows_up hr hm) hi0 hc.1 (fun l ys hly _ => ?_)
  have rd : ∀ {own ro2}, (∀ a v, ro a = some v → ro2 a = some v) → RdSl ⟨own, ro2⟩ l (ints ys) := fun {own ro2} h => (rows_up hr (own := own) h).2 (l, ys) (List.mem_of_getElem? hly)
  have hyl : l.len = ys.length := by have := (rd (own := []) hm).len; rwa [ints_length] at this
  -- what is told behind it
  have fin : ∀ h, StS p r N0 ro (i + 1) h → f3_J2 (N0 : Int) post (some (Addr.mk p 0 none)) r (fun h => StS p r N0 ro (i + 1) h) h := by
    rintro _ ⟨L, s, d, S, ro', rfl, hm, hT, hs, R, I⟩
    have hS : StS p r N0 ro (i + 1) ⟨L ++ [sdE r d S], ro'⟩ := ⟨L, s, d, S, ro', rfl, hm, hT, hs, R, I⟩
    refine stk_top_c hs (fun _ h => by simp [h]) ⟨s.a, s.t, rfl, ?_⟩
    refine join_b (h := ⟨L ++ [sdE r d S], ro'⟩) false (rI0 (sdE r d S) (by simp) rfl rfl (VIf_ne (fun h => absurd R.nd.symm h) (fun _ => rI0 (sdE r d S) (by simp) rfl rfl (gi ⟨rfl, bne_eq_false_iff_eq.2 R.tag.symm⟩)))) (VIf_b (nomatch ·) (fun _ => ?_))
    refine ⟨fun h => StS p r N0 ro (i + 1) h, ⟨fun m k h => h = ⟨L ++ [sdE r d S], ro'⟩ ∧ 0 ≤ k ∧ k ≤ N0 ∧ m = (N0 - k).toNat, ⟨_, gi ⟨rfl, by omega, by omega, rfl⟩⟩, ?_⟩, fun _ h hS => gi hS⟩
    rintro m _ k _ ⟨rfl, k0, k1, rfl⟩
    refine VIf_dec (fun hk => ?_) (fun _ => gi hS)
    obtain ⟨q, rfl⟩ : ∃ q : Nat, k = (q : Int) := ⟨k.toNat, by omega⟩
    have hq : q < N0 := by omega
    refine rS0 (sdE r d S) (by simp) rfl rfl (rm_ati hT.a hq rfl ?_)
    refine stk_at_c hs (fun _ h => by simp [h]) ⟨⟨[], by simp⟩, _, rfl, ?_⟩
    rw [if_pos (by omega), Int.toNat_natCast, ← (R.q q hq).a]
    exact VIf_ne (fun h => absurd rfl h) (fun _ => ⟨⟨by omega, by omega⟩, _, by omega, gi ⟨rfl, by omega, by omega, rfl⟩⟩)
  refine join_b (h := ⟨L ++ [sdE r d S], ro'⟩) (decide (ys.length = 2 ∧ gI ys 1 > 1000)) (VIf_eq (fun h2 => idx1 (rd hm) (by omega) (gi ⟨rfl, decide_eq_decide.2 ⟨fun h => ⟨by omega, h⟩, fun h => h.2⟩⟩)) (fun h2 => gi ⟨rfl, (decide_eq_false (fun h => h2 (by omega))).symm⟩)) ?_
  refine ⟨fun h => StS p r N0 ro i h, VIf_dec (fun hbig => ?_) (fun hbig => VIf_eq (fun hl2 => ?_) (fun _ => gi ⟨L, s, d, S, ro', rfl, hm, hT, hs, R, I⟩)), ?_⟩
  · refine idx0 (rd hm) (by omega) (idx1 (rd hm) (by omega) ?_)
    have e : kPush N0 s (gI ys 0) (gI ys 1) = (s, 1) := by unfold kPush; rw [if_pos (by omega)]
    refine stk_push_c [] _ rfl hs (fun L' hs' => ⟨_, rfl, same_error_c (hG.up hm) ⟨_, rfl, ?_⟩⟩)
    rw [e] at hs' ⊢
    exact VIf_nb (fun h => absurd rfl (of_decide_eq_false h)) (fun _ => gi ⟨L', s, d, S, ro', rfl, hm, hT, hs', R, I⟩)
  · have hsmall : gI ys 1 ≤ 1000 := by
      have : ¬ gI ys 1 > 1000 := fun h => hbig ⟨by omega, h⟩
      omega
    obtain ⟨bb, hb⟩ := (rd (own := []) hm).addr (by simp; omega)
    have rd0 : ∀ {own ro2}, (∀ a v, ro a = some v → ro2 a = some v) → H.rd ⟨own, ro2⟩ (Addr.add (Addr.add bb (((0 : Int)).toNat * 1)) 0) (Value.int .i64 (gI ys 0)) := fun {own ro2} h => (rd (own := own) h).rdi hb (gI_ex (by omega))
    have rd1 : ∀ {own ro2}, (∀ a v, ro a = some v → ro2 a = some v) → H.rd ⟨own, ro2⟩ (Addr.add (Addr.add bb (((1 : Int)).toNat * 1)) 0) (Value.int .i64 (gI ys 1)) := fun {own ro2} h => (rd (own := own) h).rdi hb (gI_ex (by omega))
    refine ⟨bb, hb, by omega, by omega, bb, hb, by omega, by omega, sk_get (a0 := d.tg) (a1 := d.nd) (a2 := d.tag) (a3 := S.V) (a4 := S.X) (a5 := S.U) (a6 := S.A) (a7 := S.M) (a8 := S.N) (a9 := S.T) (a10 := S.Y) (by simp [sdE]) ⟨_, rd0 hm, _, rd1 hm, ?_⟩⟩
    refine SemCall.mono (p := fun w2 h => ∃ e d' S' ro2, w2 = sdP e d' S' ∧ h = ⟨L ++ [sdE r d S], ro2⟩ ∧ (∀ a v, ro' a = some v → ro2 a = some v) ∧ StR ro2 N0 d' S' ∧
      (0 ≤ gI ys 1 → (kPush N0 s (gI ys 0) (gI ys 1)).2 = e ∧ KI N0 (kPush N0 s (gI ys 0) (gI ys 1)).1 i ∧ SDR N0 (kPush N0 s (gI ys 0) (gI ys 1)).1 d') ∧
      (gI ys 1 < 0 → (kPop N0 s (gI ys 0)).2 = e ∧ KI N0 (kPop N0 s (gI ys 0)).1 i ∧ SDR N0 (kPop N0 s (gI ys 0)).1 d')) ?_ ?_
    · have fr : ∀ {k : Nat}, k < N0 → kFree N0 s.h (k : Int) = if d.a k ≠ 0 then 7 else 0 := fun {k} hk => by
        unfold kFree
        rw [if_neg (by omega), Int.toNat_natCast, ← (R.q k hk).a]
      have same : ∀ {e : Int}, kFree N0 s.h (gI ys 0) = e → e ≠ 0 → (0 ≤ gI ys 1 → kPush N0 s (gI ys 0) (gI ys 1) = (s, e)) ∧ kPop N0 s (gI ys 0) = (s, e) := fun {e} ef e0 => by
        refine ⟨fun hp => ?_, ?_⟩
        · unfold kPush; rw [if_neg (by omega), ef, if_pos e0]
        · unfold kPop; rw [ef, if_pos e0]
      refine ref_sbegin_c hT hN4 (fun h1 => ?_) (fun k hk hkn ha => ?_) (fun k hk hkn ha hneg S' ro2 q2 hT2 => ?_) (fun k hk hkn ha hpos h4 => ?_) (fun k hk hkn ha hpos h4 S' ro2 q2 hT2 => ?_)
      · obtain ⟨e1, e2⟩ := same (show kFree N0 s.h (gI ys 0) = 1 by unfold kFree; rw [if_pos h1]) (by decide)
        exact ⟨1, d, S, ro', rfl, rfl, fun _ _ h => h, hT, fun hp => by rw [e1 hp]; exact ⟨rfl, I, R⟩, fun _ => by rw [e2]; exact ⟨rfl, I, R⟩⟩
      · obtain ⟨e1, e2⟩ := same (show kFree N0 s.h (gI ys 0) = 7 by rw [hk, fr hkn, if_pos ha]) (by decide)
        exact ⟨7, d, S, ro', rfl, rfl, fun _ _ h => h, hT, fun hp => by rw [e1 hp]; exact ⟨rfl, I, R⟩, fun _ => by rw [e2]; exact ⟨rfl, I, R⟩⟩
      · have ef : kFree N0 s.h (k : Int) = 0 := by rw [fr hkn, if_neg (not_not_intro ha)]
        refine ⟨0, _, S', ro2, rfl, rfl, q2, hT2, fun hp => absurd hp (by omega), fun hp => ?_⟩
        have : kPop N0 s (gI ys 0) = ({ s with h := kHand s.h k [3, 0, 0, 0, 0] }, 0) := by rw [hk]; unfold kPop; rw [ef, if_neg (by decide), Int.toNat_natCast]
        rw [this]; exact ⟨rfl, I.pop k, R.pop k⟩
      · have ef : kFree N0 s.h (gI ys 0) = 0 := by rw [hk, fr hkn, if_neg (not_not_intro ha)]
        refine ⟨4, d, S, ro', rfl, rfl, fun _ _ h => h, hT, fun hp => ?_, fun hp => absurd hp (by omega)⟩
        have : kPush N0 s (gI ys 0) (gI ys 1) = (s, 4) := by unfold kPush; rw [if_neg (by omega), ef, if_neg (by decide), if_pos (by rw [← R.least]; exact h4)]
        rw [this]; exact ⟨rfl, I, R⟩
      · have ef : kFree N0 s.h (k : Int) = 0 := by rw [fr hkn, if_neg (not_not_intro ha)]
        refine ⟨0, _, S', ro2, rfl, rfl, q2, hT2, fun hp => ?_, fun hp => absurd hp (by omega)⟩
        have : kPush N0 s (gI ys 0) (gI ys 1) = (kPut s k (gI ys 1), 0) := by rw [hk]; unfold kPush; rw [if_neg (by omega), ef, if_neg (by decide), if_neg (by rw [← R.least]; exact h4), Int.toNat_natCast]
        rw [this]; exact ⟨rfl, I.put _ _ (by rw [← R.least]; exact h4), R.put k _⟩
    rintro _ _ ⟨e, d', S', ro2, rfl, rfl, q2, hT2, hput, hget⟩
    have hm2 : ∀ a v, ro a = some v → ro2 a = some v := fun a v h => q2 a v (hm a v h)
    refine ⟨⟨[], by simp⟩, d'.tg, d'.nd, d'.tag, S'.V, S'.X, S'.U, S'.A, S'.M, S'.N, S'.T, S'.Y, e, rfl, fun rn _ => ?_⟩
    refine sk_put (r := rn) (a0 := d'.tg) (a1 := d'.nd) (a2 := d'.tag) (a3 := S'.V) (a4 := S'.X) (a5 := S'.U) (a6 := S'.A) (a7 := S'.M) (a8 := S'.N) (a9 := S'.T) (a10 := S'.Y) (z0 := false) (z1 := 0) (z2 := 0) (z3 := zV) (z4 := zV) (z5 := zV) (z6 := zV) (z7 := zV) (z8 := zV) (z9 := zV) (z10 := zV) (L ++ [sdE r d S]) [] rfl ?_
    refine sk_get (r := rn) (a0 := d'.tg) (a1 := d'.nd) (a2 := d'.tag) (a3 := S'.V) (a4 := S'.X) (a5 := S'.U) (a6 := S'.A) (a7 := S'.M) (a8 := S'.N) (a9 := S'.T) (a10 := S'.Y) (by simp) ?_
    refine sk_put (r := r) (a0 := d'.tg) (a1 := d'.nd) (a2 := d'.tag) (a3 := S'.V) (a4 := S'.X) (a5 := S'.U) (a6 := S'.A) (a7 := S'.M) (a8 := S'.N) (a9 := S'.T) (a10 := S'.Y) (z0 := d.tg) (z1 := d.nd) (z2 := d.tag) (z3 := S.V) (z4 := S.X) (z5 := S.U) (z6 := S.A) (z7 := S.M) (z8 := S.N) (z9 := S.T) (z10 := S.Y) L [sdE rn d' S'] (by simp; exact ⟨rfl, rfl⟩) ?_
    refine ⟨fun b h => b = false ∧ StS p r N0 ro i h, ⟨bb, hb, by omega, by omega, _, rd1 hm2, VIf_dec (fun hpos => ?_) (fun hneg => ?_)⟩, ?_⟩
    · obtain ⟨p1, p2, p3⟩ := hput hpos
      refine ⟨bb, hb, by omega, by omega, bb, hb, by omega, by omega, _, rd0 hm2, _, rd1 hm2, ?_⟩
      refine stk_push_c [] _ rfl hs (fun L' hs' => ⟨_, rfl, same_error_c (hG.up hm2) ⟨_, rfl, ?_⟩⟩)
      refine VIf_nb (fun h => absurd p1 (of_decide_eq_false h)) (fun _ => ⟨bb, hb, by omega, by omega, _, rd1 hm2, VIf_dec (fun h => absurd h (by omega)) (fun _ => ?_)⟩)
      exact ⟨⟨L' ++ [sdE r d' S'], ro2⟩, Gh.drop (own' := L' ++ [sdE r d' S']) (own := [] ++ (L' ++ (sdE r d' S' :: [sdE rn d' S']))) (by simp), rfl, L', _, d', S', ro2, rfl, hm2, hT2, hs', p3, p2⟩
    · obtain ⟨p1, p2, p3⟩ := hget (by omega)
      refine ⟨bb, hb, by omega, by omega, _, rd1 hm2, VIf_dec (fun _ => ⟨bb, hb, by omega, by omega, _, rd0 hm2, ?_⟩) (fun h => absurd (by omega) h)⟩
      refine stk_pop_c [] _ rfl hs (fun L' hs' => ⟨_, rfl, same_error_c (hG.up hm2) ⟨_, rfl, ?_⟩⟩)
      exact ⟨⟨L' ++ [sdE r d' S'], ro2⟩, Gh.drop (own' := L' ++ [sdE r d' S']) (own := [] ++ (L' ++ (sdE r d' S' :: [sdE rn d' S']))) (by simp), by rw [decide_eq_true p1]; rfl, L', _, d', S', ro2, rfl, hm2, hT2, hs', p3, p2⟩
    · rintro _ b _ ⟨rfl, hS⟩
      exact VIf_b (nomatch ·) (fun _ => gi hS)
  clear I hs hT R hm
  rintro _ _ ⟨L, s, d, S, ro', rfl, hm, hT, hs, R, I⟩
  refine ⟨fun h => StS p r N0 ro (i + 1) h, ?_, fun _ h hS => fin h hS⟩
  refine VIf_eq (fun hl => ?_) (fun _ => gi ⟨L, s, d, S, ro', rfl, hm, hT, hs, R, I.mono (by omega)⟩)
  obtain ⟨bb, hb⟩ := (rd (own := []) hm).addr (by simp; omega)
  have rd0 : ∀ {own ro2}, (∀ a v, ro a = some v → ro2 a = some v) → H.rd ⟨own, ro2⟩ (Addr.add (Addr.add bb (((0 : Int)).toNat * 1)) 0) (Value.int .i64 (gI ys 0)) := fun {own ro2} h => (rd (own := own) h).rdi hb (gI_ex (by omega))
  refine ⟨bb, hb, by omega, by omega, sk_get (a0 := d.tg) (a1 := d.nd) (a2 := d.tag) (a3 := S.V) (a4 := S.X) (a5 := S.U) (a6 := S.A) (a7 := S.M) (a8 := S.N) (a9 := S.T) (a10 := S.Y) (by simp [sdE]) ⟨_, rd0 hm, ?_⟩⟩
  refine SemCall.mono (p := fun w2 h => ∃ dn g e d' S' ro2, w2 = sdQ dn g e d' S' ∧ h = ⟨L ++ [sdE r d S], ro2⟩ ∧ (∀ a v, ro' a = some v → ro2 a = some v) ∧ StR ro2 N0 d' S' ∧
    ((¬ (0 ≤ gI ys 0 ∧ gI ys 0 ≤ (N0 : Int) - 1) ∧ e = 1 ∧ dn = false ∧ g = 0 ∧ SDR N0 s d') ∨ (∃ k : Nat, gI ys 0 = k ∧ k < N0 ∧ (if s.h (k * 5 + 0) = 0 then false else (kStep s k).2.1) = dn ∧ (if s.h (k * 5 + 0) = 0 then 0 else (kStep s k).2.2) = g ∧ (if s.h (k * 5 + 0) = 0 then 7 else 0) = e ∧ SDR N0 (if s.h (k * 5 + 0) = 0 then s else (kStep s k).1) d'))) ?_ ?_
  · by_cases hin : ¬ (0 ≤ gI ys 0 ∧ gI ys 0 ≤ (N0 : Int) - 1)
    · exact ref_sstep1_c hT hN4 hin ⟨false, 0, 1, d, S, ro', rfl, rfl, fun _ _ h => h, hT, .inl ⟨hin, rfl, rfl, rfl, R⟩⟩
    obtain ⟨k, hk⟩ : ∃ k : Nat, gI ys 0 = (k : Int) := ⟨(gI ys 0).toNat, by omega⟩
    have hkn : k < N0 := by omega
    rw [hk]
    have ea := (R.q k hkn).a
    by_cases h0 : d.a k = 0
    · have hz : s.h (k * 5 + 0) = 0 := by omega
      exact ref_sstep7_c hT hN4 hkn h0 ⟨false, 0, 7, d, S, ro', rfl, rfl, fun _ _ h => h, hT, .inr ⟨k, rfl, hkn, if_pos hz, if_pos hz, if_pos hz, by rw [if_pos hz]; exact R⟩⟩
    · have hne : s.h (k * 5 + 0) ≠ 0 := by omega
      obtain ⟨ok, s1, s2, s3⟩ := R.step I (by omega) hkn hne
      exact ref_sstep_c hT hN4 hkn ok (fun S' ro2 q2 hT2 => ⟨_, _, 0, _, S', ro2, rfl, rfl, q2, hT2, .inr ⟨k, rfl, hkn, (if_neg hne).trans s1.symm, (if_neg hne).trans s2.symm, if_neg hne, by rw [if_neg hne]; exact s3⟩⟩)
  rintro _ _ ⟨dn, g, e, d', S', ro2, rfl, rfl, q2, hT2, hres⟩
  have hm2 : ∀ a v, ro a = some v → ro2 a = some v := fun a v h => q2 a v (hm a v h)
  refine ⟨⟨[], by simp⟩, d'.tg, d'.nd, d'.tag, S'.V, S'.X, S'.U, S'.A, S'.M, S'.N, S'.T, S'.Y, dn, g, e, rfl, fun rn _ => ?_⟩
  refine sk_put (r := rn) (a0 := d'.tg) (a1 := d'.nd) (a2 := d'.tag) (a3 := S'.V) (a4 := S'.X) (a5 := S'.U) (a6 := S'.A) (a7 := S'.M) (a8 := S'.N) (a9 := S'.T) (a10 := S'.Y) (z0 := false) (z1 := 0) (z2 := 0) (z3 := zV) (z4 := zV) (z5 := zV) (z6 := zV) (z7 := zV) (z8 := zV) (z9 := zV) (z10 := zV) (L ++ [sdE r d S]) [] rfl ?_
  refine sk_get (r := rn) (a0 := d'.tg) (a1 := d'.nd) (a2 := d'.tag) (a3 := S'.V) (a4 := S'.X) (a5 := S'.U) (a6 := S'.A) (a7 := S'.M) (a8 := S'.N) (a9 := S'.T) (a10 := S'.Y) (by simp) ?_
  refine sk_put (r := r) (a0 := d'.tg) (a1 := d'.nd) (a2 := d'.tag) (a3 := S'.V) (a4 := S'.X) (a5 := S'.U) (a6 := S'.A) (a7 := S'.M) (a8 := S'.N) (a9 := S'.T) (a10 := S'.Y) (z0 := d.tg) (z1 := d.nd) (z2 := d.tag) (z3 := S.V) (z4 := S.X) (z5 := S.U) (z6 := S.A) (z7 := S.M) (z8 := S.N) (z9 := S.T) (z10 := S.Y) L [sdE rn d' S'] (by simp; exact ⟨rfl, rfl⟩) ?_
  refine ⟨bb, hb, by omega, by omega, _, rd0 hm2, ?_⟩
  have done : ∀ {L1 : List Ent} {s1 : SK} {b : Bool} {g1 e1 : Int}, b = dn → g1 = g → e1 = e → KAt p N0 s1 L1 → KI N0 s1 (i + 1) → SDR N0 s1 d' →
      ∃ R202 : Bool → H → Prop, (SemCall Tryd.prog 6 (List.toArray [errV (eno 65 e1), .int .i64 e]) ⟨L1 ++ (sdE r d' S' :: [sdE rn d' S']), ro2⟩ fun v203 h204 => ∃ x205, v203 = .bool x205 ∧ VIf (!x205) (∃ h206, Gh h204 h206 ∧ R202 true h206) (VIf (!(b == dn)) (∃ h207, Gh h204 h207 ∧ R202 true h207) (∃ h208, Gh h204 h208 ∧ R202 (g1 != g) h208))) ∧
        ∀ (_ : F) (x209 : Bool) (h210 : H), R202 x209 h210 → VIf x209 (VRet h210 (.bool false) post) (∃ h211, Gh h210 h211 ∧ StS p r N0 ro (i + 1) h211) := by
    rintro L1 s1 b g1 e1 rfl rfl rfl hs1 I1 R1
    refine ⟨fun b h => b = false ∧ StS p r N0 ro (i + 1) h, same_error_c (hG.up hm2) ⟨_, rfl, VIf_nb (fun h => absurd rfl (of_decide_eq_false h)) (fun _ => VIf_nb (fun h => by simp at h) (fun _ => ?_))⟩, ?_⟩
    · exact ⟨⟨L1 ++ [sdE r d' S'], ro2⟩, Gh.drop (by simp), by simp, L1, s1, d', S', ro2, rfl, hm2, hT2, hs1, R1, I1⟩
    · rintro _ b _ ⟨rfl, hS⟩
      exact VIf_b (nomatch ·) (fun _ => gi hS)
  rcases hres with ⟨hin, rfl, rfl, rfl, R1⟩ | ⟨k, hk, hkn, s1, s2, s3, R1⟩
  · exact stk_out_c hs (fun _ h => by simp [h]) hin ⟨false, 0, _, rfl, done rfl rfl rfl hs (I.mono (by omega)) R1⟩
  · rw [hk]
    refine stk_step_c [] _ rfl hs I (by omega) hkn (fun L' hs' => ⟨_, _, _, rfl, done s1 s2 s3 hs' ?_ R1⟩)
    by_cases hz : s.h (k * 5 + 0) = 0
    · rw [if_pos hz]; exact I.mono (by omega)
    · rw [if_neg hz]; exact I.step hkn
end Go.Proofs.YtogbkgimpkaemaaDoor
