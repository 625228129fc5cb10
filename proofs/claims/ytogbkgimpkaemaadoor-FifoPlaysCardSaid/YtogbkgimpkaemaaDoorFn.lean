import Derived.Test.YtogbkgimpkaemaaDoorFm
import Derived.Test.YtogbkgimpkaemaaDoorEngJ
import Derived.Test.YtogbkgimpkaemaaDoorEngL
namespace Go.Proofs.YtogbkgimpkaemaaDoor
open Go.Eng
set_option maxRecDepth 20000
/-! ### the document's queue, any step -/
theorem ref_fstep1_c {n M : Nat} {q hd tl : Int} {V N A Mi T Hs X : SV} {v w a mi t h x : Nat → Int} {own : List Ent} {ro : Addr → Option Value} {post : Value → H → Prop} (hr : FfR ro n M V N A Mi T Hs X v w a mi t h x) (hn : n ≤ 4) (hq : ¬ (0 ≤ q ∧ q ≤ (n : Int) - 1))
    (hk : post (.tuple (List.toArray [.agg (List.toArray (ffC hd tl V N A Mi T Hs X)), .bool false, .int .i64 0, .int .i64 1])) ⟨own, ro⟩) :
    SemCall Tryd.prog 20 (List.toArray [.agg (List.toArray (ffC hd tl V N A Mi T Hs X)), .int .i64 q]) ⟨own, ro⟩ post := by
  have la := hr.a.len
  rw [ints_length, rm_len] at la
  refine f20_call _ _ _ _ _ _ _ _ _ _ _ post ?_
  refine new2 (n1 := 9) (n2 := 9) rfl rfl (fun r1 r3 => ?_)
  refine rS0 (ffE r1 hd tl V N A Mi T Hs X) (by simp [ffE, ffC]) rfl rfl ⟨⟨by omega, by omega⟩, ref3_in_c ⟨_, rfl, VIf_not (fun _ => ?_) (fun h => absurd ⟨h.1, by omega⟩ hq)⟩⟩
  exact ff_fin (Y := []) (z0 := 0) (z1 := 0) (z2 := ⟨none, 0, 0⟩) (z3 := ⟨none, 0, 0⟩) (z4 := ⟨none, 0, 0⟩) (z5 := ⟨none, 0, 0⟩) (z6 := ⟨none, 0, 0⟩) (z7 := ⟨none, 0, 0⟩) (z8 := ⟨none, 0, 0⟩) (Q := fun y0 y1 y2 y3 y4 y5 y6 y7 y8 => .tuple (List.toArray [.agg (List.toArray (ffC y0 y1 y2 y3 y4 y5 y6 y7 y8)), .bool false, .int .i64 0, .int .i64 1])) hk
theorem ref_fstep7_c {n M k : Nat} {hd tl : Int} {V N A Mi T Hs X : SV} {v w a mi t h x : Nat → Int} {own : List Ent} {ro : Addr → Option Value} {post : Value → H → Prop} (hr : FfR ro n M V N A Mi T Hs X v w a mi t h x) (hn : n ≤ 4) (hq : k < n) (h0 : a k = 0)
    (hk : post (.tuple (List.toArray [.agg (List.toArray (ffC hd tl V N A Mi T Hs X)), .bool false, .int .i64 0, .int .i64 7])) ⟨own, ro⟩) :
    SemCall Tryd.prog 20 (List.toArray [.agg (List.toArray (ffC hd tl V N A Mi T Hs X)), .int .i64 (k : Int)]) ⟨own, ro⟩ post := by
  have la := hr.a.len
  rw [ints_length, rm_len] at la
  refine f20_call _ _ _ _ _ _ _ _ _ _ _ post ?_
  refine new2 (n1 := 9) (n2 := 9) rfl rfl (fun r1 r3 => ?_)
  have m1 : ∀ {x0 x1 : Int} {x2 x3 x4 x5 x6 x7 x8 : SV} {Z : List Ent}, ffE r1 x0 x1 x2 x3 x4 x5 x6 x7 x8 ∈ own ++ ffE r1 x0 x1 x2 x3 x4 x5 x6 x7 x8 :: Z := by simp
  refine rS0 (ffE r1 hd tl V N A Mi T Hs X) m1 rfl rfl ⟨⟨by omega, by omega⟩, ref3_in_c ⟨_, rfl, VIf_not (fun h => absurd ⟨by omega, by omega⟩ h) (fun _ => ?_)⟩⟩
  refine rS0 (ffE r1 hd tl V N A Mi T Hs X) m1 rfl rfl (rm_at hr.a hq (VIf_eq (fun _ => ?_) (fun z => absurd h0 z)))
  exact ff_fin (Y := []) (z0 := 0) (z1 := 0) (z2 := ⟨none, 0, 0⟩) (z3 := ⟨none, 0, 0⟩) (z4 := ⟨none, 0, 0⟩) (z5 := ⟨none, 0, 0⟩) (z6 := ⟨none, 0, 0⟩) (z7 := ⟨none, 0, 0⟩) (z8 := ⟨none, 0, 0⟩) (Q := fun y0 y1 y2 y3 y4 y5 y6 y7 y8 => .tuple (List.toArray [.agg (List.toArray (ffC y0 y1 y2 y3 y4 y5 y6 y7 y8)), .bool false, .int .i64 0, .int .i64 7])) hk
theorem FPI.start (n : Nat) : FPI n 1 fF0 (fun _ => 0) (fun _ => 0) (fun _ => -1) (fun _ => 0) (fun _ => 0) (fun _ => 0) (fun _ => 0) (fun _ => 0) (fF0 0) (fF0 1) :=
  ⟨rfl, rfl, rfl, fun k hk => by obtain rfl : k = 0 := by omega
                                 rfl, fun k hk => by obtain rfl : k = 0 := by omega
                                                     rfl, fun p _ => ⟨rfl, fun h => absurd h (show ¬ (1 : Int) ≤ 0 by decide), fun h => absurd h (show ¬ ((0 : Int) = 2 ∨ (0 : Int) = 3 ∨ (0 : Int) = 4 ∨ (0 : Int) = 5 ∨ (0 : Int) = 8 ∨ (0 : Int) = 9) by decide), fun h => absurd h (show ¬ ((0 : Int) = 7 ∨ (0 : Int) = 8 ∨ (0 : Int) = 9 ∨ (0 : Int) = 10) by decide), fun h => absurd h (show ¬ ((0 : Int) = 4 ∨ (0 : Int) = 9 ∨ (0 : Int) = 10) by decide)⟩⟩
theorem FPI.oths {n M : Nat} {f hh v w a mi t h x : Nat → Int} {hd tl : Int} (R : FPI n M f hh v w a mi t h x hd tl) {k : Nat} {y : Int} {vs : List Int} {mi' : Nat → Int} (hv0 : gI vs 0 = y) (hm : ∀ p, p ≠ k → mi' p = mi p) (hy : y = 6 ∨ y = 1 ∧ mi' k = gI vs 1) : ∀ p, p < n → RelF (fHand hh k vs) (updN a k y) mi' t h x p := by
  intro p hp
  by_cases hpk : p = k
  · subst hpk
    refine rel_f y (updN_same _ _ _) (by rw [fHand_same (by omega)]; exact hv0) (fun h1 h2 => ?_) (fun h => by omega) (fun h => by omega) (fun h => by omega)
    rw [fHand_same (by omega)]
    rcases hy with h | h
    · omega
    · exact h.2
  · have := R.r p hp
    unfold RelF at this ⊢
    rw [fHand_ne hpk (by omega), fHand_ne hpk (by omega), fHand_ne hpk (by omega), fHand_ne hpk (by omega), fHand_ne hpk (by omega), updN_ne hpk, hm p hpk]
    exact this
theorem FPI.get {n M : Nat} {f hh v w a mi t h x : Nat → Int} {hd tl : Int} (R : FPI n M f hh v w a mi t h x hd tl) (k : Nat) : FPI n M f (fHand hh k [6, 0, 0, 0, 0]) v w (updN a k 6) mi t h x hd tl :=
  ⟨R.e, R.e0, R.e1, R.ov, R.ow, R.oths rfl (fun _ _ => rfl) (.inl rfl)⟩
theorem FPI.put {n M : Nat} {f hh v w a mi t h x : Nat → Int} {hd tl : Int} {ch : List Nat} {hi ti : Nat} (R : FPI n M f hh v w a mi t h x hd tl) (I : FInv n f hh ch hi ti) (k : Nat) (val : Int) (hm : f 82 ≠ 40) :
    FPI n (M + 1) (updN (updN f (42 + (f 82).toNat) val) 82 (f 82 + 1)) (fHand hh k [1, f 82, 0, 0, 0]) (updN v M val) (updN w M (-1)) (updN a k 1) (updN mi k M) t h x hd tl := by
  have B := I.b
  have e := R.e
  have m1 := B.m1
  have eM : (f 82).toNat = M := by omega
  refine ⟨by rw [updN_same]; omega, by rw [updN_ne (by omega), updN_ne (by omega)]; exact R.e0, by rw [updN_ne (by omega), updN_ne (by omega)]; exact R.e1, fun j hj => ?_, fun j hj => ?_, R.oths rfl (fun p hp => updN_ne hp) (.inr ⟨rfl, by rw [updN_same]; exact e⟩)⟩
  · rw [eM, updN_ne (show 42 + j ≠ 82 by omega)]
    by_cases hjM : j = M
    · subst hjM; rw [updN_same, updN_same]
    · rw [updN_ne hjM, updN_ne (by omega)]; exact R.ov j (by omega)
  · rw [eM, updN_ne (show 2 + j ≠ 82 by omega), updN_ne (show 2 + j ≠ 42 + M by omega)]
    by_cases hjM : j = M
    · subst hjM
      rw [updN_same]
      exact (B.no j (by omega) (fun hh => by have := B.lt j hh; omega)).symm
    · rw [updN_ne hjM]; exact R.ow j (by omega)
def FfSt (p r n : Nat) (ro : Addr → Option Value) (h : H) : Prop :=
  ∃ L f hh ch hi ti M V N A Mi T Hs X v w a mi t hx x ro', h = ⟨L ++ [ffE r (f 0) (f 1) V N A Mi T Hs X], ro'⟩ ∧ (∀ a v, ro a = some v → ro' a = some v) ∧ FfR ro' n M V N A Mi T Hs X v w a mi t hx x ∧ FqAt p n f hh L ∧ FInv n f hh ch hi ti ∧ FPI n M f hh v w a mi t hx x (f 0) (f 1)
theorem rows_up {ro ro' : Addr → Option Value} {st : SV} {rows : List (SV × List Int)} (hr : RdRowsOf ⟨[], ro⟩ st rows) (h : ∀ a v, ro a = some v → ro' a = some v) {own : List Ent} : RdRowsOf ⟨own, ro'⟩ st rows := hr.mono (by simp) h
set_option maxHeartbeats 4000000 in
theorem fifoPlays_c {n : Int} {st : SV} {rows : List (SV × List Int)} {ro : Addr → Option Value} {post : Value → H → Prop} (hG : HasErrT ro) (hr : RdRowsOf ⟨[], ro⟩ st rows) (hpost : ∀ h, post (.bool true) h) :
    SemCall Tryd.prog 4 (List.toArray [.int .i64 n, .slice st.a st.len st.cap]) ⟨[], ro⟩ post := by
  refine f4_call _ _ _ post ?_
  refine fq_new_c (fun hc => ⟨_, _, rfl, join_or ?_⟩) (fun p L hs c0 c1 => ⟨_, none, rfl, join_or ?_⟩)
  · rw [show decide (n < 1 ∨ n > 4) = true from decide_eq_true (by omega)]
    exact VIf_b (fun _ => same_error_c hG ⟨_, rfl, ret (hpost _)⟩) (nomatch ·)
  rw [show decide (n < 1 ∨ n > 4) = false from decide_eq_false (by omega)]
  obtain ⟨N0, rfl⟩ : ∃ N : Nat, n = (N : Int) := ⟨n.toNat, by omega⟩
  rw [Int.toNat_natCast] at hs
  have hN4 : N0 ≤ 4 := by omega
  refine VIf_b (nomatch ·) (fun _ => VIf_nnil (ref_fnew_c (by omega) (fun V N A Mi T Hs X ro0 hm0 hT0 => ⟨0, 0, V, N, A, Mi, T, Hs, X, rfl, ?_⟩)))
  rw [List.nil_append]
  intro r _
  refine ff_put (r := r) (a0 := 0) (a1 := 0) (a2 := V) (a3 := N) (a4 := A) (a5 := Mi) (a6 := T) (a7 := Hs) (a8 := X) (z0 := 0) (z1 := 0) (z2 := ⟨none, 0, 0⟩) (z3 := ⟨none, 0, 0⟩) (z4 := ⟨none, 0, 0⟩) (z5 := ⟨none, 0, 0⟩) (z6 := ⟨none, 0, 0⟩) (z7 := ⟨none, 0, 0⟩) (z8 := ⟨none, 0, 0⟩) L [] rfl ?_
  refine ⟨fun h => FfSt p r N0 ro h, ⟨fun m i h => FfSt p r N0 ro h ∧ 0 ≤ i ∧ i ≤ 400 ∧ m = (400 - i).toNat, ⟨400, gi ⟨⟨L, fF0, _, _, _, _, _, V, N, A, Mi, T, Hs, X, _, _, _, _, _, _, _, ro0, rfl, hm0, hT0, hs, FInv.start N0, FPI.start N0⟩, by omega, by omega, rfl⟩⟩, ?_⟩, ?_⟩
  rotate_left
  · rintro _ _ ⟨L, f, hh, ch, hi, ti, M, V, N, A, Mi, T, Hs, X, v, w, a, mi, t, hx, x, ro', rfl, hm, hT, hs, I, R⟩
    refine ⟨fun x h => x = true, ?_, fun _ x h hx => by rw [hx]; exact ret (hpost _)⟩
    refine fq_at_c hs (fun _ h => by simp [h]) ⟨_, rfl, ?_⟩
    rw [if_neg (by omega)]
    refine VIf_eq (fun _ => ?_) (fun h => absurd rfl h)
    refine fq_at_c hs (fun _ h => by simp [h]) ⟨_, rfl, ?_⟩
    rw [if_neg (by omega)]
    exact gi rfl
  clear hs hT0
  rintro _ _ i _ ⟨⟨L, f, hh, ch, hi, ti, M, V, N, A, Mi, T, Hs, X, v, w, a, mi, t, hx, x, ro', rfl, hm, hT, hs, I, R⟩, hi0, hi1, rfl⟩
  refine join_and (VIf_dec (fun hc => ?_) (fun _ => gi ⟨L, f, hh, ch, hi, ti, M, V, N, A, Mi, T, Hs, X, v, w, a, mi, t, hx, x, ro', rfl, hm, hT, hs, I, R⟩))
  refine ⟨fun h => FfSt p r N0 ro h, ?_, fun _ h hS => ⟨⟨by omega, by omega⟩, _, by omega, gi ⟨hS, by omega, by omega, rfl⟩⟩⟩
  refine RdRowsOf.idx (h := ⟨L ++ [ffE r (f 0) (f 1) V N A Mi T Hs X], ro'⟩) (rows_up hr hm) hi0 hc.1 (fun l ys hly _ => ?_)
  have rd : ∀ {own ro2}, (∀ a v, ro a = some v → ro2 a = some v) → RdSl ⟨own, ro2⟩ l (ints ys) := fun {own ro2} h => (rows_up hr (own := own) h).2 (l, ys) (List.mem_of_getElem? hly)
  have hyl : l.len = ys.length := by have := (rd (own := []) hm).len; rwa [ints_length] at this
  -- what is told behind it
  have fin : ∀ h, FfSt p r N0 ro h → f4_J2 (N0 : Int) post (some (Addr.mk p 0 none)) r (fun h => FfSt p r N0 ro h) h := by
    rintro _ ⟨L, f, hh, ch, hi, ti, M, V, N, A, Mi, T, Hs, X, v, w, a, mi, t, hx, x, ro', rfl, hm, hT, hs, I, R⟩
    have hS : FfSt p r N0 ro ⟨L ++ [ffE r (f 0) (f 1) V N A Mi T Hs X], ro'⟩ := ⟨L, f, hh, ch, hi, ti, M, V, N, A, Mi, T, Hs, X, v, w, a, mi, t, hx, x, ro', rfl, hm, hT, hs, I, R⟩
    refine fq_ends_c hs (fun _ h => by simp [h]) ⟨f 0, f 1, rfl, ?_⟩
    refine join_b (h := ⟨L ++ [ffE r (f 0) (f 1) V N A Mi T Hs X], ro'⟩) false (rI0 (ffE r (f 0) (f 1) V N A Mi T Hs X) (by simp) rfl rfl (VIf_ne (fun h => absurd rfl h) (fun _ => rI0 (ffE r (f 0) (f 1) V N A Mi T Hs X) (by simp) rfl rfl (gi ⟨rfl, by simp⟩)))) (VIf_b (nomatch ·) (fun _ => ?_))
    refine ⟨fun h => FfSt p r N0 ro h, ⟨fun m k h => h = ⟨L ++ [ffE r (f 0) (f 1) V N A Mi T Hs X], ro'⟩ ∧ 0 ≤ k ∧ k ≤ N0 ∧ m = (N0 - k).toNat, ⟨_, gi ⟨rfl, by omega, by omega, rfl⟩⟩, ?_⟩, fun _ h hS => gi hS⟩
    rintro m _ k _ ⟨rfl, k0, k1, rfl⟩
    refine VIf_dec (fun hk => ?_) (fun _ => gi hS)
    obtain ⟨q, rfl⟩ : ∃ q : Nat, k = (q : Int) := ⟨k.toNat, by omega⟩
    have hq : q < N0 := by omega
    refine rS0 (ffE r (f 0) (f 1) V N A Mi T Hs X) (by simp) rfl rfl (rm_at hT.a hq ?_)
    refine fq_at_c hs (fun _ h => by simp [h]) ⟨⟨[], by simp⟩, _, rfl, ?_⟩
    rw [if_pos (by omega), Int.toNat_natCast]
    have := (R.r q hq).1
    rw [Nat.add_zero] at this
    rw [← this]
    exact VIf_ne (fun h => absurd rfl h) (fun _ => ⟨⟨by omega, by omega⟩, _, by omega, gi ⟨rfl, by omega, by omega, rfl⟩⟩)
  refine join_b (h := ⟨L ++ [ffE r (f 0) (f 1) V N A Mi T Hs X], ro'⟩) (decide (ys.length = 2 ∧ gI ys 1 > 1000)) (VIf_eq (fun h2 => idx1 (rd hm) (by omega) (gi ⟨rfl, decide_eq_decide.2 ⟨fun h => ⟨by omega, h⟩, fun h => h.2⟩⟩)) (fun h2 => gi ⟨rfl, (decide_eq_false (fun h => h2 (by omega))).symm⟩)) ?_
  refine ⟨fun h => FfSt p r N0 ro h, VIf_dec (fun hbig => ?_) (fun hbig => VIf_eq (fun hl2 => ?_) (fun _ => gi ⟨L, f, hh, ch, hi, ti, M, V, N, A, Mi, T, Hs, X, v, w, a, mi, t, hx, x, ro', rfl, hm, hT, hs, I, R⟩)), ?_⟩
  · refine idx0 (rd hm) (by omega) (idx1 (rd hm) (by omega) ?_)
    have hmm := I.b.m0
    have e : fPut N0 f hh (gI ys 0) (gI ys 1) = (f, hh, 1) := by unfold fPut; rw [if_pos (by omega)]
    refine fq_put_c [] _ rfl hs ⟨by omega, I.b.m1⟩ (fun L' hs' => ⟨_, rfl, same_error_c (hG.up hm) ⟨_, rfl, ?_⟩⟩)
    rw [e] at hs' ⊢
    exact VIf_nb (fun h => absurd rfl (of_decide_eq_false h)) (fun _ => gi ⟨L', f, hh, ch, hi, ti, M, V, N, A, Mi, T, Hs, X, v, w, a, mi, t, hx, x, ro', rfl, hm, hT, hs', I, R⟩)
  · have hsmall : gI ys 1 ≤ 1000 := by
      have : ¬ gI ys 1 > 1000 := fun h => hbig ⟨by omega, h⟩
      omega
    have m0 := I.b.m0
    have m1 := I.b.m1
    have eM := R.e
    obtain ⟨bb, hb⟩ := (rd (own := []) hm).addr (by simp; omega)
    have rd0 : ∀ {own ro2}, (∀ a v, ro a = some v → ro2 a = some v) → H.rd ⟨own, ro2⟩ (Addr.add (Addr.add bb (((0 : Int)).toNat * 1)) 0) (Value.int .i64 (gI ys 0)) := fun {own ro2} h => (rd (own := own) h).rdi hb (gI_ex (by omega))
    have rd1 : ∀ {own ro2}, (∀ a v, ro a = some v → ro2 a = some v) → H.rd ⟨own, ro2⟩ (Addr.add (Addr.add bb (((1 : Int)).toNat * 1)) 0) (Value.int .i64 (gI ys 1)) := fun {own ro2} h => (rd (own := own) h).rdi hb (gI_ex (by omega))
    refine ⟨bb, hb, by omega, by omega, bb, hb, by omega, by omega, ff_get (a0 := f 0) (a1 := f 1) (a2 := V) (a3 := N) (a4 := A) (a5 := Mi) (a6 := T) (a7 := Hs) (a8 := X) (by simp) ⟨_, rd0 hm, _, rd1 hm, ?_⟩⟩
    refine SemCall.mono (p := fun w2 h => ∃ e V' N' A' Mi' ro2 M' v' w' a' mi', w2 = ffP e (f 0) (f 1) V' N' A' Mi' T Hs X ∧ h = ⟨L ++ [ffE r (f 0) (f 1) V N A Mi T Hs X], ro2⟩ ∧ (∀ a v, ro' a = some v → ro2 a = some v) ∧ FfR ro2 N0 M' V' N' A' Mi' T Hs X v' w' a' mi' t hx x ∧
      (0 ≤ gI ys 1 → (fPut N0 f hh (gI ys 0) (gI ys 1)).2.2 = e ∧ FInv N0 (fPut N0 f hh (gI ys 0) (gI ys 1)).1 (fPut N0 f hh (gI ys 0) (gI ys 1)).2.1 ch hi ti ∧ FPI N0 M' (fPut N0 f hh (gI ys 0) (gI ys 1)).1 (fPut N0 f hh (gI ys 0) (gI ys 1)).2.1 v' w' a' mi' t hx x (f 0) (f 1)) ∧
      (gI ys 1 < 0 → (fGet N0 hh (gI ys 0)).2 = e ∧ FInv N0 f (fGet N0 hh (gI ys 0)).1 ch hi ti ∧ FPI N0 M' f (fGet N0 hh (gI ys 0)).1 v' w' a' mi' t hx x (f 0) (f 1))) ?_ ?_
    · have fr : ∀ {k : Nat}, k < N0 → fFree N0 hh (k : Int) = if a k ≠ 0 then 7 else 0 := fun {k} hk => by
        unfold fFree
        have := (R.r k hk).1
        rw [Nat.add_zero] at this
        rw [if_neg (by omega), Int.toNat_natCast, ← this]
      refine ref_fbegin_c hT hN4 (by omega) (fun h1 => ?_) (fun k hk hkn ha => ?_) (fun k hk hkn ha hneg A' ro2 q2 hT2 => ?_) (fun k hk hkn ha hpos h40 => ?_) (fun k hk hkn ha hpos h40 V' N' A' Mi' ro2 q2 hT2 => ?_)
      · have ef : fFree N0 hh (gI ys 0) = 1 := by unfold fFree; rw [if_pos h1]
        refine ⟨1, V, N, A, Mi, ro', M, v, w, a, mi, rfl, rfl, fun _ _ h => h, hT, fun hp => ?_, fun hp => ?_⟩
        · have : fPut N0 f hh (gI ys 0) (gI ys 1) = (f, hh, 1) := by unfold fPut; rw [if_neg (by omega), ef, if_pos (by decide)]
          rw [this]; exact ⟨rfl, I, R⟩
        · have : fGet N0 hh (gI ys 0) = (hh, 1) := by unfold fGet; rw [ef, if_pos (by decide)]
          rw [this]; exact ⟨rfl, I, R⟩
      · have ef : fFree N0 hh (gI ys 0) = 7 := by rw [hk, fr hkn, if_pos ha]
        refine ⟨7, V, N, A, Mi, ro', M, v, w, a, mi, rfl, rfl, fun _ _ h => h, hT, fun hp => ?_, fun hp => ?_⟩
        · have : fPut N0 f hh (gI ys 0) (gI ys 1) = (f, hh, 7) := by unfold fPut; rw [if_neg (by omega), ef, if_pos (by decide)]
          rw [this]; exact ⟨rfl, I, R⟩
        · have : fGet N0 hh (gI ys 0) = (hh, 7) := by unfold fGet; rw [ef, if_pos (by decide)]
          rw [this]; exact ⟨rfl, I, R⟩
      · have ef : fFree N0 hh (k : Int) = 0 := by rw [fr hkn, if_neg (not_not_intro ha)]
        refine ⟨0, V, N, A', Mi, ro2, M, v, w, _, mi, rfl, rfl, q2, hT2, fun hp => absurd hp (by omega), fun hp => ?_⟩
        have : fGet N0 hh (gI ys 0) = (fHand hh k [6, 0, 0, 0, 0], 0) := by rw [hk]; unfold fGet; rw [ef, if_neg (by decide), Int.toNat_natCast]
        rw [this]; exact ⟨rfl, I.get, R.get k⟩
      · have ef : fFree N0 hh (gI ys 0) = 0 := by rw [hk, fr hkn, if_neg (not_not_intro ha)]
        refine ⟨4, V, N, A, Mi, ro', M, v, w, a, mi, rfl, rfl, fun _ _ h => h, hT, fun hp => ?_, fun hp => absurd hp (by omega)⟩
        have : fPut N0 f hh (gI ys 0) (gI ys 1) = (f, hh, 4) := by unfold fPut; rw [if_neg (by omega), ef, if_neg (by decide), if_pos (by omega)]
        rw [this]; exact ⟨rfl, I, R⟩
      · have ef : fFree N0 hh (k : Int) = 0 := by rw [fr hkn, if_neg (not_not_intro ha)]
        refine ⟨0, V', N', A', Mi', ro2, M + 1, _, _, _, _, rfl, rfl, q2, hT2, fun hp => ?_, fun hp => absurd hp (by omega)⟩
        have : fPut N0 f hh (gI ys 0) (gI ys 1) = (updN (updN f (42 + (f 82).toNat) (gI ys 1)) 82 (f 82 + 1), fHand hh k [1, f 82, 0, 0, 0], 0) := by rw [hk]; unfold fPut; rw [if_neg (by omega), ef, if_neg (by decide), if_neg (by omega), Int.toNat_natCast]
        rw [this]; exact ⟨rfl, I.put _ (by omega), R.put I k _ (by omega)⟩
    rintro _ _ ⟨e, V', N', A', Mi', ro2, M', v', w', a', mi', rfl, rfl, q2, hT2, hput, hget⟩
    have hm2 : ∀ a v, ro a = some v → ro2 a = some v := fun a v h => q2 a v (hm a v h)
    refine ⟨⟨[], by simp⟩, f 0, f 1, V', N', A', Mi', T, Hs, X, e, rfl, fun rn _ => ?_⟩
    refine ff_put (r := rn) (a0 := f 0) (a1 := f 1) (a2 := V') (a3 := N') (a4 := A') (a5 := Mi') (a6 := T) (a7 := Hs) (a8 := X) (z0 := 0) (z1 := 0) (z2 := ⟨none, 0, 0⟩) (z3 := ⟨none, 0, 0⟩) (z4 := ⟨none, 0, 0⟩) (z5 := ⟨none, 0, 0⟩) (z6 := ⟨none, 0, 0⟩) (z7 := ⟨none, 0, 0⟩) (z8 := ⟨none, 0, 0⟩) (L ++ [ffE r (f 0) (f 1) V N A Mi T Hs X]) [] rfl ?_
    refine ff_get (r := rn) (a0 := f 0) (a1 := f 1) (a2 := V') (a3 := N') (a4 := A') (a5 := Mi') (a6 := T) (a7 := Hs) (a8 := X) (by simp) ?_
    refine ff_put (r := r) (a0 := f 0) (a1 := f 1) (a2 := V') (a3 := N') (a4 := A') (a5 := Mi') (a6 := T) (a7 := Hs) (a8 := X) (z0 := f 0) (z1 := f 1) (z2 := V) (z3 := N) (z4 := A) (z5 := Mi) (z6 := T) (z7 := Hs) (z8 := X) L [ffE rn (f 0) (f 1) V' N' A' Mi' T Hs X] (by simp) ?_
    refine ⟨fun b h => b = false ∧ FfSt p r N0 ro h, ⟨bb, hb, by omega, by omega, _, rd1 hm2, VIf_dec (fun hpos => ?_) (fun hneg => ?_)⟩, ?_⟩
    · obtain ⟨p1, p2, p3⟩ := hput hpos
      refine ⟨bb, hb, by omega, by omega, bb, hb, by omega, by omega, _, rd0 hm2, _, rd1 hm2, ?_⟩
      refine fq_put_c [] _ rfl hs ⟨by omega, m1⟩ (fun L' hs' => ⟨_, rfl, same_error_c (hG.up hm2) ⟨_, rfl, ?_⟩⟩)
      refine VIf_nb (fun h => absurd p1 (of_decide_eq_false h)) (fun _ => ⟨bb, hb, by omega, by omega, _, rd1 hm2, VIf_dec (fun h => absurd h (by omega)) (fun _ => ?_)⟩)
      refine ⟨⟨L' ++ [ffE r (f 0) (f 1) V' N' A' Mi' T Hs X], ro2⟩, Gh.drop (by simp), rfl, L', (fPut N0 f hh (gI ys 0) (gI ys 1)).1, _, ch, hi, ti, M', V', N', A', Mi', T, Hs, X, v', w', a', mi', t, hx, x, ro2, ?_, hm2, hT2, hs', p2, ?_⟩
      · rw [← p3.e0, ← p3.e1]
      · rw [← p3.e0, ← p3.e1]; exact p3
    · obtain ⟨p1, p2, p3⟩ := hget (by omega)
      refine ⟨bb, hb, by omega, by omega, _, rd1 hm2, VIf_dec (fun _ => ⟨bb, hb, by omega, by omega, _, rd0 hm2, ?_⟩) (fun h => absurd (by omega) h)⟩
      refine fq_get_c [] _ rfl hs (fun L' hs' => ⟨_, rfl, same_error_c (hG.up hm2) ⟨_, rfl, ?_⟩⟩)
      refine ⟨⟨L' ++ [ffE r (f 0) (f 1) V' N' A' Mi' T Hs X], ro2⟩, Gh.drop (by simp), by rw [decide_eq_true p1]; rfl, L', f, _, ch, hi, ti, M', V', N', A', Mi', T, Hs, X, v', w', a', mi', t, hx, x, ro2, rfl, hm2, hT2, hs', p2, p3⟩
    · rintro _ b _ ⟨rfl, hS⟩
      exact VIf_b (nomatch ·) (fun _ => gi hS)
  clear I hs hT R hm
  rintro _ _ ⟨L, f, hh, ch, hi, ti, M, V, N, A, Mi, T, Hs, X, v, w, a, mi, t, hx, x, ro', rfl, hm, hT, hs, I, R⟩
  refine ⟨fun h => FfSt p r N0 ro h, ?_, fun _ h hS => fin h hS⟩
  refine VIf_eq (fun hl => ?_) (fun _ => gi ⟨L, f, hh, ch, hi, ti, M, V, N, A, Mi, T, Hs, X, v, w, a, mi, t, hx, x, ro', rfl, hm, hT, hs, I, R⟩)
  obtain ⟨bb, hb⟩ := (rd (own := []) hm).addr (by simp; omega)
  have rd0 : ∀ {own ro2}, (∀ a v, ro a = some v → ro2 a = some v) → H.rd ⟨own, ro2⟩ (Addr.add (Addr.add bb (((0 : Int)).toNat * 1)) 0) (Value.int .i64 (gI ys 0)) := fun {own ro2} h => (rd (own := own) h).rdi hb (gI_ex (by omega))
  refine ⟨bb, hb, by omega, by omega, ff_get (a0 := f 0) (a1 := f 1) (a2 := V) (a3 := N) (a4 := A) (a5 := Mi) (a6 := T) (a7 := Hs) (a8 := X) (by simp) ⟨_, rd0 hm, ?_⟩⟩
  refine SemCall.mono (p := fun w2 h => ∃ d g e y0 y1 N' A' T' H' X' ro2 w' a' t' h' x', w2 = .tuple (List.toArray [.agg (List.toArray (ffC y0 y1 V N' A' Mi T' H' X')), .bool d, .int .i64 g, .int .i64 e]) ∧ h = ⟨L ++ [ffE r (f 0) (f 1) V N A Mi T Hs X], ro2⟩ ∧ (∀ a v, ro' a = some v → ro2 a = some v) ∧ FfR ro2 N0 M V N' A' Mi T' H' X' v w' a' mi t' h' x' ∧
    ((¬ (0 ≤ gI ys 0 ∧ gI ys 0 ≤ (N0 : Int) - 1) ∧ e = 1 ∧ d = false ∧ g = 0 ∧ FPI N0 M f hh v w' a' mi t' h' x' y0 y1) ∨ (∃ k : Nat, gI ys 0 = k ∧ k < N0 ∧ (fStepE f hh k).2.2.1 = d ∧ (fStepE f hh k).2.2.2.1 = g ∧ (fStepE f hh k).2.2.2.2 = e ∧ (∃ ch hi ti, FInv N0 (fStepE f hh k).1 (fStepE f hh k).2.1 ch hi ti) ∧ FPI N0 M (fStepE f hh k).1 (fStepE f hh k).2.1 v w' a' mi t' h' x' y0 y1))) ?_ ?_
  · have m1 := I.b.m1
    have eM := R.e
    by_cases hin : ¬ (0 ≤ gI ys 0 ∧ gI ys 0 ≤ (N0 : Int) - 1)
    · exact ref_fstep1_c hT hN4 hin ⟨false, 0, 1, f 0, f 1, N, A, T, Hs, X, ro', w, a, t, hx, x, rfl, rfl, fun _ _ h => h, hT, .inl ⟨hin, rfl, rfl, rfl, R⟩⟩
    obtain ⟨k, hk⟩ : ∃ k : Nat, gI ys 0 = (k : Int) := ⟨(gI ys 0).toNat, by omega⟩
    have hkn : k < N0 := by omega
    rw [hk]
    have ea := (R.r k hkn).1
    by_cases h0 : a k = 0
    · have e : fStepE f hh k = (f, hh, false, 0, 7) := by unfold fStepE; rw [if_pos (by omega)]
      exact ref_fstep7_c hT hN4 hkn h0 ⟨false, 0, 7, f 0, f 1, N, A, T, Hs, X, ro', w, a, t, hx, x, rfl, rfl, fun _ _ h => h, hT, .inr ⟨k, rfl, hkn, by rw [e], by rw [e], by rw [e], by rw [e]; exact ⟨ch, hi, ti, I⟩, by rw [e]; exact R⟩⟩
    · have hne : hh (k * 5 + 0) ≠ 0 := by omega
      obtain ⟨ok, s1, s2, s3⟩ := fp_sim I R hkn hne
      obtain ⟨ch', hi', ti', I', _⟩ := I.step hkn hne
      have e : fStepE f hh k = ((fStep f hh k).1, (fStep f hh k).2.1, (fStep f hh k).2.2.1, (fStep f hh k).2.2.2, 0) := by unfold fStepE; rw [if_neg hne]
      exact ref_fstep_c hT hN4 (by omega) hkn ok (fun N' A' T' H' X' ro2 q2 hT2 => ⟨_, _, 0, _, _, N', A', T', H', X', ro2, _, _, _, _, _, rfl, rfl, q2, hT2, .inr ⟨k, rfl, hkn, by rw [e]; exact s1.symm, by rw [e]; exact s2.symm, by rw [e], by rw [e]; exact ⟨ch', hi', ti', I'⟩, by rw [e]; exact s3⟩⟩)
  rintro _ _ ⟨d, g, e, y0, y1, N', A', T', H', X', ro2, w', a', t', h', x', rfl, rfl, q2, hT2, hres⟩
  have hm2 : ∀ a v, ro a = some v → ro2 a = some v := fun a v h => q2 a v (hm a v h)
  refine ⟨⟨[], by simp⟩, y0, y1, V, N', A', Mi, T', H', X', d, g, e, rfl, fun rn _ => ?_⟩
  refine ff_put (r := rn) (a0 := y0) (a1 := y1) (a2 := V) (a3 := N') (a4 := A') (a5 := Mi) (a6 := T') (a7 := H') (a8 := X') (z0 := 0) (z1 := 0) (z2 := ⟨none, 0, 0⟩) (z3 := ⟨none, 0, 0⟩) (z4 := ⟨none, 0, 0⟩) (z5 := ⟨none, 0, 0⟩) (z6 := ⟨none, 0, 0⟩) (z7 := ⟨none, 0, 0⟩) (z8 := ⟨none, 0, 0⟩) (L ++ [ffE r (f 0) (f 1) V N A Mi T Hs X]) [] rfl ?_
  refine ff_get (r := rn) (a0 := y0) (a1 := y1) (a2 := V) (a3 := N') (a4 := A') (a5 := Mi) (a6 := T') (a7 := H') (a8 := X') (by simp) ?_
  refine ff_put (r := r) (a0 := y0) (a1 := y1) (a2 := V) (a3 := N') (a4 := A') (a5 := Mi) (a6 := T') (a7 := H') (a8 := X') (z0 := f 0) (z1 := f 1) (z2 := V) (z3 := N) (z4 := A) (z5 := Mi) (z6 := T) (z7 := Hs) (z8 := X) L [ffE rn y0 y1 V N' A' Mi T' H' X'] (by simp) ?_
  refine ⟨bb, hb, by omega, by omega, _, rd0 hm2, ?_⟩
  have done : ∀ {L1 : List Ent} {f1 h1 : Nat → Int} {b : Bool} {g1 e1 : Int}, b = d → g1 = g → e1 = e → FqAt p N0 f1 h1 L1 → (∃ ch hi ti, FInv N0 f1 h1 ch hi ti) → FPI N0 M f1 h1 v w' a' mi t' h' x' y0 y1 →
      ∃ R188 : Bool → H → Prop, (SemCall Tryd.prog 6 (List.toArray [errV (eno 65 e1), .int .i64 e]) ⟨L1 ++ (ffE r y0 y1 V N' A' Mi T' H' X' :: [ffE rn y0 y1 V N' A' Mi T' H' X']), ro2⟩ fun v189 h190 => ∃ x191, v189 = .bool x191 ∧ VIf (!x191) (∃ h192, Gh h190 h192 ∧ R188 true h192) (VIf (!(b == d)) (∃ h193, Gh h190 h193 ∧ R188 true h193) (∃ h194, Gh h190 h194 ∧ R188 (g1 != g) h194))) ∧
        ∀ (_ : F) (x195 : Bool) (h196 : H), R188 x195 h196 → VIf x195 (VRet h196 (.bool false) post) (∃ h197, Gh h196 h197 ∧ FfSt p r N0 ro h197) := by
    rintro L1 f1 h1 b g1 e1 rfl rfl rfl hs1 ⟨ch1, hi1, ti1, I1⟩ R1
    refine ⟨fun b h => b = false ∧ FfSt p r N0 ro h, same_error_c (hG.up hm2) ⟨_, rfl, VIf_nb (fun h => absurd rfl (of_decide_eq_false h)) (fun _ => VIf_nb (fun h => by simp at h) (fun _ => ?_))⟩, ?_⟩
    · refine ⟨⟨L1 ++ [ffE r y0 y1 V N' A' Mi T' H' X'], ro2⟩, Gh.drop (by simp), by simp, L1, f1, h1, ch1, hi1, ti1, M, V, N', A', Mi, T', H', X', v, w', a', mi, t', h', x', ro2, ?_, hm2, hT2, hs1, I1, ?_⟩
      · rw [← R1.e0, ← R1.e1]
      · rw [← R1.e0, ← R1.e1]; exact R1
    · rintro _ b _ ⟨rfl, hS⟩
      exact VIf_b (nomatch ·) (fun _ => gi hS)
  rcases hres with ⟨hin, rfl, rfl, rfl, R1⟩ | ⟨k, hk, hkn, s1, s2, s3, I1, R1⟩
  · exact fq_out_c hs (fun _ h => by simp [h]) hin ⟨false, 0, _, rfl, done rfl rfl rfl hs ⟨ch, hi, ti, I⟩ R1⟩
  · rw [hk]
    exact fq_step_c [] _ rfl hs hkn (I.ok hkn) (fun L' hs' => ⟨_, _, _, rfl, done s1 s2 s3 hs' I1 R1⟩)
end Go.Proofs.YtogbkgimpkaemaaDoor
