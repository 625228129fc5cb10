import Derived.Test.YtogbkgimpkaemaaDoorSd
namespace Go.Proofs.YtogbkgimpkaemaaDoor
open Go.Eng
set_option maxRecDepth 20000
/-! ### the document's stack, any step, and a new one -/
theorem ref_sstep1_c {n : Nat} {q : Int} {d : SD} {S : SS} {own : List Ent} {ro : Addr → Option Value} {post : Value → H → Prop} (hr : StR ro n d S) (hn : n ≤ 4) (hq : ¬ (0 ≤ q ∧ q ≤ (n : Int) - 1)) (hk : post (sdQ false 0 1 d S) ⟨own, ro⟩) :
    SemCall Tryd.prog 11 (List.toArray [.agg (List.toArray (sdC d S)), .int .i64 q]) ⟨own, ro⟩ post := by
  have la := hr.a.len
  rw [ints_length, rm_len] at la
  refine f11_call _ _ _ _ _ _ _ _ _ _ _ _ _ post ?_
  refine new2 (n1 := 11) (n2 := 11) rfl rfl (fun r1 r3 => ?_)
  have m1 : ∀ {e : Ent} {Z : List Ent}, e ∈ own ++ e :: Z := by simp
  refine rS0 (sdE r1 d S) m1 rfl rfl ⟨⟨by omega, by omega⟩, ref3_in_c ⟨_, rfl, VIf_not (fun _ => ?_) (fun h => absurd ⟨h.1, by omega⟩ hq)⟩⟩
  exact sk_fin (own := own) (Y := []) (ro := ro) (r1 := r1) (r3 := r3) (a0 := d.tg) (a1 := d.nd) (a2 := d.tag) (a3 := S.V) (a4 := S.X) (a5 := S.U) (a6 := S.A) (a7 := S.M) (a8 := S.N) (a9 := S.T) (a10 := S.Y) (z0 := false) (z1 := 0) (z2 := 0) (z3 := zV) (z4 := zV) (z5 := zV) (z6 := zV) (z7 := zV) (z8 := zV) (z9 := zV) (z10 := zV) (Q := fun y0 y1 y2 y3 y4 y5 y6 y7 y8 y9 y10 => .tuple (List.toArray [.agg (List.toArray (skC y0 y1 y2 y3 y4 y5 y6 y7 y8 y9 y10)), .bool false, .int .i64 0, .int .i64 1])) (post := post) hk
theorem ref_sstep7_c {n k : Nat} {d : SD} {S : SS} {own : List Ent} {ro : Addr → Option Value} {post : Value → H → Prop} (hr : StR ro n d S) (hn : n ≤ 4) (hq : k < n) (h0 : d.a k = 0) (hk : post (sdQ false 0 7 d S) ⟨own, ro⟩) :
    SemCall Tryd.prog 11 (List.toArray [.agg (List.toArray (sdC d S)), .int .i64 (k : Int)]) ⟨own, ro⟩ post := by
  have la := hr.a.len
  rw [ints_length, rm_len] at la
  refine f11_call _ _ _ _ _ _ _ _ _ _ _ _ _ post ?_
  refine new2 (n1 := 11) (n2 := 11) rfl rfl (fun r1 r3 => ?_)
  have m1 : ∀ {e : Ent} {Z : List Ent}, e ∈ own ++ e :: Z := by simp
  refine rS0 (sdE r1 d S) m1 rfl rfl ⟨⟨by omega, by omega⟩, ref3_in_c ⟨_, rfl, VIf_not (fun h => absurd ⟨by omega, by omega⟩ h) (fun _ => ?_)⟩⟩
  refine rS0 (sdE r1 d S) m1 rfl rfl (rm_ati hr.a hq rfl (VIf_eq (fun _ => ?_) (fun z => absurd h0 z)))
  exact sk_fin (own := own) (Y := []) (ro := ro) (r1 := r1) (r3 := r3) (a0 := d.tg) (a1 := d.nd) (a2 := d.tag) (a3 := S.V) (a4 := S.X) (a5 := S.U) (a6 := S.A) (a7 := S.M) (a8 := S.N) (a9 := S.T) (a10 := S.Y) (z0 := false) (z1 := 0) (z2 := 0) (z3 := zV) (z4 := zV) (z5 := zV) (z6 := zV) (z7 := zV) (z8 := zV) (z9 := zV) (z10 := zV) (Q := fun y0 y1 y2 y3 y4 y5 y6 y7 y8 y9 y10 => .tuple (List.toArray [.agg (List.toArray (skC y0 y1 y2 y3 y4 y5 y6 y7 y8 y9 y10)), .bool false, .int .i64 0, .int .i64 7])) (post := post) hk
theorem mkn {own l : List Ent} {ro : Addr → Option Value} {N : Int} {K : Nat → H → Prop} (hw : Wf ⟨own ++ l, ro⟩) (h : ∀ r, Wf ⟨own ++ (l ++ [⟨some r, ints (List.replicate N.toNat 0), N.toNat⟩]), ro⟩ → K r ⟨own ++ (l ++ [⟨some r, ints (List.replicate N.toNat 0), N.toNat⟩]), ro⟩) :
    H.new ⟨own ++ l, ro⟩ (repl N.toNat [Value.int .i64 0]) K := by
  intro r f
  have e : (⟨some r, repl N.toNat [Value.int .i64 0], (repl N.toNat [Value.int .i64 0]).length⟩ : Ent) = ⟨some r, ints (List.replicate N.toNat 0), N.toNat⟩ := by rw [repl_ints, ints_length, List.length_replicate]
  show K r ⟨own ++ l ++ [⟨some r, repl N.toNat [Value.int .i64 0], (repl N.toNat [Value.int .i64 0]).length⟩], ro⟩
  rw [e, List.append_assoc]
  refine h r ?_
  rw [← List.append_assoc]
  exact hw.add f rfl
theorem mkb {own l : List Ent} {ro : Addr → Option Value} {K : Nat → H → Prop} (hw : Wf ⟨own ++ l, ro⟩) (h : ∀ r, Wf ⟨own ++ (l ++ [⟨some r, bs (fun _ => false), 4⟩]), ro⟩ → K r ⟨own ++ (l ++ [⟨some r, bs (fun _ => false), 4⟩]), ro⟩) :
    H.new ⟨own ++ l, ro⟩ (repl (4 : Int).toNat [Value.bool false]) K := by
  intro r f
  have e : (⟨some r, repl (4 : Int).toNat [Value.bool false], (repl (4 : Int).toNat [Value.bool false]).length⟩ : Ent) = ⟨some r, bs (fun _ => false), 4⟩ := rfl
  show K r ⟨own ++ l ++ [⟨some r, repl (4 : Int).toNat [Value.bool false], (repl (4 : Int).toNat [Value.bool false]).length⟩], ro⟩
  rw [e, List.append_assoc]
  refine h r ?_
  rw [← List.append_assoc]
  exact hw.add f rfl
def d0 (tg : Bool) : SD := ⟨tg, -1, 0, fun _ => 0, fun _ => 0, fun _ => false, fun _ => 0, fun _ => 0, fun _ => 0, fun _ => 0, fun _ => 0⟩
set_option maxHeartbeats 2000000 in
theorem ref_snew_c {n : Nat} {tg : Bool} {own : List Ent} {ro : Addr → Option Value} {post : Value → H → Prop} (hn : n ≤ 4) (hk : ∀ S ro', (∀ a v, ro a = some v → ro' a = some v) → StR ro' n (d0 tg) S → post (.agg (List.toArray (sdC (d0 tg) S))) ⟨own, ro'⟩) :
    SemCall Tryd.prog 7 (List.toArray [.int .i64 (n : Int), .bool tg]) ⟨own, ro⟩ post := by
  refine SemCall.wf (fun hw => ?_)
  refine f7_call _ _ _ post ?_
  intro r1 f1
  have hw1 : Wf ⟨own ++ [skZ r1], ro⟩ := hw.add f1 rfl
  have cn : 0 ≤ (n : Int) ∧ (n : Int) ≤ (n : Int) ∧ ((8 : Nat) : Int) * (n : Int) ≤ 140737488355328 ∧ (n : Int) ≤ 1000000000 := ⟨by omega, Int.le_refl _, by omega, by omega⟩
  refine ⟨by decide, by decide, by decide, by decide, mkn (own := own) hw1 (fun ra hwa => ⟨by decide, by decide, by decide, by decide, mkn (own := own) hwa (fun rb hwb => ⟨by decide, by decide, by decide, by decide, mkb (own := own) hwb (fun rc hwc =>
    ⟨cn.1, cn.2.1, cn.2.2.1, cn.2.2.2, mkn (own := own) hwc (fun rd hwd => ⟨cn.1, cn.2.1, cn.2.2.1, cn.2.2.2, mkn (own := own) hwd (fun re hwe => ⟨cn.1, cn.2.1, cn.2.2.1, cn.2.2.2, mkn (own := own) hwe (fun rf hwf => ⟨cn.1, cn.2.1, cn.2.2.1, cn.2.2.2, mkn (own := own) hwf (fun rg hwg => ⟨cn.1, cn.2.1, cn.2.2.1, cn.2.2.2, mkn (own := own) hwg (fun rh hwh => ?_)⟩)⟩)⟩)⟩)⟩)⟩)⟩)⟩
  simp only [List.cons_append, List.nil_append, Int.toNat_natCast] at hwh ⊢
  refine sk_put (a0 := tg) (a1 := -1) (a2 := 0) (a3 := ⟨some (Addr.mk ra 0 none), 4, 4⟩) (a4 := ⟨some (Addr.mk rb 0 none), 4, 4⟩) (a5 := ⟨some (Addr.mk rc 0 none), 4, 4⟩) (a6 := ⟨some (Addr.mk rd 0 none), n, n⟩) (a7 := ⟨some (Addr.mk re 0 none), n, n⟩) (a8 := ⟨some (Addr.mk rf 0 none), n, n⟩) (a9 := ⟨some (Addr.mk rg 0 none), n, n⟩) (a10 := ⟨some (Addr.mk rh 0 none), n, n⟩) (z0 := false) (z1 := 0) (z2 := 0) (z3 := zV) (z4 := zV) (z5 := zV) (z6 := zV) (z7 := zV) (z8 := zV) (z9 := zV) (z10 := zV) own _ rfl ?_
  refine sk_get (a0 := tg) (a1 := -1) (a2 := 0) (a3 := ⟨some (Addr.mk ra 0 none), 4, 4⟩) (a4 := ⟨some (Addr.mk rb 0 none), 4, 4⟩) (a5 := ⟨some (Addr.mk rc 0 none), 4, 4⟩) (a6 := ⟨some (Addr.mk rd 0 none), n, n⟩) (a7 := ⟨some (Addr.mk re 0 none), n, n⟩) (a8 := ⟨some (Addr.mk rf 0 none), n, n⟩) (a9 := ⟨some (Addr.mk rg 0 none), n, n⟩) (a10 := ⟨some (Addr.mk rh 0 none), n, n⟩) (by simp) ?_
  obtain ⟨ro', g, m, r⟩ := frzE (own := own) _ ro (hwh.sub (List.Sublist.append_left (List.sublist_cons_self _ _) _))
  have z : ∀ {x N : Nat} {xs : List Int}, xs.length = N → N ≤ 8 → (⟨some x, ints xs, N⟩ : Ent) ∈ ([⟨some ra, ints (List.replicate (4 : Int).toNat 0), (4 : Int).toNat⟩, ⟨some rb, ints (List.replicate (4 : Int).toNat 0), (4 : Int).toNat⟩, ⟨some rc, bs (fun _ => false), 4⟩, ⟨some rd, ints (List.replicate n 0), n⟩, ⟨some re, ints (List.replicate n 0), n⟩, ⟨some rf, ints (List.replicate n 0), n⟩, ⟨some rg, ints (List.replicate n 0), n⟩, ⟨some rh, ints (List.replicate n 0), n⟩] : List Ent) → RdSl ⟨[], ro'⟩ ⟨some (Addr.mk x 0 none), N, N⟩ (ints xs) := by
    intro x N xs hl hN hm
    exact r _ hm _ _ (OwnsSl.at0 1 (by simp [hl]) (by omega) (by simp only [maxLen]; omega))
  have zb : RdSl ⟨[], ro'⟩ ⟨some (Addr.mk rc 0 none), 4, 4⟩ (bs (fun _ => false)) := r _ (.tail _ (.tail _ (.head _))) _ _ (OwnsSl.at0 1 (by simp [bs_len]) (by omega) (by simp only [maxLen]; omega))
  refine ⟨⟨own, ro'⟩, (Gh.drop (List.Sublist.append_left (List.sublist_cons_self _ _) _)).trans g, hk ⟨⟨some (Addr.mk ra 0 none), 4, 4⟩, ⟨some (Addr.mk rb 0 none), 4, 4⟩, ⟨some (Addr.mk rc 0 none), 4, 4⟩, ⟨some (Addr.mk rd 0 none), n, n⟩, ⟨some (Addr.mk re 0 none), n, n⟩, ⟨some (Addr.mk rf 0 none), n, n⟩, ⟨some (Addr.mk rg 0 none), n, n⟩, ⟨some (Addr.mk rh 0 none), n, n⟩⟩ ro' m ⟨?_, ?_, zb, ?_, ?_, ?_, ?_, ?_⟩⟩
  · exact z (xs := [0, 0, 0, 0]) rfl (by omega) (.head _)
  · exact z (xs := [0, 0, 0, 0]) rfl (by omega) (.tail _ (.head _))
  all_goals (dsimp only [d0]; rw [rm_rep]; exact z (by simp) (by omega) (by simp))
/-! ### the document's stack, and this one -/
structure RelS (s : SK) (d : SD) (p : Nat) : Prop where
  a : d.a p = s.h (p * 5 + 0)
  m : d.a p = 1 ∨ d.a p = 2 → d.m p = s.h (p * 5 + 1)
  sn : d.a p = 2 ∨ d.a p = 4 ∨ d.a p = 5 → d.sn p = s.h (p * 5 + 3) ∧ d.st p = s.h (p * 5 + 4)
  sx : d.a p = 5 → d.sx p = s.h (p * 5 + 2)
structure SDR (n : Nat) (s : SK) (d : SD) : Prop where
  tg : d.tg = s.tg
  nd : d.nd = s.a
  tag : d.tag = s.t
  z : s.tg = false → s.t = 0
  v : ∀ k, k < 4 → d.v k = s.V k
  x : ∀ k, k < 4 → d.x k = s.X k
  u : ∀ k, k < 4 → d.u k = s.U k
  q : ∀ p, p < n → RelS s d p
theorem SDR.start (n : Nat) (tg : Bool) : SDR n (k0 tg) (d0 tg) := ⟨rfl, rfl, rfl, fun _ => rfl, fun _ _ => rfl, fun _ _ => rfl, fun _ _ => rfl, fun p _ => ⟨rfl, by simp [d0], by simp [d0], by simp [d0]⟩⟩
theorem SDR.least {n : Nat} {s : SK} {d : SD} (h : SDR n s d) : kLeast d.u = kLeast s.U := by
  unfold kLeast
  rw [h.u 0 (by omega), h.u 1 (by omega), h.u 2 (by omega), h.u 3 (by omega)]
/-- the other hands are as they were -/
theorem SDR.others {n q : Nat} {s s' : SK} {d d' : SD} {vs : List Int} (h : SDR n s d) (hh : s'.h = kHand s.h q vs) (ha : ∀ p, p ≠ q → d'.a p = d.a p) (hm : ∀ p, p ≠ q → d'.m p = d.m p) (hsn : ∀ p, p ≠ q → d'.sn p = d.sn p) (hst : ∀ p, p ≠ q → d'.st p = d.st p) (hsx : ∀ p, p ≠ q → d'.sx p = d.sx p)
    (c0 : d'.a q = gI vs 0) (c1 : gI vs 0 = 1 ∨ gI vs 0 = 2 → d'.m q = gI vs 1) (c2 : gI vs 0 = 2 ∨ gI vs 0 = 4 ∨ gI vs 0 = 5 → d'.sn q = gI vs 3 ∧ d'.st q = gI vs 4) (c3 : gI vs 0 = 5 → d'.sx q = gI vs 2) : ∀ p, p < n → RelS s' d' p := by
  intro p hp
  by_cases e : p = q
  · subst e
    have e := fun {k : Nat} (hk : k < 5) => (by rw [hh, kHand_same hk] : s'.h (p * 5 + k) = gI vs k)
    refine ⟨by rw [e (by omega)]; exact c0, fun h => ?_, fun h => ?_, fun h => ?_⟩
    · rw [e (by omega)]; exact c1 (by rw [← c0]; exact h)
    · rw [e (by omega), e (by omega)]; exact c2 (by rw [← c0]; exact h)
    · rw [e (by omega)]; exact c3 (by rw [← c0]; exact h)
  · have g := h.q p hp
    have f := fun {k : Nat} (hk : k < 5) => (by rw [hh, kHand_ne e hk] : s'.h (p * 5 + k) = s.h (p * 5 + k))
    refine ⟨by rw [f (by omega), ha p e]; exact g.a, fun h => ?_, fun h => ?_, fun h => ?_⟩
    · rw [f (by omega), hm p e]; exact g.m (by rw [← ha p e]; exact h)
    · rw [f (by omega), f (by omega), hsn p e, hst p e]; exact g.sn (by rw [← ha p e]; exact h)
    · rw [f (by omega), hsx p e]; exact g.sx (by rw [← ha p e]; exact h)
theorem SDR.pop {n : Nat} {s : SK} {d : SD} (h : SDR n s d) (q : Nat) : SDR n { s with h := kHand s.h q [3, 0, 0, 0, 0] } { d with a := updN d.a q 3 } :=
  ⟨h.tg, h.nd, h.tag, h.z, h.v, h.x, h.u, h.others (q := q) (vs := [3, 0, 0, 0, 0]) rfl (fun p hp => updN_ne hp) (fun _ _ => rfl) (fun _ _ => rfl) (fun _ _ => rfl) (fun _ _ => rfl) (updN_same _ _ _) (fun h => by rcases h with h | h <;> cases h) (fun h => by rcases h with h | h | h <;> cases h) (fun h => by cases h)⟩
theorem SDR.put {n : Nat} {s : SK} {d : SD} (h : SDR n s d) (q : Nat) (v : Int) : SDR n (kPut s q v) (dPut d q v) := by
  have el := h.least
  refine ⟨h.tg, h.nd, h.tag, h.z, fun k hk => ?_, h.x, fun k hk => ?_, h.others (q := q) (vs := [1, kLeast s.U, 0, 0, 0]) rfl (fun p hp => updN_ne hp) (fun p hp => updN_ne hp) (fun _ _ => rfl) (fun _ _ => rfl) (fun _ _ => rfl) (updN_same _ _ _) (fun _ => ?_) (fun h => by rcases h with h | h | h <;> cases h) (fun h => by cases h)⟩
  · show updN d.v (kLeast d.u) v k = updN s.V (kLeast s.U) v k
    rw [el]
    rcases updN_cases (f := d.v) (q := kLeast s.U) (v := v) k with ⟨e, e1⟩ | ⟨e, e1⟩
    · rw [e1, e, updN_same]
    · rw [e1, updN_ne e]; exact h.v k hk
  · show updN d.u (kLeast d.u) true k = updN s.U (kLeast s.U) true k
    rw [el]
    rcases updN_cases (f := d.u) (q := kLeast s.U) (v := true) k with ⟨e, e1⟩ | ⟨e, e1⟩
    · rw [e1, e, updN_same]
    · rw [e1, updN_ne e]; exact h.u k hk
  · show updN d.m q (kLeast d.u : Int) q = (kLeast s.U : Int)
    rw [updN_same, el]
set_option maxHeartbeats 1000000 in
theorem SDR.step {n q : Nat} {s : SK} {d : SD} {i : Int} (h : SDR n s d) (I : KI n s i) (hi : i ≤ 100000) (hq : q < n) (hz : s.h (q * 5 + 0) ≠ 0) : SOk d q ∧ (dStep d q).2.1 = (kStep s q).2.1 ∧ (dStep d q).2.2 = (kStep s q).2.2 ∧ SDR n (kStep s q).1 (dStep d q).1 := by
  obtain ⟨ga, gm, gs, gx⟩ := h.q q hq
  obtain ⟨c0, c1, c2, c3, c4⟩ := I.q q hq
  have nd := h.nd
  have tag := h.tag
  have ht := I.t
  have cs : s.h (q * 5 + 0) = 1 ∨ s.h (q * 5 + 0) = 2 ∨ s.h (q * 5 + 0) = 3 ∨ s.h (q * 5 + 0) = 4 ∨ s.h (q * 5 + 0) = 5 := by omega
  refine ⟨⟨by omega, by omega, fun e => ?_, fun e => ?_⟩, ?_⟩
  · have := gm (.inl e); have := c1 (.inl (by omega)); omega
  · have := gs (by omega); have := c2 (by omega); omega
  have up : ∀ {α : Type} {f : Nat → α} {y : α} (p : Nat), p ≠ q → updN f q y p = f p := fun p hp => updN_ne hp
  have tagE : d.st q = s.h (q * 5 + 4) → s.t = s.h (q * 5 + 4) → dTag d = kTag s (s.h (q * 5 + 4)) := fun e1 e2 => by
    unfold dTag kTag
    rw [h.tg]
    by_cases hb : s.tg = true
    · rw [if_pos hb, if_pos hb]; omega
    · rw [if_neg hb, if_neg hb]
      have := h.z (by simpa using hb)
      omega
  have tagZ : s.tg = false → kTag s (s.h (q * 5 + 4)) = 0 := fun hb => by unfold kTag; rw [if_neg (by rw [hb]; decide)]
  rcases cs with b | b | b | b | b
  · have aq : d.a q = 1 := by omega
    have e1 : dStep d q = ({ d with sn := updN d.sn q d.nd, st := updN d.st q d.tag, x := updN d.x (d.m q).toNat d.nd, a := updN d.a q 2 }, false, 0) := by simp [dStep, aq]
    have e2 : kStep s q = ({ s with X := updN s.X (s.h (q * 5 + 1)).toNat s.a, h := kHand s.h q [2, s.h (q * 5 + 1), s.h (q * 5 + 2), s.a, s.t] }, false, 0) := by unfold kStep; rw [if_pos b]
    rw [e1, e2]
    have em := gm (.inl aq)
    refine ⟨rfl, rfl, h.tg, nd, tag, h.z, h.v, fun k hk => ?_, h.u, h.others (q := q) rfl up (fun _ _ => rfl) up up (fun _ _ => rfl) (updN_same _ _ _) (fun _ => em) (fun _ => ⟨(updN_same _ _ _).trans nd, (updN_same _ _ _).trans tag⟩) (fun h => by cases h)⟩
    show updN d.x (d.m q).toNat d.nd k = updN s.X (s.h (q * 5 + 1)).toNat s.a k
    rw [em, nd]
    rcases updN_cases (f := d.x) (q := (s.h (q * 5 + 1)).toNat) (v := s.a) k with ⟨e, e1⟩ | ⟨e, e1⟩
    · rw [e1, e, updN_same]
    · rw [e1, updN_ne e]; exact h.x k hk
  · have aq : d.a q = 2 := by omega
    have em := gm (.inr aq)
    obtain ⟨es, et⟩ := gs (.inl aq)
    by_cases hc : s.a = s.h (q * 5 + 3) ∧ s.t = s.h (q * 5 + 4)
    · have e1 : dStep d q = ({ d with tag := dTag d, a := updN d.a q 0, nd := d.m q }, true, -1) := by
        unfold dStep; rw [if_neg (by omega), if_neg (by omega), if_neg (by omega), if_neg (by omega), if_pos aq]
      have e2 : kStep s q = ({ s with a := s.h (q * 5 + 1), t := kTag s (s.h (q * 5 + 4)), h := kHand s.h q [0, 0, 0, 0, 0] }, true, -1) := by
        unfold kStep; rw [if_neg (by omega), if_pos b, if_pos hc]
      rw [e1, e2]
      exact ⟨rfl, rfl, h.tg, em, tagE et hc.2, tagZ, h.v, h.x, h.u, h.others (q := q) rfl up (fun _ _ => rfl) (fun _ _ => rfl) (fun _ _ => rfl) (fun _ _ => rfl) (updN_same _ _ _) (fun h => by rcases h with h | h <;> cases h) (fun h => by rcases h with h | h | h <;> cases h) (fun h => by cases h)⟩
    · have e1 : dStep d q = ({ d with a := updN d.a q 1 }, false, 0) := by
        unfold dStep; rw [if_neg (by omega), if_neg (by omega), if_neg (by omega), if_pos (by omega), if_neg (by omega)]
      have e2 : kStep s q = ({ s with h := kHand s.h q [1, s.h (q * 5 + 1), s.h (q * 5 + 2), s.h (q * 5 + 3), s.h (q * 5 + 4)] }, false, 0) := by
        unfold kStep; rw [if_neg (by omega), if_pos b, if_neg hc]
      rw [e1, e2]
      exact ⟨rfl, rfl, h.tg, nd, tag, h.z, h.v, h.x, h.u, h.others (q := q) rfl up (fun _ _ => rfl) (fun _ _ => rfl) (fun _ _ => rfl) (fun _ _ => rfl) (updN_same _ _ _) (fun _ => em) (fun h => by rcases h with h | h | h <;> cases h) (fun h => by cases h)⟩
  · have aq : d.a q = 3 := by omega
    by_cases hc : s.a < 0
    · have e1 : dStep d q = ({ d with sn := updN d.sn q d.nd, st := updN d.st q d.tag, a := updN d.a q 0 }, true, -1) := by
        unfold dStep; rw [if_neg (by omega), if_neg (by omega), if_pos aq, if_pos (by omega)]
      have e2 : kStep s q = ({ s with h := kHand s.h q [0, 0, 0, 0, 0] }, true, -1) := by
        unfold kStep; rw [if_neg (by omega), if_neg (by omega), if_pos b, if_pos hc]
      rw [e1, e2]
      exact ⟨rfl, rfl, h.tg, nd, tag, h.z, h.v, h.x, h.u, h.others (q := q) rfl up (fun _ _ => rfl) up up (fun _ _ => rfl) (updN_same _ _ _) (fun h => by rcases h with h | h <;> cases h) (fun h => by rcases h with h | h | h <;> cases h) (fun h => by cases h)⟩
    · have e1 : dStep d q = ({ d with sn := updN d.sn q d.nd, st := updN d.st q d.tag, a := updN d.a q 4 }, false, 0) := by
        unfold dStep; rw [if_neg (by omega), if_neg (by omega), if_pos aq, if_neg (by omega)]
      have e2 : kStep s q = ({ s with h := kHand s.h q [4, s.h (q * 5 + 1), s.h (q * 5 + 2), s.a, s.t] }, false, 0) := by
        unfold kStep; rw [if_neg (by omega), if_neg (by omega), if_pos b, if_neg hc]
      rw [e1, e2]
      exact ⟨rfl, rfl, h.tg, nd, tag, h.z, h.v, h.x, h.u, h.others (q := q) rfl up (fun _ _ => rfl) up up (fun _ _ => rfl) (updN_same _ _ _) (fun h => by rcases h with h | h <;> cases h) (fun _ => ⟨(updN_same _ _ _).trans nd, (updN_same _ _ _).trans tag⟩) (fun h => by cases h)⟩
  · have aq : d.a q = 4 := by omega
    obtain ⟨es, et⟩ := gs (.inr (.inl aq))
    have n1 := c2 (.inl b)
    have e1 : dStep d q = ({ d with sx := updN d.sx q (d.x (d.sn q).toNat), a := updN d.a q 5 }, false, 0) := by unfold dStep; rw [if_pos aq]
    have e2 : kStep s q = ({ s with h := kHand s.h q [5, s.h (q * 5 + 1), s.X (s.h (q * 5 + 3)).toNat, s.h (q * 5 + 3), s.h (q * 5 + 4)] }, false, 0) := by
      unfold kStep; rw [if_neg (by omega), if_neg (by omega), if_neg (by omega), if_pos b]
    rw [e1, e2]
    exact ⟨rfl, rfl, h.tg, nd, tag, h.z, h.v, h.x, h.u, h.others (q := q) rfl up (fun _ _ => rfl) (fun _ _ => rfl) (fun _ _ => rfl) up (updN_same _ _ _) (fun h => by rcases h with h | h <;> cases h) (fun _ => ⟨es, et⟩) (fun _ => (updN_same _ _ _).trans (by rw [es]; exact h.x _ (by omega)))⟩
  · have aq : d.a q = 5 := by omega
    obtain ⟨es, et⟩ := gs (.inr (.inr aq))
    have ex := gx aq
    have n1 := c2 (.inr b)
    by_cases hc : s.a = s.h (q * 5 + 3) ∧ s.t = s.h (q * 5 + 4)
    · have e1 : dStep d q = ({ d with tag := dTag d, a := updN d.a q 0, nd := d.sx q, u := updN d.u (d.sn q).toNat false }, true, d.v (d.sn q).toNat) := by
        unfold dStep; rw [if_neg (by omega), if_neg (by omega), if_neg (by omega), if_neg (by omega), if_neg (by omega)]
      have e2 : kStep s q = ({ s with a := s.h (q * 5 + 2), t := kTag s (s.h (q * 5 + 4)), U := updN s.U (s.h (q * 5 + 3)).toNat false, h := kHand s.h q [0, 0, 0, 0, 0] }, true, s.V (s.h (q * 5 + 3)).toNat) := by
        unfold kStep; rw [if_neg (by omega), if_neg (by omega), if_neg (by omega), if_neg (by omega), if_pos b, if_pos hc]
      rw [e1, e2]
      refine ⟨rfl, by rw [es]; exact h.v _ (by omega), h.tg, ex, tagE et hc.2, tagZ, h.v, h.x, fun k hk => ?_, h.others (q := q) rfl up (fun _ _ => rfl) (fun _ _ => rfl) (fun _ _ => rfl) (fun _ _ => rfl) (updN_same _ _ _) (fun h => by rcases h with h | h <;> cases h) (fun h => by rcases h with h | h | h <;> cases h) (fun h => by cases h)⟩
      show updN d.u (d.sn q).toNat false k = updN s.U (s.h (q * 5 + 3)).toNat false k
      rw [es]
      rcases updN_cases (f := d.u) (q := (s.h (q * 5 + 3)).toNat) (v := false) k with ⟨e, e1⟩ | ⟨e, e1⟩
      · rw [e1, e, updN_same]
      · rw [e1, updN_ne e]; exact h.u k hk
    · have e1 : dStep d q = ({ d with a := updN d.a q 3 }, false, 0) := by
        unfold dStep; rw [if_neg (by omega), if_neg (by omega), if_neg (by omega), if_pos (by omega), if_pos aq]
      have e2 : kStep s q = ({ s with h := kHand s.h q [3, s.h (q * 5 + 1), s.h (q * 5 + 2), s.h (q * 5 + 3), s.h (q * 5 + 4)] }, false, 0) := by
        unfold kStep; rw [if_neg (by omega), if_neg (by omega), if_neg (by omega), if_neg (by omega), if_pos b, if_neg hc]
      rw [e1, e2]
      exact ⟨rfl, rfl, h.tg, nd, tag, h.z, h.v, h.x, h.u, h.others (q := q) rfl up (fun _ _ => rfl) (fun _ _ => rfl) (fun _ _ => rfl) (fun _ _ => rfl) (updN_same _ _ _) (fun h => by rcases h with h | h <;> cases h) (fun h => by rcases h with h | h | h <;> cases h) (fun h => by cases h)⟩
end Go.Proofs.YtogbkgimpkaemaaDoor
