import Derived.Test.YtnecppjgcbhnaaaDoorRi
namespace Go.Proofs.YtnecppjgcbhnaaaDoor
open Go.Eng
set_option maxRecDepth 20000
def refGet (pl : List Int) (hd tl o ha : Int) : Int × Int × Int × Bool × Int × Int :=
  if o = 0 then (hd, o, ha, false, 0, 7)
  else if o = 4 ∧ tl = hd then (hd, 0, ha, true, -1, 0)
  else if o = 5 then (hd, o + 1, (pl[(hd.tmod pl.length).toNat]?).getD 0, false, 0, 0)
  else if o = 6 then (hd + 1, 0, ha, true, ha, 0)
  else (hd, o + 1, ha, false, 0, 0)
set_option maxHeartbeats 1000000 in
theorem ref_stepget_c {s : SV} {pl : List Int} {hd tl i o pu ha : Int} {own : List Ent} {ro : Addr → Option Value} {post : Value → H → Prop} (hr : RdSl ⟨[], ro⟩ s (ints pl)) (n0 : 0 < pl.length) (n1 : pl.length ≤ 8) (h0 : 0 ≤ hd) (h1 : hd ≤ tl) (t1 : tl ≤ 1000000) (o0 : 0 ≤ o) (o1 : o ≤ 6)
    (hk : post (.tuple (List.toArray [.agg (List.toArray (rgC s (refGet pl hd tl o ha).1 tl i (refGet pl hd tl o ha).2.1 pu (refGet pl hd tl o ha).2.2.1)), .bool (refGet pl hd tl o ha).2.2.2.1, .int .i64 (refGet pl hd tl o ha).2.2.2.2.1, .int .i64 (refGet pl hd tl o ha).2.2.2.2.2])) ⟨own, ro⟩) :
    SemCall Tryd.prog 10 (List.toArray [.agg (List.toArray (rgC s hd tl i o pu ha))]) ⟨own, ro⟩ post := by
  refine f10_call _ _ _ _ _ _ _ _ post ?_
  have hsl := hr.len
  rw [ints_length] at hsl
  refine new2 (n1 := 7) (n2 := 7) rfl rfl (fun r1 r3 => ?_)
  have m1 : ∀ {s : SV} {a b c d e f : Int} {X : List Ent}, rgE r1 s a b c d e f ∈ own ++ rgE r1 s a b c d e f :: X := by simp
  have m3 : ∀ {s : SV} {a b c d e f : Int} {x : Ent}, rgE r3 s a b c d e f ∈ own ++ [x] ++ [rgE r3 s a b c d e f] := by simp
  refine rI0 (rgE r1 s hd tl i o pu ha) m1 rfl rfl (VIf_eq (fun z => rg_fin (own := own) (r1 := r1) (r3 := r3) (s := s) (a := hd) (b := tl) (c := i) (d := o) (e := pu) (f := ha) (s3 := ⟨none, 0, 0⟩) (a3 := 0) (b3 := 0) (c3 := 0) (d3 := 0) (e3 := 0) (f3 := 0) ?_) (fun z => ?_))
  · unfold refGet at hk; rw [if_pos z] at hk; exact hk
  refine join_bk (h := ⟨own ++ [rgE r1 s hd tl i o pu ha, rgE r3 ⟨none, 0, 0⟩ 0 0 0 0 0 0], ro⟩) (decide (o = 4 ∧ tl = hd)) ?_ (rI0 (rgE r1 s hd tl i o pu ha) m1 rfl rfl (VIf_eq (fun e1 => rI0 (rgE r1 s hd tl i o pu ha) m1 rfl rfl (rI0 (rgE r1 s hd tl i o pu ha) m1 rfl rfl (gi ⟨rfl, ?_⟩))) (fun e1 => gi ⟨rfl, by simp [e1]⟩)))
  rotate_left
  · rw [e1]; simp; rfl
  refine VIf_dec (fun c => ?_) (fun c => ?_)
  · refine rg_w s hd tl i 0 pu ha rfl (by decide) rfl (rg_fin ?_)
    unfold refGet at hk; rw [if_neg z, if_pos c] at hk; exact hk
  refine rI0 (rgE r1 s hd tl i o pu ha) m1 rfl rfl ?_
  refine ⟨fun h => h = ⟨own ++ [rgE r1 s hd tl i o pu (if o = 5 then (pl[(hd.tmod pl.length).toNat]?).getD 0 else ha), rgE r3 ⟨none, 0, 0⟩ 0 0 0 0 0 0], ro⟩, VIf_eq (fun e2 => ?_) (fun e2 => gi (by rw [if_neg e2])), ?_⟩
  · refine rS0 (rgE r1 s hd tl i o pu ha) m1 rfl rfl (rI0 (rgE r1 s hd tl i o pu ha) m1 rfl rfl (rS0 (rgE r1 s hd tl i o pu ha) m1 rfl rfl ⟨by omega, ?_⟩))
    obtain ⟨t0, t2⟩ := tmod_rng (a := hd) (n := s.len) (by omega) (by omega)
    refine RdSl.idx (h := ⟨own ++ [rgE r1 s hd tl i o pu ha, rgE r3 ⟨none, 0, 0⟩ 0 0 0 0 0 0], ro⟩) hr.ro t0 t2 (fun x hx => ?_)
    refine rg_w s hd tl i o pu x rfl (by decide) rfl (gi ?_)
    rw [if_pos e2, ← hsl, hx]; rfl
  rintro _ _ rfl
  obtain ⟨g, hg⟩ : ∃ g, g = (if o = 5 then (pl[(hd.tmod pl.length).toNat]?).getD 0 else ha) := ⟨_, rfl⟩
  rw [← hg]
  refine rI0 (rgE r1 s hd tl i o pu g) m1 rfl rfl (VIf_eq (fun e3 => ?_) (fun e3 => ?_))
  · have hgg : g = ha := by rw [hg, if_neg (by omega)]
    subst hgg
    refine rI0 (rgE r1 s hd tl i o pu g) m1 rfl rfl ⟨⟨by omega, by omega⟩, rg_w s (hd + 1) tl i o pu g rfl (by decide) rfl (rg_w s (hd + 1) tl i 0 pu g rfl (by decide) rfl ?_)⟩
    refine ⟨fun b x e h => b = true ∧ x = g ∧ e = 0 ∧ h = ⟨own ++ [rgE r1 s (hd + 1) tl i 0 pu g] ++ [rgE r3 s (hd + 1) tl i 0 pu g], ro⟩, ⟨?_, ?_⟩, ?_⟩
    · refine rg_get (s := s) (a := hd + 1) (b := tl) (c := i) (d := 0) (e := pu) (f := g) (by simp) ⟨?_, ?_⟩
      · refine rI0 (rgE r1 s (hd + 1) tl i 0 pu g) m1 rfl rfl ?_
        refine rg_put (s' := ⟨none, 0, 0⟩) (a' := 0) (b' := 0) (c' := 0) (d' := 0) (e' := 0) (f' := 0) (own ++ [rgE r1 s (hd + 1) tl i 0 pu g]) [] (by simp) ?_
        exact gi ⟨rfl, rfl, rfl, rfl⟩
      · refine rg_put (s' := ⟨none, 0, 0⟩) (a' := 0) (b' := 0) (c' := 0) (d' := 0) (e' := 0) (f' := 0) (own ++ [rgE r1 s (hd + 1) tl i 0 pu g]) [] (by simp) ?_
        refine rI0 (rgE r1 s (hd + 1) tl i 0 pu g) (by simp) rfl rfl ?_
        exact gi ⟨rfl, rfl, rfl, rfl⟩
    · refine rI0 (rgE r1 s (hd + 1) tl i 0 pu g) m1 rfl rfl ?_
      refine rg_get (s := s) (a := hd + 1) (b := tl) (c := i) (d := 0) (e := pu) (f := g) (by simp) ?_
      refine rg_put (s' := ⟨none, 0, 0⟩) (a' := 0) (b' := 0) (c' := 0) (d' := 0) (e' := 0) (f' := 0) (own ++ [rgE r1 s (hd + 1) tl i 0 pu g]) [] (by simp) ?_
      exact gi ⟨rfl, rfl, rfl, rfl⟩
    rintro _ _ x85 _ _ ⟨rfl, hxg, rfl, rfl⟩
    rw [hxg]
    refine rg_get (s := s) (a := hd + 1) (b := tl) (c := i) (d := 0) (e := pu) (f := g) (by simp) ?_
    refine ⟨⟨own, ro⟩, Gh.drop (by simp), ?_⟩
    unfold refGet at hk; rw [if_neg z, if_neg c, if_neg (by omega), if_pos e3] at hk
    exact hk
  · refine rI0 (rgE r1 s hd tl i o pu g) m1 rfl rfl ⟨⟨by omega, by omega⟩, rg_w s hd tl i (o + 1) pu g rfl (by decide) rfl (rg_fin ?_)⟩
    unfold refGet at hk; rw [if_neg z, if_neg c] at hk
    by_cases e2 : o = 5
    · rw [if_pos e2] at hk hg; rw [hg]; exact hk
    · rw [if_neg e2, if_neg e3] at hk; rw [if_neg e2] at hg; rw [hg]; exact hk
theorem ring_ends_c {p : Nat} {r : Ring} {L own : List Ent} {ro : Addr → Option Value} {post : Value → H → Prop} (hs : RingAt p r L) (hL : ∀ e ∈ L, e ∈ own) (hk : post (.tuple (List.toArray [.int .i64 r.head, .int .i64 r.tail])) ⟨own, ro⟩) :
    SemCall Tryd.prog 15 (List.toArray [.pointer (some (Addr.mk p 0 none))]) ⟨own, ro⟩ post := by
  refine f15_call _ _ post ?_
  obtain ⟨s, e, rfl, ho⟩ := hs
  simp only [f15_sem, add_mk', Option.some.injEq, exists_eq_left']
  exact ⟨r.head, rdo (ringE p s r) (hL _ (.head _)) rfl rfl, r.tail, rdo (ringE p s r) (hL _ (.head _)) rfl rfl, ret hk⟩
/-! ### the law -/
def RpSt (p r15 : Nat) (ro : Addr → Option Value) (size i : Int) (h : H) : Prop :=
  ∃ L r s ro' pu ha, h = ⟨L ++ [rgE r15 s r.head r.tail r.ia r.oa pu ha], ro'⟩ ∧ (∀ a v, ro a = some v → ro' a = some v) ∧ RdSl ⟨[], ro'⟩ s (ints r.places) ∧ RingAt p r L ∧ r.Ok ∧ (r.ia ≠ 0 → pu = r.iv) ∧ (r.oa = 6 → ha = r.ov) ∧ (r.oa = 5 ∨ r.oa = 6 → r.head < r.tail) ∧ r.tail ≤ i
set_option maxHeartbeats 2000000 in
theorem ringPlays_c {size : Int} {st : SV} {xs : List Int} {ro : Addr → Option Value} {post : Value → H → Prop} (hG : HasErrT ro) (hr : RdSl ⟨[], ro⟩ st (ints xs)) (hpost : ∀ h, post (.bool true) h) :
    SemCall Tryd.prog 3 (List.toArray [.int .i64 size, .slice st.a st.len st.cap]) ⟨[], ro⟩ post := by
  refine f3_call _ _ _ post ?_
  refine ring_new_c (fun hc => ⟨_, _, rfl, join_or ?_⟩) (fun p L hs c0 c1 => ⟨_, none, rfl, join_or ?_⟩)
  · rw [show decide (size < 1 ∨ size > 8) = true from decide_eq_true (by omega)]
    exact VIf_b (fun _ => same_error_c hG ⟨_, rfl, ret (hpost _)⟩) (nomatch ·)
  rw [show decide (size < 1 ∨ size > 8) = false from decide_eq_false (by omega)]
  refine VIf_b (nomatch ·) (fun _ => VIf_nnil ⟨by omega, Int.le_refl _, by omega, by omega, ?_⟩)
  intro r13 f13 r15 _
  rw [List.nil_append]
  have e0 : L ++ [⟨some r13, repl size.toNat [Value.int .i64 0], (repl size.toNat [Value.int .i64 0]).length⟩] = L ++ [⟨some r13, ints (List.replicate size.toNat 0), size.toNat⟩] := by
    rw [repl_ints, ints_length, List.length_replicate]
  rw [e0]
  refine rg_put (r := r15) (s := ⟨some (Addr.mk r13 0 none), size.toNat, size.toNat⟩) (a := 0) (b := 0) (c := 0) (d := 0) (e := 0) (f := 0) (s' := ⟨none, 0, 0⟩) (a' := 0) (b' := 0) (c' := 0) (d' := 0) (e' := 0) (f' := 0) (L ++ [⟨some r13, ints (List.replicate size.toNat 0), size.toNat⟩]) [] rfl ?_
  have hf : ∀ a v, ro a = some v → (⟨some r13, ints (List.replicate size.toNat 0), size.toNat⟩ : Ent).id ≠ some a.block := fun a v h => by
    have := f13.2 a v h
    simp; exact fun h => this h.symm
  refine ⟨fun _ => True, ⟨fun n i h => RpSt p r15 ro size i h ∧ 0 ≤ i ∧ i ≤ 300 ∧ n = (300 - i).toNat, ⟨300, ⟨L ++ [rgE r15 ⟨some (Addr.mk r13 0 none), size.toNat, size.toNat⟩ 0 0 0 0 0 0], Go.Eng.frozen ⟨some r13, ints (List.replicate size.toNat 0), size.toNat⟩ ro⟩, ?_, ⟨L, _, _, _, 0, 0, rfl, frozen_mono hf, ?_, hs, ?_, ?_, ?_, ?_, ?_⟩, by omega, by omega, rfl⟩, ?_⟩, fun _ h _ => ret (hpost h)⟩
  · have := Gh.freeze L [rgE r15 ⟨some (Addr.mk r13 0 none), size.toNat, size.toNat⟩ 0 0 0 0 0 0] ro _ hf
    simpa using this
  · exact RdSl.frozen (OwnsSl.at0 1 (by simp [ints]) (by omega) (by simp only [maxLen]; omega))
  · exact ⟨by simp; omega, by simp; omega, by simp, by simp, by simp, by simp, by simp, .inl rfl⟩
  · exact fun h => absurd rfl h
  · exact fun h => absurd (show (0 : Int) = 6 from h) (by decide)
  · rintro (h | h)
    · exact absurd (show (0 : Int) = 5 from h) (by decide)
    · exact absurd (show (0 : Int) = 6 from h) (by decide)
  · show (0 : Int) ≤ 0; omega
  rintro n _ i h ⟨⟨L, r, s, ro', pu, ha, rfl, hm, hrs, hs, hok, hpu, hha, hlt, hti⟩, hi0, hi1, rfl⟩
  have hr : ∀ {own}, RdSl ⟨own, ro'⟩ st (ints xs) := fun {own} => RdSl.up hr (by simp) hm
  have hG' := hG.up hm
  obtain ⟨n0, n1, h0, h1, t1, i0, i1, o1⟩ := hok
  have m15 : ∀ {L : List Ent} {s : SV} {a b c d e f : Int}, rgE r15 s a b c d e f ∈ L ++ [rgE r15 s a b c d e f] := by simp
  refine join_and (VIf_dec (fun hi => ?_) (fun _ => gi trivial))
  refine hr.idx hi0 hi.1 fun x hx => ?_
  refine ⟨fun h => RpSt p r15 ro size (i + 1) h, ?_, ?_⟩
  rotate_left
  · -- the ends and the places
    rintro _ _ ⟨L, r, s, ro', pu, ha, rfl, hm, hrs, hs, hok, hpu, hha, hlt, hti⟩
    refine ring_ends_c hs (fun _ h => by simp [h]) ⟨_, _, rfl, ?_⟩
    have hS : RpSt p r15 ro size (i + 1) ⟨L ++ [rgE r15 s r.head r.tail r.ia r.oa pu ha], ro'⟩ := ⟨L, r, s, ro', pu, ha, rfl, hm, hrs, hs, hok, hpu, hha, hlt, hti⟩
    refine ⟨fun b h => b = false ∧ RpSt p r15 ro size (i + 1) h, rI0 _ m15 rfl rfl (VIf_ne (fun h => absurd rfl h) (fun _ => rI0 _ m15 rfl rfl (VIf_ne (fun h => absurd rfl h) (fun _ => ⟨?_, ?_⟩)))), ?_⟩
    · refine ring_places_c hs (fun _ h => by simp [h]) (by have := hok.n1; omega) (fun s2 e2 o2 => ⟨s2, rfl, rS0 (rgE r15 s r.head r.tail r.ia r.oa pu ha) (by simp) rfl rfl ?_⟩)
      refine same_ints_c (RdSl.of_own (e := e2) (by simp) o2) hrs.ro (by have := o2.sl_len; rw [ints_length] at this; have := hok.n1; omega) ⟨_, rfl, ?_⟩
      exact ⟨_, Gh.drop (by simp), by simp, hS⟩
    · refine rS0 (rgE r15 s r.head r.tail r.ia r.oa pu ha) (by simp) rfl rfl (ring_places_c hs (fun _ h => by simp [h]) (by have := hok.n1; omega) (fun s2 e2 o2 => ⟨s2, rfl, ?_⟩))
      refine same_ints_c (RdSl.of_own (e := e2) (by simp) o2) hrs.ro (by have := o2.sl_len; rw [ints_length] at this; have := hok.n1; omega) ⟨_, rfl, ?_⟩
      exact ⟨_, Gh.drop (by simp), by simp, hS⟩
    rintro _ b h ⟨rfl, hS⟩
    exact VIf_b (nomatch ·) (fun _ => ⟨⟨by omega, by omega⟩, _, by omega, gi ⟨hS, by omega, by omega, rfl⟩⟩)
  -- what is read of the box, and put back
  have nx : ∀ {L' : List Ent} {r' : Ring} {s' : SV} {ro2 : Addr → Option Value} {pu' ha' : Int}, (∀ a v, ro' a = some v → ro2 a = some v) → RdSl ⟨[], ro2⟩ s' (ints r'.places) → RingAt p r' L' → r'.Ok → (r'.ia ≠ 0 → pu' = r'.iv) → (r'.oa = 6 → ha' = r'.ov) → (r'.oa = 5 ∨ r'.oa = 6 → r'.head < r'.tail) → r'.tail ≤ i + 1 →
      RpSt p r15 ro size (i + 1) ⟨[] ++ (L' ++ [rgE r15 s' r'.head r'.tail r'.ia r'.oa pu' ha']), ro2⟩ := fun a b c d e f g k => ⟨_, _, _, _, _, _, rfl, fun x v h => a x v (hm x v h), b, c, d, e, f, g, k⟩
  refine VIf_eq (fun e2 => ?_) (fun e2 => VIf_eq (fun e3 => ?_) (fun e3 => VIf_eq (fun e1 => ?_) (fun e1 => ?_)))
  · -- the side that puts steps
    refine rg_get (r := r15) (s := s) (a := r.head) (b := r.tail) (c := r.ia) (d := r.oa) (e := pu) (f := ha) (by simp) ?_
    refine ref_stepput_c hrs n0 n1 h0 h1 t1 i0 i1 (fun s' ro2 hm2 hrs2 => ⟨s', r.head, _, _, r.oa, pu, ha, _, _, _, rfl, ?_⟩)
    intro r52 _
    refine rg_put (r := r52) (s := s') (a := r.head) (b := (refPut r.places r.head r.tail r.ia pu).2.1) (c := (refPut r.places r.head r.tail r.ia pu).2.2.1) (d := r.oa) (e := pu) (f := ha) (s' := ⟨none, 0, 0⟩) (a' := 0) (b' := 0) (c' := 0) (d' := 0) (e' := 0) (f' := 0) (L ++ [rgE r15 s r.head r.tail r.ia r.oa pu ha]) [] rfl ?_
    refine rg_get (r := r52) (s := s') (a := r.head) (b := (refPut r.places r.head r.tail r.ia pu).2.1) (c := (refPut r.places r.head r.tail r.ia pu).2.2.1) (d := r.oa) (e := pu) (f := ha) (by simp) ?_
    refine rg_put (r := r15) (s := s') (a := r.head) (b := (refPut r.places r.head r.tail r.ia pu).2.1) (c := (refPut r.places r.head r.tail r.ia pu).2.2.1) (d := r.oa) (e := pu) (f := ha) (s' := s) (a' := r.head) (b' := r.tail) (c' := r.ia) (d' := r.oa) (e' := pu) (f' := ha) L [rgE r52 s' r.head (refPut r.places r.head r.tail r.ia pu).2.1 (refPut r.places r.head r.tail r.ia pu).2.2.1 r.oa pu ha] (by simp) ?_
    refine ring_stepput_c [] _ rfl hs ⟨n0, n1, h0, h1, t1, i0, i1, o1⟩ (fun L1 hs1 => ⟨_, _, _, rfl, ?_⟩)
    have same : (refPut r.places r.head r.tail r.ia pu).2.2.2.1 = (ringStepPut r).2.1 ∧ (refPut r.places r.head r.tail r.ia pu).2.2.2.2.1 = (ringStepPut r).2.2.1 ∧ (refPut r.places r.head r.tail r.ia pu).2.2.2.2.2 = (ringStepPut r).2.2.2 ∧
        RpSt p r15 ro size (i + 1) ⟨[] ++ (L1 ++ [rgE r15 s' r.head (refPut r.places r.head r.tail r.ia pu).2.1 (refPut r.places r.head r.tail r.ia pu).2.2.1 r.oa pu ha]), ro2⟩ := by
      unfold refPut ringStepPut at *
      by_cases c1 : r.ia = 0
      · simp only [if_pos c1] at hrs2 hs1 ⊢
        exact ⟨trivial, trivial, trivial, nx hm2 hrs2 hs1 ⟨n0, n1, h0, h1, t1, i0, i1, o1⟩ hpu hha hlt (by omega)⟩
      by_cases c2 : r.ia = 1
      · by_cases c3 : r.tail - r.head = r.places.length
        · simp only [if_neg c1, if_pos c2, if_pos c3, if_pos (show r.ia = 1 ∧ r.tail - r.head = r.places.length from ⟨c2, c3⟩)] at hrs2 hs1 ⊢
          exact ⟨trivial, trivial, trivial, nx (r' := { r with ia := 0, iv := 0 }) hm2 hrs2 hs1 ⟨n0, n1, h0, h1, t1, by simp, by simp, o1⟩ (fun h => absurd rfl h) hha hlt (by dsimp only; omega)⟩
        · simp only [if_neg c1, if_pos c2, if_neg c3, if_neg (show ¬ (r.ia = 1 ∧ r.tail - r.head = r.places.length) from fun h => c3 h.2), if_neg (show ¬ r.ia = 2 by omega), if_neg (show ¬ r.ia = 3 by omega)] at hrs2 hs1 ⊢
          refine ⟨trivial, trivial, trivial, ?_⟩
          rw [show r.ia + 1 = 2 by omega]
          exact nx (r' := { r with ia := 2 }) hm2 hrs2 hs1 ⟨n0, n1, h0, h1, t1, by simp, by simp, o1⟩ (fun _ => hpu c1) hha hlt (by dsimp only; omega)
      by_cases c4 : r.ia = 2
      · simp only [if_neg c1, if_neg c2, if_pos c4, if_neg (show ¬ (r.ia = 1 ∧ r.tail - r.head = r.places.length) from fun h => c2 h.1)] at hrs2 hs1 ⊢
        refine ⟨trivial, trivial, trivial, ?_⟩
        rw [show r.ia + 1 = 3 by omega]
        rw [hpu c1] at hrs2 ⊢
        exact nx (r' := { r with ia := 3, places := r.places.set (r.tail.tmod r.places.length).toNat r.iv }) hm2 hrs2 hs1 ⟨by simpa using n0, by simpa using n1, h0, h1, t1, by simp, by simp, o1⟩ (fun _ => rfl) hha hlt (by dsimp only; omega)
      · simp only [if_neg c1, if_neg c2, if_neg c4, if_neg (show ¬ (r.ia = 1 ∧ r.tail - r.head = r.places.length) from fun h => c2 h.1), if_pos (show r.ia = 3 by omega)] at hrs2 hs1 ⊢
        exact ⟨trivial, trivial, trivial, nx (r' := { r with ia := 0, iv := 0, tail := r.tail + 1 }) hm2 hrs2 hs1 ⟨n0, n1, h0, by dsimp only; omega, by dsimp only; omega, by simp, by simp, o1⟩ (fun h => absurd rfl h) hha (fun h => by have := hlt h; dsimp only; omega) (by dsimp only; omega)⟩
    obtain ⟨q1, q2, q3, hS⟩ := same
    refine ⟨fun b h => b = false ∧ RpSt p r15 ro size (i + 1) h, same_error_c (hG'.up hm2) ⟨_, rfl, VIf_nb (fun h => absurd q3.symm (of_decide_eq_false h)) (fun _ => ?_)⟩, ?_⟩
    · refine VIf_nb (fun h => absurd q1.symm (by simpa using h)) (fun _ => ⟨_, ?_, ?_, hS⟩)
      · exact Gh.drop (by simp)
      · rw [q2]; simp
    rintro _ b h ⟨rfl, hS⟩
    exact VIf_b (nomatch ·) (fun _ => gi hS)
  · -- the side that gets steps
    refine rg_get (r := r15) (s := s) (a := r.head) (b := r.tail) (c := r.ia) (d := r.oa) (e := pu) (f := ha) (by simp) ?_
    refine ref_stepget_c hrs n0 n1 h0 h1 t1 (by omega) (by omega) ⟨s, _, r.tail, r.ia, _, pu, _, _, _, _, rfl, ?_⟩
    intro r52 _
    refine rg_put (r := r52) (s := s) (a := (refGet r.places r.head r.tail r.oa ha).1) (b := r.tail) (c := r.ia) (d := (refGet r.places r.head r.tail r.oa ha).2.1) (e := pu) (f := (refGet r.places r.head r.tail r.oa ha).2.2.1) (s' := ⟨none, 0, 0⟩) (a' := 0) (b' := 0) (c' := 0) (d' := 0) (e' := 0) (f' := 0) (L ++ [rgE r15 s r.head r.tail r.ia r.oa pu ha]) [] rfl ?_
    refine rg_get (r := r52) (s := s) (a := (refGet r.places r.head r.tail r.oa ha).1) (b := r.tail) (c := r.ia) (d := (refGet r.places r.head r.tail r.oa ha).2.1) (e := pu) (f := (refGet r.places r.head r.tail r.oa ha).2.2.1) (by simp) ?_
    refine rg_put (r := r15) (s := s) (a := (refGet r.places r.head r.tail r.oa ha).1) (b := r.tail) (c := r.ia) (d := (refGet r.places r.head r.tail r.oa ha).2.1) (e := pu) (f := (refGet r.places r.head r.tail r.oa ha).2.2.1) (s' := s) (a' := r.head) (b' := r.tail) (c' := r.ia) (d' := r.oa) (e' := pu) (f' := ha) L [rgE r52 s (refGet r.places r.head r.tail r.oa ha).1 r.tail r.ia (refGet r.places r.head r.tail r.oa ha).2.1 pu (refGet r.places r.head r.tail r.oa ha).2.2.1] (by simp) ?_
    refine ring_stepget_c [] _ rfl hs ⟨n0, n1, h0, h1, t1, i0, i1, o1⟩ (fun L1 hs1 => ⟨_, _, _, rfl, ?_⟩)
    have same : (refGet r.places r.head r.tail r.oa ha).2.2.2.1 = (ringStepGet r).2.1 ∧ (refGet r.places r.head r.tail r.oa ha).2.2.2.2.1 = (ringStepGet r).2.2.1 ∧ (refGet r.places r.head r.tail r.oa ha).2.2.2.2.2 = (ringStepGet r).2.2.2 ∧
        RpSt p r15 ro size (i + 1) ⟨[] ++ (L1 ++ [rgE r15 s (refGet r.places r.head r.tail r.oa ha).1 r.tail r.ia (refGet r.places r.head r.tail r.oa ha).2.1 pu (refGet r.places r.head r.tail r.oa ha).2.2.1]), ro'⟩ := by
      have id : ∀ a v, ro' a = some v → ro' a = some v := fun _ _ h => h
      unfold refGet ringStepGet at *
      by_cases c1 : r.oa = 0
      · simp only [if_pos c1] at hs1 ⊢
        exact ⟨trivial, trivial, trivial, nx id hrs hs1 ⟨n0, n1, h0, h1, t1, i0, i1, o1⟩ hpu hha hlt (by omega)⟩
      by_cases c2 : r.oa = 4
      · by_cases c3 : r.tail = r.head
        · simp only [if_neg c1, if_pos c2, if_pos c3, if_pos (show r.oa = 4 ∧ r.tail = r.head from ⟨c2, c3⟩)] at hs1 ⊢
          exact ⟨trivial, trivial, trivial, nx (r' := { r with oa := 0, ov := 0 }) id hrs hs1 ⟨n0, n1, h0, h1, t1, i0, i1, .inl rfl⟩ hpu (fun h => absurd (show (0 : Int) = 6 from h) (by decide)) (fun h => by rcases h with h | h <;> (have h : (0 : Int) = _ := h; omega)) (by dsimp only; omega)⟩
        · simp only [if_neg c1, if_pos c2, if_neg c3, if_neg (show ¬ (r.oa = 4 ∧ r.tail = r.head) from fun h => c3 h.2), if_neg (show ¬ r.oa = 5 by omega), if_neg (show ¬ r.oa = 6 by omega)] at hs1 ⊢
          refine ⟨trivial, trivial, trivial, ?_⟩
          rw [show r.oa + 1 = 5 by omega]
          exact nx (r' := { r with oa := 5 }) id hrs hs1 ⟨n0, n1, h0, h1, t1, i0, i1, .inr ⟨by simp, by simp⟩⟩ hpu (fun h => absurd (show (5 : Int) = 6 from h) (by decide)) (fun _ => by dsimp only; omega) (by dsimp only; omega)
      by_cases c4 : r.oa = 5
      · simp only [if_neg c1, if_neg c2, if_pos c4, if_neg (show ¬ (r.oa = 4 ∧ r.tail = r.head) from fun h => c2 h.1)] at hs1 ⊢
        refine ⟨trivial, trivial, trivial, ?_⟩
        rw [show r.oa + 1 = 6 by omega]
        exact nx (r' := { r with oa := 6, ov := (r.places[(r.head.tmod r.places.length).toNat]?).getD 0 }) id hrs hs1 ⟨n0, n1, h0, h1, t1, i0, i1, .inr ⟨by simp, by simp⟩⟩ hpu (fun _ => rfl) (fun _ => hlt (.inl c4)) (by dsimp only; omega)
      · have c5 : r.oa = 6 := by omega
        have hl := hlt (.inr c5)
        simp only [if_neg c1, if_neg c2, if_neg c4, if_neg (show ¬ (r.oa = 4 ∧ r.tail = r.head) from fun h => c2 h.1), if_pos c5] at hs1 ⊢
        exact ⟨trivial, hha c5, trivial, nx (r' := { r with oa := 0, ov := 0, head := r.head + 1 }) id hrs hs1 ⟨n0, n1, by dsimp only; omega, by dsimp only; omega, t1, i0, i1, .inl rfl⟩ hpu (fun h => absurd (show (0 : Int) = 6 from h) (by decide)) (fun h => by rcases h with h | h <;> (have h : (0 : Int) = _ := h; omega)) (by dsimp only; omega)⟩
    obtain ⟨q1, q2, q3, hS⟩ := same
    refine ⟨fun b h => b = false ∧ RpSt p r15 ro size (i + 1) h, same_error_c hG' ⟨_, rfl, VIf_nb (fun h => absurd q3.symm (of_decide_eq_false h)) (fun _ => ?_)⟩, ?_⟩
    · refine VIf_nb (fun h => absurd q1.symm (by simpa using h)) (fun _ => ⟨_, ?_, ?_, hS⟩)
      · exact Gh.drop (by simp)
      · rw [q2]; simp
    rintro _ b h ⟨rfl, hS⟩
    exact VIf_b (nomatch ·) (fun _ => gi hS)
  · -- got
    refine rI0 (rgE r15 s r.head r.tail r.ia r.oa pu ha) m15 rfl rfl ?_
    refine ⟨fun e h => e = (ringGet r).2 ∧ h = ⟨L ++ [rgE r15 s r.head r.tail r.ia (ringGet r).1.oa pu ha], ro'⟩, VIf_ne (fun hz => gi ?_) (fun hz => ?_), ?_⟩
    · unfold ringGet; rw [if_pos hz]; exact ⟨rfl, rfl⟩
    · refine rg_w s r.head r.tail r.ia 4 pu ha rfl (by decide) rfl (gi ?_)
      unfold ringGet; rw [if_neg (not_not_intro hz)]; exact ⟨rfl, rfl⟩
    rintro _ e _ ⟨rfl, rfl⟩
    refine ring_get_c [] _ rfl hs (fun L1 hs1 => ⟨_, rfl, same_error_c hG' ⟨_, rfl, VIf_nb (fun h => absurd rfl (of_decide_eq_false h)) (fun _ => gi ?_)⟩⟩)
    unfold ringGet at hs1 ⊢
    by_cases hz : r.oa ≠ 0
    · rw [if_pos hz] at hs1 ⊢
      exact nx (fun _ _ h => h) hrs hs1 ⟨n0, n1, h0, h1, t1, i0, i1, o1⟩ hpu hha hlt (by omega)
    · rw [if_neg hz] at hs1 ⊢
      exact nx (r' := { r with oa := 4, ov := 0 }) (fun _ _ h => h) hrs hs1 ⟨n0, n1, h0, h1, t1, i0, i1, .inr ⟨by simp, by simp⟩⟩ hpu (fun h => absurd (show (4 : Int) = 6 from h) (by decide)) (fun h => by rcases h with h | h <;> (have h : (4 : Int) = _ := h; omega)) (by dsimp only; omega)
  · -- put
    refine in_c ⟨_, rfl, ?_⟩
    refine ⟨fun e h => e = (ringPut r x).2 ∧ ∃ pu', h = ⟨L ++ [rgE r15 s r.head r.tail (ringPut r x).1.ia r.oa pu' ha], ro'⟩ ∧ ((ringPut r x).1.ia ≠ 0 → pu' = (ringPut r x).1.iv), VIf_not (fun hz => gi ?_) (fun hz => ?_), ?_⟩
    · unfold ringPut; rw [if_pos hz]; exact ⟨rfl, pu, rfl, hpu⟩
    · refine rI0 (rgE r15 s r.head r.tail r.ia r.oa pu ha) m15 rfl rfl (VIf_ne (fun hy => gi ?_) (fun hy => ?_))
      · unfold ringPut; rw [if_neg (not_not_intro hz), if_pos hy]; exact ⟨rfl, pu, rfl, hpu⟩
      · refine rg_w s r.head r.tail 1 r.oa pu ha rfl (by decide) rfl (rg_w s r.head r.tail 1 r.oa x ha rfl (by decide) rfl (gi ?_))
        unfold ringPut; rw [if_neg (not_not_intro hz), if_neg (not_not_intro hy)]; exact ⟨rfl, x, rfl, fun _ => rfl⟩
    rintro _ e _ ⟨rfl, pu', rfl, hpu'⟩
    refine ring_put_c [] _ rfl hs (fun L1 hs1 => ⟨_, rfl, same_error_c hG' ⟨_, rfl, VIf_nb (fun h => absurd rfl (of_decide_eq_false h)) (fun _ => gi ?_)⟩⟩)
    unfold ringPut at hs1 hpu' ⊢
    by_cases hz : ¬ (0 ≤ x ∧ x ≤ 1000)
    · rw [if_pos hz] at hs1 hpu' ⊢
      exact nx (fun _ _ h => h) hrs hs1 ⟨n0, n1, h0, h1, t1, i0, i1, o1⟩ hpu' hha hlt (by omega)
    · rw [if_neg hz] at hs1 hpu' ⊢
      by_cases hy : r.ia ≠ 0
      · rw [if_pos hy] at hs1 hpu' ⊢
        exact nx (fun _ _ h => h) hrs hs1 ⟨n0, n1, h0, h1, t1, i0, i1, o1⟩ hpu' hha hlt (by omega)
      · rw [if_neg hy] at hs1 hpu' ⊢
        exact nx (r' := { r with ia := 1, iv := x }) (fun _ _ h => h) hrs hs1 ⟨n0, n1, h0, h1, t1, by simp, by simp, o1⟩ hpu' hha hlt (by dsimp only; omega)
end Go.Proofs.YtnecppjgcbhnaaaDoor
