import Derived.Test.YtogbkgimpkaemaaT3
import Derived.Test.YtogbkgimpkaemaaHd
import Derived.Test.YtogbkgimpkaemaaEngL
namespace Go.Proofs.Ytogbkgimpkaemaa
open Go.Eng
set_option maxRecDepth 20000
/-! ### a ring -/
structure Ring where
  places : List Int
  head : Int
  tail : Int
  ia : Int
  iv : Int
  oa : Int
  ov : Int
def ringE (p : Nat) (s : SV) (r : Ring) : Ent := ⟨some p, [.slice s.a s.len s.cap, .int .i64 r.head, .int .i64 r.tail, .int .i64 r.ia, .int .i64 r.iv, .int .i64 r.oa, .int .i64 r.ov], 7⟩
def RingAt (p : Nat) (r : Ring) (L : List Ent) : Prop := ∃ (s : SV) (e : Ent), L = [ringE p s r, e] ∧ OwnsSl 1 s e (ints r.places)
structure Ring.Ok (r : Ring) : Prop where
  n0 : 0 < r.places.length
  n1 : r.places.length ≤ 8
  h0 : 0 ≤ r.head
  h1 : r.head ≤ r.tail
  t1 : r.tail ≤ 1000000
  i0 : 0 ≤ r.ia
  i1 : r.ia ≤ 3
  o1 : r.oa = 0 ∨ 4 ≤ r.oa ∧ r.oa ≤ 6

theorem ring_new_c {n : Int} {own : List Ent} {ro : Addr → Option Value} {post : Value → H → Prop}
    (h1 : ¬ (1 ≤ n ∧ n ≤ 8) → post (.tuple (List.toArray [.pointer none, errV (eno 57 1)])) ⟨own, ro⟩)
    (h2 : ∀ p L, RingAt p ⟨List.replicate n.toNat 0, 0, 0, 0, 0, 0, 0⟩ L → 1 ≤ n → n ≤ 8 → post (.tuple (List.toArray [.pointer (some (Addr.mk p 0 none)), errV none])) ⟨own ++ L, ro⟩) : SemCall Try.prog 8 (List.toArray [.int .i64 n]) ⟨own, ro⟩ post := by
  refine f8_call n _ post (within_c ⟨_, rfl, VIf_not (fun hc => ret (h1 hc)) (fun hc => ⟨by omega, Int.le_refl _, by omega, by omega, ?_⟩)⟩)
  intro r _ r2 _
  have hz : repl n.toNat [Value.int .i64 0] = ints (List.replicate n.toNat 0) := by
    unfold repl ints
    rw [List.map_replicate]
    induction n.toNat with
    | zero => rfl
    | succ k ih => rw [List.replicate_succ, List.replicate_succ, List.flatten_cons, ih]; rfl
  rw [hz]
  refine ⟨⟨own ++ [ringE r2 ⟨some (Addr.mk r 0 none), n.toNat, n.toNat⟩ ⟨List.replicate n.toNat 0, 0, 0, 0, 0, 0, 0⟩, ⟨some r, ints (List.replicate n.toNat 0), (ints (List.replicate n.toNat 0)).length⟩], ro⟩, Gh.perm ?_, ?_⟩
  · simp only [List.append_assoc]
    exact List.Perm.append_left _ (List.Perm.swap _ _ _)
  refine h2 r2 _ ⟨_, _, rfl, .inr ⟨r, 0, rfl, rfl, ?_, ?_, Nat.le_refl _, ?_, rfl⟩⟩ hc.1 hc.2
  · simp
  · simp
  · simp only [maxLen]; omega

/-- what Get does -/
def ringGet (r : Ring) : Ring × Int := if r.oa ≠ 0 then (r, 7) else ({ r with oa := 4, ov := 0 }, 0)
theorem ring_get_c {p : Nat} {r : Ring} {L own : List Ent} {ro : Addr → Option Value} {post : Value → H → Prop} (A C : List Ent) (hown : own = A ++ (L ++ C)) (hs : RingAt p r L)
    (hk : ∀ L', RingAt p (ringGet r).1 L' → post (errV (eno 57 (ringGet r).2)) ⟨A ++ (L' ++ C), ro⟩) :
    SemCall Try.prog 14 (List.toArray [.pointer (some (Addr.mk p 0 none))]) ⟨own, ro⟩ post := by
  refine f14_call _ _ post ?_
  obtain ⟨s, e, rfl, ho⟩ := hs
  subst hown
  simp only [f14_sem, add_mk', Option.some.injEq, exists_eq_left']
  refine ⟨r.oa, rdo (ringE p s r) (by simp) rfl rfl, VIf_ne (fun hc => ?_) (fun hc => ?_)⟩
  · simp only [ringGet, if_pos hc] at hk
    exact ret (hk _ ⟨s, e, rfl, ho⟩)
  · simp only [ringGet, if_neg (not_not_intro hc)] at hk
    refine ⟨rfl, rfl, wro A (ringE p s r) (e :: C) ⟨rfl, rfl, trivial⟩ (by simp) rfl (by simp [ringE]) (ret ?_)⟩
    exact hk [ringE p s { r with oa := 4, ov := 0 }, e] ⟨s, e, rfl, ho⟩

/-- what Put does -/
def ringPut (r : Ring) (v : Int) : Ring × Int := if ¬ (0 ≤ v ∧ v ≤ 1000) then (r, 1) else if r.ia ≠ 0 then (r, 7) else ({ r with ia := 1, iv := v }, 0)
theorem ring_put_c {p : Nat} {r : Ring} {v : Int} {L own : List Ent} {ro : Addr → Option Value} {post : Value → H → Prop} (A C : List Ent) (hown : own = A ++ (L ++ C)) (hs : RingAt p r L)
    (hk : ∀ L', RingAt p (ringPut r v).1 L' → post (errV (eno 57 (ringPut r v).2)) ⟨A ++ (L' ++ C), ro⟩) :
    SemCall Try.prog 10 (List.toArray [.pointer (some (Addr.mk p 0 none)), .int .i64 v]) ⟨own, ro⟩ post := by
  subst hown
  refine f10_call _ _ _ post (within_c ⟨_, rfl, VIf_not (fun hc => ?_) (fun hc => ?_)⟩)
  · simp only [ringPut, if_pos hc] at hk
    exact ret (hk _ hs)
  obtain ⟨s, e, rfl, ho⟩ := hs
  simp only [add_mk', Option.some.injEq, exists_eq_left']
  refine ⟨r.ia, rdo (ringE p s r) (by simp) rfl rfl, VIf_ne (fun h => ?_) (fun h => ?_)⟩
  · simp only [ringPut, if_neg (not_not_intro hc), if_pos h] at hk
    exact ret (hk _ ⟨s, e, rfl, ho⟩)
  · simp only [ringPut, if_neg (not_not_intro hc), if_neg (not_not_intro h)] at hk
    refine ⟨rfl, rfl, wro A (ringE p s r) (e :: C) ⟨rfl, rfl, trivial⟩ (by simp) rfl (by simp [ringE]) (ret ?_)⟩
    exact hk [ringE p s { r with ia := 1, iv := v }, e] ⟨s, e, rfl, ho⟩

/-- what StepPut does: the ring, done, put, the error -/
def ringStepPut (r : Ring) : Ring × Bool × Bool × Int :=
  if r.ia = 0 then (r, false, false, 7)
  else if r.ia = 1 then (if r.tail - r.head = r.places.length then ({ r with ia := 0, iv := 0 }, true, false, 0) else ({ r with ia := 2 }, false, false, 0))
  else if r.ia = 2 then ({ r with ia := 3, places := r.places.set (r.tail.tmod r.places.length).toNat r.iv }, false, false, 0)
  else ({ r with ia := 0, iv := 0, tail := r.tail + 1 }, true, true, 0)

theorem ring_stepput_c {p : Nat} {r : Ring} {L own : List Ent} {ro : Addr → Option Value} {post : Value → H → Prop} (A C : List Ent) (hown : own = A ++ (L ++ C)) (hs : RingAt p r L) (hr : r.Ok)
    (hk : ∀ L', RingAt p (ringStepPut r).1 L' → post (.tuple (List.toArray [.bool (ringStepPut r).2.1, .bool (ringStepPut r).2.2.1, errV (eno 57 (ringStepPut r).2.2.2)])) ⟨A ++ (L' ++ C), ro⟩) :
    SemCall Try.prog 12 (List.toArray [.pointer (some (Addr.mk p 0 none))]) ⟨own, ro⟩ post := by
  refine f12_call _ _ post ?_
  obtain ⟨s, e, rfl, ho⟩ := hs
  subst hown
  have hsl := ho.sl_len
  rw [ints_length] at hsl
  obtain ⟨n0, n1, h0, h1, t1, i0, i1, o1⟩ := hr
  simp only [f12_sem, add_mk', Option.some.injEq, exists_eq_left']
  refine ⟨r.ia, rdo (ringE p s r) (by simp) rfl rfl, VIf_eq (fun h => ?_) (fun h => ?_)⟩
  · simp only [ringStepPut, if_pos h] at hk
    exact ret (hk _ ⟨s, e, rfl, ho⟩)
  refine ⟨fun h => ∃ e' pl, h = ⟨A ++ ([ringE p s { r with places := pl }, e'] ++ C), ro⟩ ∧ OwnsSl 1 s e' (ints pl) ∧ ringStepPut r = ({ r with places := pl, ia := r.ia + 1 }, false, false, 0), ?_, ?_⟩
  · refine VIf_eq (fun h1' => ?_) (fun h1' => VIf_eq (fun h2' => ?_) (fun h2' => VIf_eq (fun h3' => ?_) (fun h3' => absurd (by omega) h3')))
    · refine ⟨r.tail, rdo (ringE p s r) (by simp) rfl rfl, r.head, rdo (ringE p s r) (by simp) rfl rfl, ⟨by omega, by omega⟩, s, rdo (ringE p s r) (by simp) rfl rfl, VIf_eq (fun hf => ?_) (fun hf => ?_)⟩
      · rw [hsl] at hf
        simp only [ringStepPut, if_neg h, if_pos h1', if_pos hf] at hk
        refine ⟨rfl, rfl, wro A (ringE p s r) (e :: C) ⟨rfl, rfl, trivial⟩ (by simp) rfl (by simp [ringE]) (ret ?_)⟩
        exact hk [ringE p s { r with ia := 0, iv := 0 }, e] ⟨s, e, rfl, ho⟩
      · rw [hsl] at hf
        exact gi ⟨e, r.places, rfl, ho, by simp only [ringStepPut, if_neg h, if_pos h1', if_neg hf]; rw [h1']; rfl⟩
    · have hp : (0 : Int) < r.places.length := by omega
      have hm0 : 0 ≤ r.tail.tmod (r.places.length : Int) := Int.tmod_nonneg _ (by omega)
      have hm1 : r.tail.tmod (r.places.length : Int) < (r.places.length : Int) := Int.tmod_lt_of_pos _ hp
      have hrd : RdSl ⟨A ++ ([ringE p s r, e] ++ C), ro⟩ s (ints r.places) := RdSl.of_own (e := e) (by simp) ho
      obtain ⟨b, hb⟩ := hrd.addr (by simp [n0])
      refine ⟨s, rdo (ringE p s r) (by simp) rfl rfl, r.tail, rdo (ringE p s r) (by simp) rfl rfl, s, rdo (ringE p s r) (by simp) rfl rfl, by omega, r.iv, rdo (ringE p s r) (by simp) rfl rfl, b, hb, ?_⟩
      rw [hsl]
      refine ⟨hm0, hm1, wr_int (A ++ [ringE p s r]) e C (by simp) ho (by omega) hb (fun e' o' _ => gi ⟨e', _, ?_, o', ?_⟩)⟩
      · simp only [List.append_assoc]; rfl
      · simp only [ringStepPut, if_neg h, if_neg h1', if_pos h2']; rw [h2']; rfl
    · simp only [ringStepPut, if_neg h, if_neg h1', if_neg h2'] at hk
      refine ⟨r.tail, rdo (ringE p s r) (by simp) rfl rfl, ⟨by omega, by omega⟩, wro A (ringE p s r) (e :: C) ⟨rfl, trivial⟩ (by simp) rfl (by simp [ringE]) ?_⟩
      refine ⟨rfl, rfl, wro A (ringE p s { r with tail := r.tail + 1 }) (e :: C) ⟨rfl, rfl, trivial⟩ rfl rfl (by simp [ringE]) (ret ?_)⟩
      exact hk [ringE p s { r with ia := 0, iv := 0, tail := r.tail + 1 }, e] ⟨s, e, rfl, ho⟩
  · rintro _ h ⟨e', pl, rfl, o', hst⟩
    rw [hst] at hk
    refine ⟨r.ia, rdo (ringE p s { r with places := pl }) (by simp) rfl rfl, ⟨by omega, by omega⟩, wro A (ringE p s { r with places := pl }) (e' :: C) ⟨rfl, trivial⟩ (by simp) rfl (by simp [ringE]) (ret ?_)⟩
    exact hk [ringE p s { r with places := pl, ia := r.ia + 1 }, e'] ⟨s, e', rfl, o'⟩

/-- what StepGet does: the ring, done, the value, the error -/
def ringStepGet (r : Ring) : Ring × Bool × Int × Int :=
  if r.oa = 0 then (r, false, 0, 7)
  else if r.oa = 4 then (if r.tail = r.head then ({ r with oa := 0, ov := 0 }, true, -1, 0) else ({ r with oa := 5 }, false, 0, 0))
  else if r.oa = 5 then ({ r with oa := 6, ov := (r.places[(r.head.tmod r.places.length).toNat]?).getD 0 }, false, 0, 0)
  else ({ r with oa := 0, ov := 0, head := r.head + 1 }, true, r.ov, 0)

theorem ring_stepget_c {p : Nat} {r : Ring} {L own : List Ent} {ro : Addr → Option Value} {post : Value → H → Prop} (A C : List Ent) (hown : own = A ++ (L ++ C)) (hs : RingAt p r L) (hr : r.Ok)
    (hk : ∀ L', RingAt p (ringStepGet r).1 L' → post (.tuple (List.toArray [.bool (ringStepGet r).2.1, .int .i64 (ringStepGet r).2.2.1, errV (eno 57 (ringStepGet r).2.2.2)])) ⟨A ++ (L' ++ C), ro⟩) :
    SemCall Try.prog 15 (List.toArray [.pointer (some (Addr.mk p 0 none))]) ⟨own, ro⟩ post := by
  refine f15_call _ _ post ?_
  obtain ⟨s, e, rfl, ho⟩ := hs
  subst hown
  have hsl := ho.sl_len
  rw [ints_length] at hsl
  obtain ⟨n0, n1, h0, h1, t1, i0, i1, o1⟩ := hr
  simp only [f15_sem, add_mk', Option.some.injEq, exists_eq_left']
  refine ⟨r.oa, rdo (ringE p s r) (by simp) rfl rfl, VIf_eq (fun h => ?_) (fun h => ?_)⟩
  · simp only [ringStepGet, if_pos h] at hk
    exact ret (hk _ ⟨s, e, rfl, ho⟩)
  refine ⟨fun h => ∃ ov, h = ⟨A ++ ([ringE p s { r with ov := ov }, e] ++ C), ro⟩ ∧ ringStepGet r = ({ r with ov := ov, oa := r.oa + 1 }, false, 0, 0), ?_, ?_⟩
  · refine VIf_eq (fun h1' => ?_) (fun h1' => VIf_eq (fun h2' => ?_) (fun h2' => VIf_eq (fun h3' => ?_) (fun h3' => absurd (by omega) h3')))
    · refine ⟨r.tail, rdo (ringE p s r) (by simp) rfl rfl, r.head, rdo (ringE p s r) (by simp) rfl rfl, VIf_eq (fun hf => ?_) (fun hf => ?_)⟩
      · simp only [ringStepGet, if_neg h, if_pos h1', if_pos hf] at hk
        refine ⟨rfl, rfl, wro A (ringE p s r) (e :: C) ⟨rfl, rfl, trivial⟩ (by simp) rfl (by simp [ringE]) (ret ?_)⟩
        exact hk [ringE p s { r with oa := 0, ov := 0 }, e] ⟨s, e, rfl, ho⟩
      · exact gi ⟨r.ov, rfl, by simp only [ringStepGet, if_neg h, if_pos h1', if_neg hf]; rw [h1']; rfl⟩
    · have hp : (0 : Int) < r.places.length := by omega
      have hm0 : 0 ≤ r.head.tmod (r.places.length : Int) := Int.tmod_nonneg _ (by omega)
      have hm1 : r.head.tmod (r.places.length : Int) < (r.places.length : Int) := Int.tmod_lt_of_pos _ hp
      have hrd : RdSl ⟨A ++ ([ringE p s r, e] ++ C), ro⟩ s (ints r.places) := RdSl.of_own (e := e) (by simp) ho
      refine ⟨s, rdo (ringE p s r) (by simp) rfl rfl, r.head, rdo (ringE p s r) (by simp) rfl rfl, s, rdo (ringE p s r) (by simp) rfl rfl, by omega, ?_⟩
      rw [← hsl] at hm0 hm1
      refine hrd.idx hm0 hm1 fun x hx => ?_
      refine wro A (ringE p s r) (e :: C) ⟨rfl, trivial⟩ (by simp) rfl (by simp [ringE]) (gi ⟨x, rfl, ?_⟩)
      rw [hsl] at hx
      simp only [ringStepGet, if_neg h, if_neg h1', if_pos h2', hx]; rw [h2']; rfl
    · simp only [ringStepGet, if_neg h, if_neg h1', if_neg h2'] at hk
      refine ⟨r.ov, rdo (ringE p s r) (by simp) rfl rfl, r.head, rdo (ringE p s r) (by simp) rfl rfl, ⟨by omega, by omega⟩, wro A (ringE p s r) (e :: C) ⟨rfl, trivial⟩ (by simp) rfl (by simp [ringE]) ?_⟩
      refine ⟨rfl, rfl, wro A (ringE p s { r with head := r.head + 1 }) (e :: C) ⟨rfl, rfl, trivial⟩ rfl rfl (by simp [ringE]) (ret ?_)⟩
      exact hk [ringE p s { r with oa := 0, ov := 0, head := r.head + 1 }, e] ⟨s, e, rfl, ho⟩
  · rintro _ h ⟨ov, rfl, hst⟩
    rw [hst] at hk
    refine ⟨r.oa, rdo (ringE p s { r with ov := ov }) (by simp) rfl rfl, ⟨by omega, by omega⟩, wro A (ringE p s { r with ov := ov }) (e :: C) ⟨rfl, trivial⟩ (by simp) rfl (by simp [ringE]) (ret ?_)⟩
    exact hk [ringE p s { r with ov := ov, oa := r.oa + 1 }, e] ⟨s, e, rfl, ho⟩

end Go.Proofs.Ytogbkgimpkaemaa
