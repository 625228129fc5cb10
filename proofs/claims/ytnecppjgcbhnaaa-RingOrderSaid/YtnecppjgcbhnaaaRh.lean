import Derived.Test.YtnecppjgcbhnaaaRg
namespace Go.Proofs.Ytnecppjgcbhnaaa
open Go.Eng
/-! ### the law of the ring, plain -/
structure RInv (r : Ring) (puts : List Int) (got value out hv : Int) : Prop where
  n0 : 0 < r.places.length
  n1 : r.places.length ≤ 8
  hd : r.head = got
  tl : r.tail = (puts.length : Int)
  g0 : 0 ≤ got
  g1 : got ≤ puts.length
  room : (puts.length : Int) - got ≤ r.places.length
  i0 : 0 ≤ r.ia
  i1 : r.ia ≤ 3
  o1 : r.oa = 0 ∨ 4 ≤ r.oa ∧ r.oa ≤ 6
  pl : ∀ j : Nat, got ≤ j → j < puts.length → r.places[j % r.places.length]? = puts[j]?
  iv : r.ia ≠ 0 → r.iv = value ∧ out ≤ got ∧ 0 ≤ value
  i2 : 2 ≤ r.ia → (puts.length : Int) - got < r.places.length
  i3 : r.ia = 3 → r.places[puts.length % r.places.length]? = some value
  nn : ∀ x ∈ puts, 0 ≤ x
  u0 : 0 ≤ out
  h1 : hv ≤ puts.length
  o2 : r.oa ≥ 5 → got < puts.length
  o3 : r.oa = 6 → puts[got.toNat]? = some r.ov
theorem RInv.ok {r : Ring} {puts : List Int} {got value out hv : Int} (h : RInv r puts got value out hv) (hl : puts.length ≤ 1000000) : r.Ok :=
  ⟨h.n0, h.n1, by rw [h.hd]; exact h.g0, by rw [h.hd, h.tl]; exact h.g1, by rw [h.tl]; omega, h.i0, h.i1, h.o1⟩
theorem RInv.start {n : Int} (h0 : 1 ≤ n) (h1 : n ≤ 8) : RInv ⟨List.replicate n.toNat 0, 0, 0, 0, 0, 0, 0⟩ [] 0 0 0 0 where
  n0 := by simp; omega
  n1 := by simp; omega
  hd := rfl
  tl := rfl
  g0 := by omega
  g1 := by simp
  room := by simp; omega
  i0 := by simp
  i1 := by simp
  o1 := .inl rfl
  pl := by simp
  iv := by simp
  i2 := by simp
  i3 := by simp
  nn := by simp
  u0 := by simp
  h1 := by simp
  o2 := by simp
  o3 := by simp
theorem RInv.put {r : Ring} {puts : List Int} {got value out hv v : Int} (h : RInv r puts got value out hv) (h0 : 0 ≤ v) : RInv { r with ia := 1, iv := v } puts got v got hv :=
  { h with u0 := h.g0, i0 := by simp, i1 := by simp, iv := fun _ => ⟨rfl, Int.le_refl _, h0⟩, i2 := by simp, i3 := by simp }
theorem RInv.get {r : Ring} {puts : List Int} {got value out hv : Int} (h : RInv r puts got value out hv) : RInv { r with oa := 4, ov := 0 } puts got value out puts.length :=
  { h with o1 := .inr ⟨by simp, by simp⟩, h1 := Int.le_refl _, o2 := by simp, o3 := by simp }
theorem ring_mod_ne {n a b : Nat} (h1 : a < b) (h2 : b < a + n) : a % n ≠ b % n := by
  intro h
  have e1 := Nat.div_add_mod a n
  have e2 := Nat.div_add_mod b n
  rw [h] at e1
  have : n * (b / n) - n * (a / n) = b - a := by omega
  rw [← Nat.mul_sub] at this
  by_cases hz : b / n - a / n = 0
  · rw [hz] at this; omega
  · have := Nat.le_mul_of_pos_right n (Nat.pos_of_ne_zero hz); omega
inductive RPut (r : Ring) (puts : List Int) (got value out hv : Int) : Prop
  | err (e : ringStepPut r = (r, false, false, 7))
  | more (r' : Ring) (e : ringStepPut r = (r', false, false, 0)) (hl : r'.places.length = r.places.length) (h : RInv r' puts got value out hv)
  | full (r' : Ring) (e : ringStepPut r = (r', true, false, 0)) (hl : r'.places.length = r.places.length) (h : RInv r' puts got value out hv) (hf : (r.places.length : Int) ≤ puts.length - out)
  | put (r' : Ring) (e : ringStepPut r = (r', true, true, 0)) (hl : r'.places.length = r.places.length) (h : RInv r' (puts ++ [value]) got value out hv)
theorem RInv.stepPut {r : Ring} {puts : List Int} {got value out hv : Int} (h : RInv r puts got value out hv) : RPut r puts got value out hv := by
  obtain ⟨n0, n1, hd, tl, g0, g1, room, i0, i1, o1, pl, iv, i2, i3, nn, u0, h1, o2, o3⟩ := h
  by_cases c0 : r.ia = 0
  · exact .err (by rw [ringStepPut, if_pos c0])
  obtain ⟨v1, v2, v3⟩ := iv c0
  by_cases c1 : r.ia = 1
  · by_cases cf : r.tail - r.head = r.places.length
    · refine .full { r with ia := 0, iv := 0 } (by rw [ringStepPut, if_neg c0, if_pos c1, if_pos cf]) rfl ⟨n0, n1, hd, tl, g0, g1, room, by simp, by simp, o1, pl, by simp, by simp, by simp, nn, u0, h1, o2, o3⟩ (by omega)
    · refine .more { r with ia := 2 } (by rw [ringStepPut, if_neg c0, if_pos c1, if_neg cf]) rfl ⟨n0, n1, hd, tl, g0, g1, room, by simp, by simp, o1, pl, fun _ => ⟨v1, v2, v3⟩, fun _ => ?_, by simp, nn, u0, h1, o2, o3⟩
      simp only; omega
  by_cases c2 : r.ia = 2
  · have hlt := i2 (by omega)
    refine .more { r with ia := 3, places := r.places.set (r.tail.tmod r.places.length).toNat r.iv } (by rw [ringStepPut, if_neg c0, if_neg c1, if_pos c2]) (by simp) ?_
    have e1 : (r.tail.tmod (r.places.length : Int)).toNat = puts.length % r.places.length := by rw [tl]; rfl
    rw [e1]
    have hm : puts.length % r.places.length < r.places.length := Nat.mod_lt _ n0
    refine ⟨by simpa using n0, by simpa using n1, hd, tl, g0, g1, by simpa using room, by simp, by simp, o1, fun j hj1 hj2 => ?_, fun _ => ⟨v1, v2, v3⟩, fun _ => by simpa using hlt, fun _ => ?_, nn, u0, h1, o2, o3⟩
    · simp only [List.length_set]
      rw [List.getElem?_set_ne (ring_mod_ne (by omega) (by omega)).symm]
      exact pl j hj1 hj2
    · simp only [List.length_set]
      rw [List.getElem?_set_self hm, v1]
  · have c3 : r.ia = 3 := by omega
    have hlt := i2 (by omega)
    have hp := i3 c3
    refine .put { r with ia := 0, iv := 0, tail := r.tail + 1 } (by rw [ringStepPut, if_neg c0, if_neg c1, if_neg c2]) rfl ⟨n0, n1, hd, by simp only [List.length_append, List.length_singleton]; omega, g0, by simp; omega, by simp; omega, by simp, by simp, o1, fun j hj1 hj2 => ?_, by simp, by simp, by simp, ?_, u0, by simp; omega, fun h => by have := o2 h; simp; omega, fun h => ?_⟩
    · simp only [List.length_append, List.length_singleton] at hj2
      simp only
      by_cases hj : j < puts.length
      · rw [List.getElem?_append_left hj]; exact pl j hj1 hj
      · have : j = puts.length := by omega
        subst this
        rw [hp]; simp
    · intro x hx
      simp only [List.mem_append, List.mem_singleton] at hx
      rcases hx with hx | rfl
      · exact nn x hx
      · exact v3
    · have h6 := o3 h
      rw [List.getElem?_append_left (List.getElem?_eq_some_iff.1 h6).1]; exact h6
inductive RGet (r : Ring) (puts : List Int) (got value out hv : Int) : Prop
  | err (e : ringStepGet r = (r, false, 0, 7))
  | more (r' : Ring) (e : ringStepGet r = (r', false, 0, 0)) (hl : r'.places.length = r.places.length) (h : RInv r' puts got value out hv)
  | none (r' : Ring) (e : ringStepGet r = (r', true, -1, 0)) (hl : r'.places.length = r.places.length) (h : RInv r' puts got value out hv) (hf : hv ≤ got)
  | had (r' : Ring) (v : Int) (e : ringStepGet r = (r', true, v, 0)) (hl : r'.places.length = r.places.length) (h : RInv r' puts (got + 1) value out hv) (hv0 : 0 ≤ v) (hp : puts[got.toNat]? = some v) (hlt : got < puts.length)
theorem RInv.stepGet {r : Ring} {puts : List Int} {got value out hv : Int} (h : RInv r puts got value out hv) : RGet r puts got value out hv := by
  obtain ⟨n0, n1, hd, tl, g0, g1, room, i0, i1, o1, pl, iv, i2, i3, nn, u0, h1, o2, o3⟩ := h
  by_cases c0 : r.oa = 0
  · exact .err (by rw [ringStepGet, if_pos c0])
  by_cases c1 : r.oa = 4
  · by_cases cf : r.tail = r.head
    · refine .none { r with oa := 0, ov := 0 } (by rw [ringStepGet, if_neg c0, if_pos c1, if_pos cf]) rfl ⟨n0, n1, hd, tl, g0, g1, room, i0, i1, .inl rfl, pl, iv, i2, i3, nn, u0, h1, by simp, by simp⟩ (by omega)
    · exact .more { r with oa := 5 } (by rw [ringStepGet, if_neg c0, if_pos c1, if_neg cf]) rfl ⟨n0, n1, hd, tl, g0, g1, room, i0, i1, .inr ⟨by simp, by simp⟩, pl, iv, i2, i3, nn, u0, h1, fun _ => by omega, by simp⟩
  by_cases c2 : r.oa = 5
  · have hlt := o2 (by omega)
    have e1 : (r.head.tmod (r.places.length : Int)).toNat = got.toNat % r.places.length := by
      rw [hd]
      obtain ⟨g, rfl⟩ := Int.eq_ofNat_of_zero_le g0
      rfl
    have hq := pl got.toNat (by omega) (by omega)
    have hg : got.toNat < puts.length := by omega
    refine .more { r with oa := 6, ov := (r.places[(r.head.tmod r.places.length).toNat]?).getD 0 } (by rw [ringStepGet, if_neg c0, if_neg c1, if_pos c2]) rfl ⟨n0, n1, hd, tl, g0, g1, room, i0, i1, .inr ⟨by simp, by simp⟩, pl, iv, i2, i3, nn, u0, h1, fun _ => hlt, fun _ => ?_⟩
    rw [e1, hq, List.getElem?_eq_getElem hg]
    rfl
  · have hlt := o2 (by omega)
    have hp := o3 (by omega)
    refine .had { r with oa := 0, ov := 0, head := r.head + 1 } r.ov (by rw [ringStepGet, if_neg c0, if_neg c1, if_neg c2]) rfl ⟨n0, n1, by simp only; omega, tl, by omega, by omega, by simp only; omega, i0, i1, .inl rfl, fun j hj1 hj2 => pl j (by omega) hj2, fun h => ⟨(iv h).1, by have := (iv h).2.1; omega, (iv h).2.2⟩, fun h => by have := i2 h; simp only; omega, i3, nn, u0, h1, by simp, by simp⟩ (nn _ (List.mem_of_getElem? hp)) hp hlt

/-! ### the law of the ring, walked -/
def RgSt (p : Nat) (ro : Addr → Option Value) (size i : Int) (s : SV) (got value out hv : Int) (h : H) : Prop :=
  ∃ L r ps e, h = ⟨L ++ [e], ro⟩ ∧ RingAt p r L ∧ OwnsSl 1 s e (ints ps) ∧ RInv r ps got value out hv ∧ (r.places.length : Int) = size ∧ (ps.length : Int) ≤ i ∧ 0 ≤ i ∧ i ≤ 300
theorem ring_fact_c {own : List Ent} {ro : Addr → Option Value} {post : Value → H → Prop} (hk : post (.bool true) ⟨own, ro⟩) : SemCall Try.prog 8 (List.toArray []) ⟨own, ro⟩ post := by
  refine f8_call _ post ?_
  refine ring_new_c (fun hc => absurd ⟨by decide, by decide⟩ hc) (fun p L hs _ _ => ⟨_, none, rfl, ?_⟩)
  have ok : ∀ (q : List Int) (a b : Int), q.length = 1 → 0 ≤ a → a ≤ 3 → Ring.Ok ⟨q, 0, 0, a, b, 0, 0⟩ := fun q a b hq h0 h1 => ⟨by simp [hq], by simp [hq], by simp, by simp, by simp, h0, h1, .inl rfl⟩
  refine ⟨fun b h => b = false ∧ ∃ L, h = ⟨own ++ L, ro⟩ ∧ RingAt p ⟨[0], 0, 0, 1, 4, 0, 0⟩ L, VIf_nnil ?_, ?_⟩
  · exact ring_put_c own [] (by simp) hs (fun L1 h1 => ⟨none, rfl, rfl, gi ⟨rfl, L1, by simp, h1⟩⟩)
  rintro _ b h ⟨rfl, L1, rfl, h1⟩
  refine VIf_b (nomatch ·) (fun _ => ?_)
  refine ring_stepput_c own [] (by simp) h1 (ok [0] 1 4 rfl (by decide) (by decide)) (fun L2 h2 => ⟨false, false, none, rfl, ?_⟩)
  have h2 : RingAt p ⟨[0], 0, 0, 2, 4, 0, 0⟩ L2 := h2
  refine ring_stepput_c own [] (by simp) h2 (ok [0] 2 4 rfl (by decide) (by decide)) (fun L3 h3 => ⟨false, false, none, rfl, ?_⟩)
  have h3 : RingAt p ⟨[4], 0, 0, 3, 4, 0, 0⟩ L3 := h3
  refine ring_stepput_c own [] (by simp) h3 (ok [4] 3 4 rfl (by decide) (by decide)) (fun L4 h4 => ⟨true, true, none, rfl, ?_⟩)
  have h4 : RingAt p ⟨[4], 0, 1, 0, 0, 0, 0⟩ L4 := h4
  refine ⟨fun b h => b = true ∧ h = ⟨own, ro⟩, VIf_nb (fun _ => VIf_nb (fun _ => VIf_b (fun _ => VIf_b (fun _ => VIf_nil ?_) (nomatch ·)) (nomatch ·)) (nomatch ·)) (nomatch ·), ?_⟩
  · have eg : ringGet ⟨[4], 0, 1, 0, 0, 0, 0⟩ = (⟨[4], 0, 1, 0, 0, 4, 0⟩, 0) := rfl
    refine ring_get_c own [] (by simp) h4 (fun L5 h5 => ?_)
    rw [eg] at h5 ⊢
    refine ⟨none, rfl, VIf_nil ?_⟩
    refine ring_places_c h5 (by intro e he; simp [he]) (by decide) (fun s e ho => ⟨s, rfl, ?_⟩)
    intro r _
    have g1 : RdSl ⟨own ++ (L5 ++ []) ++ [e] ++ [⟨some r, [.int .i64 4], [Value.int .i64 4].length⟩], ro⟩ s (ints [4]) := RdSl.of_own (e := e) (by simp) ho
    have g2 : RdSl ⟨own ++ (L5 ++ []) ++ [e] ++ [⟨some r, [.int .i64 4], [Value.int .i64 4].length⟩], ro⟩ ⟨some (Addr.mk r 0 none), 1, 1⟩ (ints [4]) := RdSl.row (n := 1) (vs := ints [4]) (e := ⟨some r, [.int .i64 4], 1⟩) (by simp) rfl rfl
    have hlen := ho.sl_len
    simp at hlen
    refine same_ints_c (s2 := ⟨some (Addr.mk r 0 none), 1, 1⟩) g1 g2 (by omega) ⟨_, rfl, ?_⟩
    exact ⟨⟨own, ro⟩, Gh.drop (by simp), by simp, rfl⟩
  · rintro _ b h ⟨rfl, rfl⟩; exact ret hk
theorem ringOrder_c {size : Int} {st : SV} {xs : List Int} {ro : Addr → Option Value} {post : Value → H → Prop} (hr : RdSl ⟨[], ro⟩ st (ints xs)) (hpost : ∀ h, post (.bool true) h) :
    SemCall Try.prog 3 (List.toArray [.int .i64 size, .slice st.a st.len st.cap]) ⟨[], ro⟩ post := by
  refine f3_call _ _ _ post ?_
  refine ring_fact_c ⟨_, rfl, VIf_nb (nomatch ·) (fun _ => ?_)⟩
  refine ring_new_c (fun hc => ⟨_, _, rfl, VIf_nerr (fun _ => ?_) (nomatch ·)⟩) (fun p L hs c0 c1 => ⟨_, none, rfl, VIf_nnil ?_⟩)
  · exact join_or (ret (by rw [decide_eq_true (show size < 1 ∨ size > 8 by omega)]; exact hpost _))
  refine ⟨fun _ => True, ⟨fun n s got value out hv i h => RgSt p ro size i s got value out hv h ∧ n = (300 - i).toNat, ⟨300, _, Gh.phantom L [] ro 0 |> (by simpa using ·), ⟨L, _, [], _, rfl, hs, OwnsSl.nil 1, RInv.start c0 c1, by simp; omega, by simp, by omega, by omega⟩, rfl⟩, ?_⟩, fun _ h _ => ret (hpost h)⟩
  rintro n _ s got value out hv i h ⟨⟨L, r, ps, e, rfl, hs, ho, hI, hsz, hl, hi0, hi1⟩, rfl⟩
  have hr : ∀ {own}, RdSl ⟨own, ro⟩ st (ints xs) := hr.mono (by simp) (fun _ _ h => h)
  refine join_and (VIf_dec (fun hi => ?_) (fun _ => gi trivial))
  refine hr.idx hi0 hi.1 fun k hk => ?_
  -- got is begun
  refine ⟨fun hv h => RgSt p ro size i s got value out hv h, VIf_eq (fun _ => ?_) (fun _ => gi ⟨L, r, ps, e, rfl, hs, ho, hI, hsz, hl, hi0, hi1⟩), ?_⟩
  · refine ring_get_c [] [e] rfl hs (fun L1 h1 => ⟨_, rfl, ?_⟩)
    by_cases c : r.oa ≠ 0
    · rw [ringGet, if_pos c] at h1 ⊢
      exact VIf_err (fun h => by cases h) (fun _ => gi ⟨L1, r, ps, e, rfl, h1, ho, hI, hsz, hl, hi0, hi1⟩)
    · rw [ringGet, if_neg c] at h1 ⊢
      refine VIf_err (fun _ => gi ⟨L1, _, ps, e, rfl, h1, ho, ?_, hsz, hl, hi0, hi1⟩) (fun h => absurd rfl h)
      have := ho.sl_len
      rw [ints_length] at this
      rw [this]; exact hI.get
  clear hs hI hsz hl ho hv
  rintro _ hv h ⟨L, r, ps, e, rfl, hs, ho, hI, hsz, hl, -, -⟩
  -- put is begun
  refine ⟨fun b h => RgSt p ro size i s got (if b then k else value) (if b then got else out) hv h, VIf_dec (fun hk0 => ?_) (fun _ => gi ⟨L, r, ps, e, rfl, hs, ho, hI, hsz, hl, hi0, hi1⟩), ?_⟩
  · refine ring_put_c [] [e] rfl hs (fun L1 h1 => ⟨_, rfl, isIfaceV_errV _, ?_⟩)
    rw [isNilV_errV, eno_isNone]
    by_cases c : ¬ (0 ≤ k ∧ k ≤ 1000)
    · rw [ringPut, if_pos c] at h1 ⊢
      exact gi ⟨L1, r, ps, e, rfl, h1, ho, hI, hsz, hl, hi0, hi1⟩
    by_cases c2 : r.ia ≠ 0
    · rw [ringPut, if_neg c, if_pos c2] at h1 ⊢
      exact gi ⟨L1, r, ps, e, rfl, h1, ho, hI, hsz, hl, hi0, hi1⟩
    · rw [ringPut, if_neg c, if_neg c2] at h1 ⊢
      exact gi ⟨L1, _, ps, e, rfl, h1, ho, hI.put hk0, hsz, hl, hi0, hi1⟩
  clear hs hI hsz hl ho
  rintro _ b h hR
  refine ⟨fun v o h => RgSt p ro size i s got v o hv h, VIf_b (fun hb => gi (by simpa [hb] using hR)) (fun hb => gi (by simpa [hb] using hR)), ?_⟩
  clear hR value out
  rintro _ value out h ⟨L, r, ps, e, rfl, hs, ho, hI, hsz, hl, -, -⟩
  -- a step of the side that puts
  refine ⟨fun s h => RgSt p ro size (i + 1) s got value out hv h, ?_, ?_⟩
  · refine VIf_eq (fun _ => ?_) (fun _ => gi ⟨L, r, ps, e, rfl, hs, ho, hI, hsz, by omega, by omega, by omega⟩)
    refine ring_stepput_c [] [e] rfl hs (hI.ok (by omega)) (fun L1 h1 => ⟨_, _, _, rfl, ?_⟩)
    rcases hI.stepPut with ⟨eq⟩ | ⟨r', eq, hl', hI'⟩ | ⟨r', eq, hl', hI', hf⟩ | ⟨r', eq, hl', hI'⟩
    · rw [eq] at h1 ⊢
      refine join_b (h := ⟨[] ++ (L1 ++ [e]), ro⟩) false (VIf_err (fun h => by cases h) (fun _ => gi ⟨rfl, rfl⟩)) ?_
      refine ⟨fun s' h => s' = s ∧ h = ⟨[] ++ (L1 ++ [e]), ro⟩, VIf_b (nomatch ·) (fun _ => gi ⟨rfl, rfl⟩), ?_⟩
      rintro _ _ _ ⟨rfl, rfl⟩
      refine join_b (h := ⟨[] ++ (L1 ++ [e]), ro⟩) false (VIf_err (fun h => by cases h) (fun _ => gi ⟨rfl, rfl⟩)) ?_
      exact VIf_b (nomatch ·) (fun _ => gi ⟨L1, r, ps, e, rfl, h1, ho, hI, hsz, by omega, by omega, by omega⟩)
    · rw [eq] at h1 ⊢
      refine join_b (h := ⟨[] ++ (L1 ++ [e]), ro⟩) false (VIf_err (fun _ => VIf_b (nomatch ·) (fun _ => gi ⟨rfl, rfl⟩)) (fun h => absurd rfl h)) ?_
      refine ⟨fun s' h => s' = s ∧ h = ⟨[] ++ (L1 ++ [e]), ro⟩, VIf_b (nomatch ·) (fun _ => gi ⟨rfl, rfl⟩), ?_⟩
      rintro _ _ _ ⟨rfl, rfl⟩
      refine join_b (h := ⟨[] ++ (L1 ++ [e]), ro⟩) false (VIf_err (fun _ => VIf_b (nomatch ·) (fun _ => gi ⟨rfl, rfl⟩)) (fun h => absurd rfl h)) ?_
      exact VIf_b (nomatch ·) (fun _ => gi ⟨L1, r', ps, e, rfl, h1, ho, hI', by rw [hl']; exact hsz, by omega, by omega, by omega⟩)
    · rw [eq] at h1 ⊢
      refine join_b (h := ⟨[] ++ (L1 ++ [e]), ro⟩) false (VIf_err (fun _ => VIf_b (fun _ => gi ⟨rfl, rfl⟩) (nomatch ·)) (fun h => absurd rfl h)) ?_
      refine ⟨fun s' h => s' = s ∧ h = ⟨[] ++ (L1 ++ [e]), ro⟩, VIf_b (nomatch ·) (fun _ => gi ⟨rfl, rfl⟩), ?_⟩
      rintro _ _ _ ⟨rfl, rfl⟩
      have hlen := ho.sl_len
      rw [ints_length] at hlen
      have u0 := hI'.u0
      refine join_b (h := ⟨[] ++ (L1 ++ [e]), ro⟩) false (VIf_err (fun _ => VIf_b (fun _ => VIf_nb (fun _ => ⟨?_, gi ⟨rfl, decide_eq_false (by omega)⟩⟩) (nomatch ·)) (nomatch ·)) (fun h => absurd rfl h)) ?_
      · exact ⟨by omega, by omega⟩
      exact VIf_b (nomatch ·) (fun _ => gi ⟨L1, r', ps, e, rfl, h1, ho, hI', by rw [hl']; exact hsz, by omega, by omega, by omega⟩)
    · rw [eq] at h1 ⊢
      refine join_b (h := ⟨[] ++ (L1 ++ [e]), ro⟩) true (VIf_err (fun _ => VIf_b (fun _ => gi ⟨rfl, rfl⟩) (nomatch ·)) (fun h => absurd rfl h)) ?_
      refine ⟨fun s' h => RgSt p ro size (i + 1) s' got value out hv h, VIf_b (fun _ => ?_) (nomatch ·), ?_⟩
      · refine app_row grows_ints (vs := [.int .i64 value]) rfl ⟨rfl, trivial⟩ L1 e [] rfl ho (by have := ho.sl_len; rw [ints_length] at this; omega) (fun s' e' o' _ => ?_)
        exact gi ⟨L1, r', ps ++ [value], e', rfl, h1, by simpa [ints, intV] using o', hI', by rw [hl']; exact hsz, by simp; omega, by omega, by omega⟩
      rintro _ s' h hR
      refine ⟨fun b h => b = false ∧ RgSt p ro size (i + 1) s' got value out hv h, VIf_err (fun _ => VIf_b (fun _ => VIf_nb (nomatch ·) (fun _ => gi ⟨rfl, hR⟩)) (nomatch ·)) (fun h => absurd rfl h), ?_⟩
      rintro _ b h ⟨rfl, hR⟩
      exact VIf_b (nomatch ·) (fun _ => gi hR)
  clear hs hI hsz hl ho s
  rintro _ s h ⟨L, r, ps, e, rfl, hs, ho, hI, hsz, hl, -, -⟩
  -- a step of the side that gets
  refine ⟨fun got h => RgSt p ro size (i + 1) s got value out hv h, ?_, ?_⟩
  · refine VIf_eq (fun _ => ?_) (fun _ => gi ⟨L, r, ps, e, rfl, hs, ho, hI, hsz, by omega, by omega, by omega⟩)
    refine ring_stepget_c [] [e] rfl hs (hI.ok (by omega)) (fun L1 h1 => ⟨_, _, _, rfl, ?_⟩)
    rcases hI.stepGet with ⟨eq⟩ | ⟨r', eq, hl', hI'⟩ | ⟨r', eq, hl', hI', hf⟩ | ⟨r', v, eq, hl', hI', hv0, hp, hlt⟩
    · rw [eq] at h1 ⊢
      refine join_b (h := ⟨[] ++ (L1 ++ [e]), ro⟩) false (VIf_err (fun h => by cases h) (fun _ => gi ⟨rfl, rfl⟩)) ?_
      refine ⟨fun g' h => g' = got ∧ h = ⟨[] ++ (L1 ++ [e]), ro⟩, VIf_b (nomatch ·) (fun _ => gi ⟨rfl, rfl⟩), ?_⟩
      rintro _ _ _ ⟨rfl, rfl⟩
      refine join_b (h := ⟨[] ++ (L1 ++ [e]), ro⟩) false (VIf_err (fun h => by cases h) (fun _ => gi ⟨rfl, rfl⟩)) ?_
      exact VIf_b (nomatch ·) (fun _ => gi ⟨L1, r, ps, e, rfl, h1, ho, hI, hsz, by omega, by omega, by omega⟩)
    · rw [eq] at h1 ⊢
      refine join_b (h := ⟨[] ++ (L1 ++ [e]), ro⟩) false (VIf_err (fun _ => VIf_b (nomatch ·) (fun _ => gi ⟨rfl, rfl⟩)) (fun h => absurd rfl h)) ?_
      refine ⟨fun g' h => g' = got ∧ h = ⟨[] ++ (L1 ++ [e]), ro⟩, VIf_b (nomatch ·) (fun _ => gi ⟨rfl, rfl⟩), ?_⟩
      rintro _ _ _ ⟨rfl, rfl⟩
      refine join_b (h := ⟨[] ++ (L1 ++ [e]), ro⟩) false (VIf_err (fun _ => VIf_b (nomatch ·) (fun _ => gi ⟨rfl, rfl⟩)) (fun h => absurd rfl h)) ?_
      exact VIf_b (nomatch ·) (fun _ => gi ⟨L1, r', ps, e, rfl, h1, ho, hI', by rw [hl']; exact hsz, by omega, by omega, by omega⟩)
    · rw [eq] at h1 ⊢
      refine join_b (h := ⟨[] ++ (L1 ++ [e]), ro⟩) false (VIf_err (fun _ => VIf_b (fun _ => gi ⟨rfl, rfl⟩) (nomatch ·)) (fun h => absurd rfl h)) ?_
      refine ⟨fun g' h => g' = got ∧ h = ⟨[] ++ (L1 ++ [e]), ro⟩, VIf_b (nomatch ·) (fun _ => gi ⟨rfl, rfl⟩), ?_⟩
      rintro _ g' _ ⟨hg', rfl⟩
      refine join_b (h := ⟨[] ++ (L1 ++ [e]), ro⟩) false (VIf_err (fun _ => VIf_b (fun _ => VIf_dec (fun _ => gi ⟨rfl, decide_eq_false (by omega)⟩) (fun h => absurd (show (-1 : Int) < 0 by decide) h)) (nomatch ·)) (fun h => absurd rfl h)) ?_
      exact VIf_b (nomatch ·) (fun _ => gi ⟨L1, r', ps, e, rfl, h1, ho, by rw [hg']; exact hI', by rw [hl']; exact hsz, by omega, by omega, by omega⟩)
    · rw [eq] at h1 ⊢
      have hlen := ho.sl_len
      rw [ints_length] at hlen
      have g0 := hI.g0
      refine join_b (h := ⟨[] ++ (L1 ++ [e]), ro⟩) true (VIf_err (fun _ => VIf_b (fun _ => gi ⟨rfl, decide_eq_true hv0⟩) (nomatch ·)) (fun h => absurd rfl h)) ?_
      refine ⟨fun g' h => g' = got + 1 ∧ h = ⟨[] ++ (L1 ++ [e]), ro⟩, VIf_b (fun _ => ?_) (nomatch ·), ?_⟩
      · refine join_b (h := ⟨[] ++ (L1 ++ [e]), ro⟩) false (VIf_dec (fun h => by omega) (fun _ => ?_)) ?_
        · have hre : RdSl ⟨[] ++ (L1 ++ [e]), ro⟩ s (ints ps) := RdSl.of_own (e := e) (by simp) ho
          refine hre.idx g0 (by omega) fun x hx => gi ⟨rfl, ?_⟩
          rw [hp] at hx
          cases hx
          simp
        · exact VIf_b (nomatch ·) (fun _ => ⟨⟨by omega, by omega⟩, gi ⟨rfl, rfl⟩⟩)
      rintro _ _ _ ⟨rfl, rfl⟩
      refine join_b (h := ⟨[] ++ (L1 ++ [e]), ro⟩) false (VIf_err (fun _ => VIf_b (fun _ => VIf_dec (fun h => absurd hv0 (by simpa using h)) (fun _ => gi ⟨rfl, rfl⟩)) (nomatch ·)) (fun h => absurd rfl h)) ?_
      exact VIf_b (nomatch ·) (fun _ => gi ⟨L1, r', ps, e, rfl, h1, ho, hI', by rw [hl']; exact hsz, by omega, by omega, by omega⟩)
  clear hs hI hsz hl ho got
  rintro _ got h ⟨L, r, ps, e, rfl, hs, ho, hI, hsz, hl, -, -⟩
  have hlen := ho.sl_len
  rw [ints_length] at hlen
  have g0 := hI.g0
  have g1 := hI.g1
  have hroom := hI.room
  refine join_b (h := ⟨L ++ [e], ro⟩) false ⟨⟨by omega, by omega⟩, VIf_dec (fun h => by omega) (fun _ => gi ⟨rfl, decide_eq_false (by omega)⟩)⟩ ?_
  refine VIf_b (nomatch ·) (fun _ => ⟨⟨by omega, by omega⟩, (300 - (i + 1)).toNat, by omega, gi ⟨⟨L, r, ps, e, rfl, hs, ho, hI, hsz, by omega, by omega, by omega⟩, rfl⟩⟩)
end Go.Proofs.Ytnecppjgcbhnaaa
