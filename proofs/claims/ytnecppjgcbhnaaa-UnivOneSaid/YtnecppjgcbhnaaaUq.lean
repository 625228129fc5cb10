import Derived.Test.YtnecppjgcbhnaaaUg
namespace Go.Proofs.Ytnecppjgcbhnaaa
open Go.Eng
structure ULaw (u : Univ) (m : Nat) (al gs bs es mi : List Int) (i : Int) : Prop where
  la : al = u.deeds.map (·.2)
  lg : gs.length = u.deeds.length
  lb : bs.length = u.deeds.length
  le : es.length = u.deeds.length
  lm : mi.length = u.hands.length
  mn : ∀ (q : Nat) h, u.hands[q]? = some h → h.ln ≠ 0 → mi[q]? = some (h.deed - 1)
  got : ∀ (d : Nat) x, gs[d]? = some x → x = -1 ∨ ∃ k : Nat, k < m ∧ u.cells[k]? = some ((d : Int) + 1) ∧ x = usum u.deeds u.cells k
  bg : ∀ (d : Nat) x, bs[d]? = some x → x < i
  en : ∀ (d : Nat) x, es[d]? = some x → x = 1000 ∨ ∃ k : Nat, k < m ∧ u.cells[k]? = some ((d : Int) + 1)
  ord : ∀ (d f : Nat) x y, es[d]? = some x → bs[f]? = some y → x < y → ∀ k : Nat, u.cells[k]? = some ((f : Int) + 1) → ∃ j : Nat, j < k ∧ u.cells[j]? = some ((d : Int) + 1)
theorem ULaw.later {u : Univ} {m : Nat} {al gs bs es mi : List Int} {i : Int} (h : ULaw u m al gs bs es mi i) : ULaw u m al gs bs es mi (i + 1) :=
  { h with bg := fun d x hx => by have := h.bg d x hx; omega }
theorem app_cases {α : Type} {l : List α} {a x : α} {d : Nat} (h : (l ++ [a])[d]? = some x) : (d < l.length ∧ l[d]? = some x) ∨ (d = l.length ∧ x = a) := by
  by_cases hd : d < l.length
  · rw [List.getElem?_append_left hd] at h; exact .inl ⟨hd, h⟩
  · rw [List.getElem?_append_right (by omega)] at h
    have : d - l.length = 0 := by
      by_cases h0 : d - l.length = 0
      · exact h0
      · rw [List.getElem?_eq_none (by simp; omega)] at h; cases h
    rw [this] at h
    exact .inr ⟨by omega, by simpa using h.symm⟩
theorem ULaw.begin {u : Univ} {m : Nat} {al gs bs es mi : List Int} {i : Int} (h : ULaw u m al gs bs es mi i) (hI : UInv u m) (hi : i ≤ 200) {p : Nat} (hp : p < u.hands.length) {q add : Int} :
    ULaw { u with deeds := u.deeds ++ [(q, add)], hands := u.hands.set p ⟨1, u.deeds.length + 1, 0, 0⟩ } m (al ++ [add]) (gs ++ [-1]) (bs ++ [i]) (es ++ [1000]) (mi.set p al.length) (i + 1) := by
  obtain ⟨la, lg, lb, le, lm, mn, got, bg, en, ord⟩ := h
  have hc := hI.c
  have hm1 := hI.m1
  have fresh : ∀ i : Nat, u.cells[i]? ≠ some ((u.deeds.length : Int) + 1) := fun i hc => by
    by_cases hi : i < m
    · have := hI.z0 i _ hc hi; omega
    · have := hI.z1 i _ hc (by omega); omega
  have hus : ∀ k, k < m → usum (u.deeds ++ [(q, add)]) u.cells k = usum u.deeds u.cells k := fun k hk => usum_app (fun i x hx hi => hI.z0 i x hx (by omega)) (by omega)
  refine ⟨by simp [la], by simp [lg], by simp [lb], by simp [le], by simp [lm], fun a g hg h0 => ?_, fun d x hx => ?_, fun d x hx => ?_, fun d x hx => ?_, fun d f x y hx hy hxy k hk => ?_⟩
  · rcases set_cases hg with ⟨rfl, rfl⟩ | ⟨hne, hg'⟩
    · rw [List.getElem?_set_self (by omega), la]
      simp
    · rw [List.getElem?_set_ne (fun h => hne h.symm)]
      exact mn a g hg' h0
  · rcases app_cases hx with ⟨hd, hx'⟩ | ⟨hd, rfl⟩
    · rcases got d x hx' with h | ⟨k, hk1, hk2, hk3⟩
      · exact .inl h
      · exact .inr ⟨k, hk1, hk2, by dsimp only; rw [hus k hk1]; exact hk3⟩
    · exact .inl rfl
  · rcases app_cases hx with ⟨hd, hx'⟩ | ⟨hd, rfl⟩
    · have := bg d x hx'; omega
    · omega
  · rcases app_cases hx with ⟨hd, hx'⟩ | ⟨hd, rfl⟩
    · exact en d x hx'
    · exact .inl rfl
  · rcases app_cases hy with ⟨hf, hy'⟩ | ⟨hf, rfl⟩
    · rcases app_cases hx with ⟨hd, hx'⟩ | ⟨hd, rfl⟩
      · exact ord d f x y hx' hy' hxy k hk
      · have := bg f y hy'; omega
    · dsimp only at hk
      rw [hf, lb] at hk
      exact absurd hk (fresh k)
theorem ULaw.hand {u : Univ} {m : Nat} {al gs bs es mi : List Int} {i : Int} (h : ULaw u m al gs bs es mi i) {p : Nat} {g y : UHand} (hg : u.hands[p]? = some g) (hd : y.ln ≠ 0 → g.ln ≠ 0 ∧ y.deed = g.deed) : ULaw { u with hands := u.hands.set p y } m al gs bs es mi i := by
  obtain ⟨la, lg, lb, le, lm, mn, got, bg, en, ord⟩ := h
  refine ⟨la, lg, lb, le, by simpa using lm, fun a z hz h0 => ?_, got, bg, en, ord⟩
  rcases set_cases hz with ⟨rfl, rfl⟩ | ⟨hne, hz'⟩
  · obtain ⟨b1, b2⟩ := hd h0
    rw [b2]; exact mn a g hg b1
  · exact mn a z hz' h0
theorem ULaw.put {u : Univ} {m : Nat} {al gs bs es mi : List Int} {i : Int} (h : ULaw u m al gs bs es mi i) (hI : UInv u m) (hi : i ≤ 200) (hm : m < 41) {v : Int} (hv : ∀ k : Nat, u.cells[k]? ≠ some v) : ULaw { u with cells := u.cells.set m v } (m + 1) al gs bs es mi i := by
  obtain ⟨la, lg, lb, le, lm, mn, got, bg, en, ord⟩ := h
  have hc := hI.c
  have keep : ∀ (k : Nat) x, k < m → u.cells[k]? = some x → (u.cells.set m v)[k]? = some x := fun k x hk hx => by rw [List.getElem?_set_ne (by omega)]; exact hx
  refine ⟨la, lg, lb, le, lm, mn, fun d x hx => ?_, bg, fun d x hx => ?_, fun d f x y hx hy hxy k hk => ?_⟩
  · rcases got d x hx with h | ⟨k, hk1, hk2, hk3⟩
    · exact .inl h
    · exact .inr ⟨k, by omega, keep k _ hk1 hk2, by dsimp only; rw [usum_set (by omega)]; exact hk3⟩
  · rcases en d x hx with h | ⟨k, hk1, hk2⟩
    · exact .inl h
    · exact .inr ⟨k, by omega, keep k _ hk1 hk2⟩
  · rcases set_cases hk with ⟨rfl, rfl⟩ | ⟨hne, hk'⟩
    · rcases en d x hx with h | ⟨j, hj1, hj2⟩
      · have := bg f y hy; omega
      · exact ⟨j, hj1, keep j _ hj1 hj2⟩
    · obtain ⟨j, hj1, hj2⟩ := ord d f x y hx hy hxy k hk'
      have : j < m := by
        by_cases hjm : j < m
        · exact hjm
        · have := hI.z1 j _ hj2 (by omega); omega
      exact ⟨j, hj1, keep j _ this hj2⟩
theorem ULaw.done {u : Univ} {m : Nat} {al gs bs es mi : List Int} {i : Int} (h : ULaw u m al gs bs es mi i) (hi : i ≤ 200) {d k : Nat} (hd : d < u.deeds.length) (hk : k < m) (hc : u.cells[k]? = some ((d : Int) + 1)) : ULaw u m al (gs.set d (usum u.deeds u.cells k)) bs (es.set d i) mi i := by
  obtain ⟨la, lg, lb, le, lm, mn, got, bg, en, ord⟩ := h
  refine ⟨la, by simpa using lg, lb, by simpa using le, lm, mn, fun a x hx => ?_, bg, fun a x hx => ?_, fun a f x y hx hy hxy j hj => ?_⟩
  · rcases set_cases hx with ⟨rfl, rfl⟩ | ⟨hne, hx'⟩
    · exact .inr ⟨k, hk, hc, rfl⟩
    · exact got a x hx'
  · rcases set_cases hx with ⟨rfl, rfl⟩ | ⟨hne, hx'⟩
    · exact .inr ⟨k, hk, hc⟩
    · exact en a x hx'
  · rcases set_cases hx with ⟨rfl, rfl⟩ | ⟨hne, hx'⟩
    · have := bg f y hy; omega
    · exact ord a f x y hx' hy hxy j hj
theorem ULaw.start {n : Nat} : ULaw ⟨List.replicate 41 0, [], List.replicate n ⟨0, 0, 0, 0⟩⟩ 0 [] [] [] [] (List.replicate n 0) 0 := by
  refine ⟨rfl, rfl, rfl, rfl, by simp, fun q h hh h0 => ?_, by simp, by simp, by simp, by simp⟩
  dsimp only at hh
  rw [List.getElem?_replicate] at hh
  split at hh
  · cases hh; exact absurd rfl h0
  · cases hh
theorem univOrder_eq : ∀ (l : List Int) (m : Nat), (∀ (i : Nat) x, l[i]? = some x → i < m → x ≠ 0) → (∀ (i : Nat) x, l[i]? = some x → m ≤ i → x = 0) → univOrder l = (l.take m).map (· - 1)
  | [], m, _, _ => by simp [univOrder]
  | x :: l, 0, _, h => by have := h 0 x rfl (by omega); simp [univOrder, this]
  | x :: l, m + 1, h0, h1 => by
    have := h0 0 x rfl (by omega)
    rw [univOrder, if_neg this, univOrder_eq l m (fun i y hy hi => h0 (i + 1) y (by simpa using hy) (by omega)) (fun i y hy hi => h1 (i + 1) y (by simpa using hy) (by omega))]
    simp
def USt1 (p r : Nat) (ro : Addr → Option Value) (n : Int) (adds got begun ended : SV) (i : Int) (h : H) : Prop :=
  ∃ L u m al gs bs es mi ea eg eb ee em, h = ⟨L ++ [em, ea, eg, eb, ee], ro⟩ ∧ UnivAt p u L ∧ UInv u m ∧ ULaw u m al gs bs es mi i ∧ (u.hands.length : Int) = n ∧
    OwnsSl 1 ⟨some (Addr.mk r 0 none), n.toNat, n.toNat⟩ em (ints mi) ∧ OwnsSl 1 adds ea (ints al) ∧ OwnsSl 1 got eg (ints gs) ∧ OwnsSl 1 begun eb (ints bs) ∧ OwnsSl 1 ended ee (ints es)
set_option maxHeartbeats 1000000 in
theorem univOne_c {n : Int} {st : SV} {rows : List (SV × List Int)} {ro : Addr → Option Value} {post : Value → H → Prop} (hr : RdRowsOf ⟨[], ro⟩ st rows) (hpost : ∀ h, post (.bool true) h) :
    SemCall Try.prog 4 (List.toArray [.int .i64 n, .slice st.a st.len st.cap]) ⟨[], ro⟩ post := by
  refine f4_call _ _ _ post ?_
  refine univ_fact_c ⟨_, rfl, VIf_nb (nomatch ·) (fun _ => ?_)⟩
  refine univ_new_c (fun hc => ⟨_, _, rfl, VIf_nerr (fun _ => ?_) (nomatch ·)⟩) (fun p L hs c0 c1 => ⟨_, none, rfl, VIf_nnil ?_⟩)
  · exact join_or (ret (by rw [decide_eq_true (show n < 1 ∨ n > 4 by omega)]; exact hpost _))
  refine ⟨by omega, by omega, by omega, by omega, fun rm _ => ?_⟩
  rw [repl_ints]
  refine ⟨fun a g b e h => USt1 p rm ro n a g b e 200 h, ⟨fun k a g b e i h => USt1 p rm ro n a g b e i h ∧ 0 ≤ i ∧ i ≤ 200 ∧ k = (200 - i).toNat, ⟨200, ⟨L ++ [⟨some rm, ints (List.replicate n.toNat 0), (ints (List.replicate n.toNat 0)).length⟩, ⟨none, [], 0⟩, ⟨none, [], 0⟩, ⟨none, [], 0⟩, ⟨none, [], 0⟩], ro⟩, ?_, ⟨L, _, 0, [], [], [], [], _, _, _, _, _, _, rfl, hs, UInv.start (by omega), ULaw.start, by simp; omega, ?_, OwnsSl.nil 1, OwnsSl.nil 1, OwnsSl.nil 1, OwnsSl.nil 1⟩, by omega, by omega, rfl⟩, ?_⟩, ?_⟩
  · have g := fun (own : List Ent) => Gh.phantom own [] ro 0
    have g1 := ((g (L ++ [⟨some rm, ints (List.replicate n.toNat 0), (ints (List.replicate n.toNat 0)).length⟩])).trans (by simpa using g _)).trans ((by simpa using g _ : Gh _ _).trans (by simpa using g _))
    simpa using g1
  · exact OwnsSl.at0 1 (by simp) (by simp) (by simp only [maxLen]; omega)
  · rintro k _ adds got begun ended i h ⟨⟨L, u, m, al, gs, bs, es, mi, ea, eg, eb, ee, em, rfl, hs, hI, hL, hn, om, oa, og, ob, oe⟩, hi0, hi1, rfl⟩
    have hr : ∀ {own}, RdRowsOf ⟨own, ro⟩ st rows := hr.mono (by simp) (fun _ _ h => h)
    refine join_and (VIf_dec (fun hi => ?_) (fun _ => gi ⟨L, u, m, al, gs, bs, es, mi, ea, eg, eb, ee, em, rfl, hs, hI, { hL with bg := fun d x hx => by have := hL.bg d x hx; omega }, hn, om, oa, og, ob, oe⟩))
    refine hr.idx hi0 hi.1 fun t xs ht htr => ?_
    have htr : ∀ {own}, RdSl ⟨own, ro⟩ t (ints xs) := fun {own} => (hr (own := own)).2 _ (List.mem_of_getElem? ht)
    have hd40 := hI.d
    have lla : al.length = u.deeds.length := by rw [hL.la]; simp
    have sa := oa.sl_len; have sg := og.sl_len; have sb := ob.sl_len; have se := oe.sl_len
    rw [ints_length] at sa sg sb se
    have fin : ∀ h a g b e, USt1 p rm ro n a g b e (i + 1) h → (In64 (i + 1) ∧ ∃ m16, m16 < (200 - i).toNat ∧ ∃ h45, Gh h h45 ∧ USt1 p rm ro n a g b e (i + 1) h45 ∧ 0 ≤ i + 1 ∧ i + 1 ≤ 200 ∧ m16 = (200 - (i + 1)).toNat) := fun h a g b e hU => ⟨⟨by omega, by omega⟩, _, by omega, gi ⟨hU, by omega, by omega, rfl⟩⟩
    by_cases hlen : (t.len : Int) = 2
    · refine ⟨fun b h => ∃ L u m al gs bs es mi ea eg eb ee em x0 x1, h = ⟨L ++ [em, ea, eg, eb, ee], ro⟩ ∧ UnivAt p u L ∧ xs[(0 : Int).toNat]? = some x0 ∧ xs[(1 : Int).toNat]? = some x1 ∧ UInv u m ∧ (u.hands.length : Int) = n ∧
        OwnsSl 1 ⟨some (Addr.mk rm 0 none), n.toNat, n.toNat⟩ em (ints mi) ∧ OwnsSl 1 adds ea (ints al) ∧ OwnsSl 1 got eg (ints gs) ∧ OwnsSl 1 begun eb (ints bs) ∧ OwnsSl 1 ended ee (ints es) ∧ mi.length = u.hands.length ∧ al.length < 40 + 1 ∧
        (b = false → ULaw u m al gs bs es mi (i + 1)) ∧ (b = true → 0 ≤ x0 ∧ x0 ≤ n - 1 ∧ al.length < 40 ∧ ULaw u m (al ++ [x1]) (gs ++ [-1]) (bs ++ [i]) (es ++ [1000]) (mi.set x0.toNat al.length) (i + 1)), VIf_eq (fun _ => ?_) (fun h => absurd hlen h), ?_⟩
      · refine htr.idx (by omega) (by omega) fun x0 hx0 => htr.idx (by omega) (by omega) fun x1 hx1 => ?_
        rw [VIf_true]
        refine univ_begin_c [] [em, ea, eg, eb, ee] rfl hs hI.ok (fun L1 h1 => ⟨_, rfl, isIfaceV_errV _, ?_⟩)
        rw [isNilV_errV, eno_isNone]
        rcases hI.begin x0 x1 with ⟨k, hk', e⟩ | ⟨q0, q1, _, h, hh, hl, e, i1⟩ <;> rw [e] at h1 ⊢
        · exact gi ⟨L1, u, m, al, gs, bs, es, mi, ea, eg, eb, ee, em, x0, x1, rfl, h1, hx0, hx1, hI, hn, om, oa, og, ob, oe, hL.lm, by omega, fun _ => hL.later, fun h => absurd (of_decide_eq_true h) hk'⟩
        · have hql : x0.toNat < u.hands.length := by omega
          have hdl : u.deeds.length < 40 := by have := i1.d; simp at this; omega
          exact gi ⟨L1, _, m, al, gs, bs, es, mi, ea, eg, eb, ee, em, x0, x1, rfl, h1, hx0, hx1, i1, by simpa using hn, om, oa, og, ob, oe, by simpa using hL.lm, by omega, (nomatch ·), fun _ => ⟨q0, by omega, by omega, hL.begin hI hi1 hql⟩⟩
      clear hs hI hL hn om oa og ob oe lla sa sg sb se hd40
      rintro _ b h ⟨L, u, m, al, gs, bs, es, mi, ea, eg, eb, ee, em, x0, x1, rfl, hs, hx0, hx1, hI, hn, om, oa, og, ob, oe, hlm, hal, hb0, hb1⟩
      have sa := oa.sl_len; have sg := og.sl_len; have sb := ob.sl_len; have se := oe.sl_len
      rw [ints_length] at sa sg sb se
      refine ⟨fun a g b e h => USt1 p rm ro n a g b e (i + 1) h, VIf_b (fun hb => ?_) (fun hb => gi ⟨L, u, m, al, gs, bs, es, mi, ea, eg, eb, ee, em, rfl, hs, hI, hb0 hb, hn, om, oa, og, ob, oe⟩), ?_⟩
      · obtain ⟨q0, q1, hal', hL⟩ := hb1 hb
        have lg := hL.lg; have lb := hL.lb; have le := hL.le; have la := congrArg List.length hL.la
        simp at lg lb le la
        refine htr.idx (by omega) (by omega) fun y0 hy0 => ?_
        rw [hx0] at hy0; cases hy0
        refine ⟨⟨by omega, by omega⟩, in_i (fun hc => by omega) (fun _ _ => ⟨_, rfl, VIf_nb (nomatch ·) (fun _ => ?_)⟩)⟩
        refine htr.idx (by omega) (by omega) fun y0 hy0 => ?_
        rw [hx0] at hy0; cases hy0
        refine wr_at L em [ea, eg, eb, ee] rfl om q0 (by dsimp only; omega) (fun em' om' _ => ?_)
        refine htr.idx (by omega) (by omega) fun y1 hy1 => ?_
        rw [hx1] at hy1; cases hy1
        refine app_row grows_ints (vs := [.int .i64 x1]) rfl ⟨rfl, trivial⟩ (L ++ [em']) ea [eg, eb, ee] (by simp) oa (by omega) (fun s1 e1 o1 _ => ?_)
        refine app_row grows_ints (vs := [.int .i64 (-1)]) rfl ⟨rfl, trivial⟩ (L ++ [em', e1]) eg [eb, ee] (by simp) og (by omega) (fun s2 e2 o2 _ => ?_)
        refine app_row grows_ints (vs := [.int .i64 i]) rfl ⟨rfl, trivial⟩ (L ++ [em', e1, e2]) eb [ee] (by simp) ob (by omega) (fun s3 e3 o3 _ => ?_)
        refine app_row grows_ints (vs := [.int .i64 1000]) rfl ⟨rfl, trivial⟩ (L ++ [em', e1, e2, e3]) ee [] (by simp) oe (by omega) (fun s4 e4 o4 _ => ?_)
        refine gi ⟨L, u, m, _, _, _, _, _, e1, e2, e3, e4, em', by simp, hs, hI, hL, hn, ?_, by simpa [ints, intV] using o1, by simpa [ints, intV] using o2, by simpa [ints, intV] using o3, by simpa [ints, intV] using o4⟩
        rw [sa] at om'
        exact om'
      clear hs hI hb0 hb1 hn om oa og ob oe hx0 hx1
      rintro _ a g b e h hU
      exact VIf_eq (fun h => absurd (h.symm.trans hlen) (by decide)) (fun _ => fin _ _ _ _ _ hU)
    · refine ⟨fun b h => b = false ∧ h = ⟨L ++ [em, ea, eg, eb, ee], ro⟩, VIf_eq (fun h => absurd h hlen) (fun _ => ?_), ?_⟩
      · rw [VIf_false]; exact gi ⟨rfl, rfl⟩
      rintro _ _ _ ⟨rfl, rfl⟩
      refine ⟨fun a g b e h => a = adds ∧ g = got ∧ b = begun ∧ e = ended ∧ h = ⟨L ++ [em, ea, eg, eb, ee], ro⟩, VIf_b (nomatch ·) (fun _ => gi ⟨rfl, rfl, rfl, rfl, rfl⟩), ?_⟩
      rintro _ _ _ _ _ _ ⟨rfl, rfl, rfl, rfl, rfl⟩
      refine VIf_eq (fun h1 => ?_) (fun _ => fin _ _ _ _ _ ⟨L, u, m, al, gs, bs, es, mi, ea, eg, eb, ee, em, rfl, hs, hI, hL.later, hn, om, oa, og, ob, oe⟩)
      refine htr.idx (by omega) (by omega) fun x0 hx0 => ?_
      refine univ_step_c [] [em, ea, eg, eb, ee] rfl hs hI.ok (fun L1 h1 => ⟨_, _, _, rfl, ?_⟩)
      have hc41 := hI.c
      rcases hI.step x0 with ⟨k, hk', _, e⟩ | ⟨q0, q1, h, hh, hl, hc, e, iv⟩ | ⟨q0, q1, h, hh, hl, hc, e, iv⟩ | ⟨q0, q1, h, g', hh, hl, hc, hne, hg', e, iv⟩ | ⟨q0, q1, h, hh, hl, hc, hdd, hsum, e, iv⟩ <;> rw [e] at h1 ⊢
      · refine join_b (h := ⟨[] ++ (L1 ++ [em, ea, eg, eb, ee]), ro⟩) false (VIf_err (fun h => absurd h hk') (fun _ => gi ⟨rfl, rfl⟩)) (VIf_b (nomatch ·) (fun _ => fin _ _ _ _ _ ⟨L1, u, m, al, gs, bs, es, mi, ea, eg, eb, ee, em, rfl, h1, hI, hL.later, hn, om, oa, og, ob, oe⟩))
      · refine join_b (h := ⟨[] ++ (L1 ++ [em, ea, eg, eb, ee]), ro⟩) false (VIf_nil (gi ⟨rfl, rfl⟩)) (VIf_b (nomatch ·) (fun _ => fin _ _ _ _ _ ⟨L1, _, _, al, gs, bs, es, mi, ea, eg, eb, ee, em, rfl, h1, iv, ?_, by simpa using hn, om, oa, og, ob, oe⟩))
        have hhi := hI.ha h (List.mem_of_getElem? hh) (by omega)
        have hlt := hI.lt hhi.d0 hhi.d1 (hhi.l1 hl)
        exact ((hL.put hI hi1 (by omega) (hhi.l1 hl)).hand (u := { u with cells := u.cells.set m h.deed }) (y := { h with ln := 2 }) hh (fun _ => ⟨by omega, rfl⟩)).later
      · refine join_b (h := ⟨[] ++ (L1 ++ [em, ea, eg, eb, ee]), ro⟩) false (VIf_nil (gi ⟨rfl, rfl⟩)) (VIf_b (nomatch ·) (fun _ => fin _ _ _ _ _ ⟨L1, _, _, al, gs, bs, es, mi, ea, eg, eb, ee, em, rfl, h1, iv, (hL.hand (y := { h with ln := 2 }) hh (fun _ => ⟨by omega, rfl⟩)).later, by simpa using hn, om, oa, og, ob, oe⟩))
      · refine join_b (h := ⟨[] ++ (L1 ++ [em, ea, eg, eb, ee]), ro⟩) false (VIf_nil (gi ⟨rfl, rfl⟩)) (VIf_b (nomatch ·) (fun _ => fin _ _ _ _ _ ⟨L1, _, _, al, gs, bs, es, mi, ea, eg, eb, ee, em, rfl, h1, iv, (hL.hand hh (fun _ => ⟨by omega, hg'.2.1⟩)).later, by simpa using hn, om, oa, og, ob, oe⟩))
      · refine join_b (h := ⟨[] ++ (L1 ++ [em, ea, eg, eb, ee]), ro⟩) true (VIf_nil (gi ⟨rfl, rfl⟩)) (VIf_b (fun _ => ?_) (nomatch ·))
        have hhi := hI.ha h (List.mem_of_getElem? hh) (by omega)
        have hmi := hL.mn _ h hh (by omega)
        have d0 := hhi.d0
        have d1 := hhi.d1
        have lg := hL.lg; have le := hL.le; have lm := hL.lm
        have rm' : ∀ {X : List Ent}, RdSl ⟨[] ++ (L1 ++ (em :: X)), ro⟩ ⟨some (Addr.mk rm 0 none), n.toNat, n.toNat⟩ (ints mi) := fun {X} => RdSl.of_own (e := em) (by simp) om
        refine join_b (h := ⟨[] ++ (L1 ++ [em, ea, eg, eb, ee]), ro⟩) false ?_ (VIf_b (nomatch ·) (fun _ => ?_))
        · refine htr.idx (by omega) (by omega) fun y0 hy0 => ?_
          rw [hx0] at hy0; cases hy0
          refine ⟨⟨by omega, by omega⟩, in_i (fun hc => by omega) (fun _ _ => ⟨_, rfl, VIf_nb (nomatch ·) (fun _ => ?_)⟩)⟩
          refine htr.idx (by omega) (by omega) fun y0 hy0 => ?_
          rw [hx0] at hy0; cases hy0
          refine (rm' (X := [ea, eg, eb, ee])).idx q0 (by dsimp only; omega) fun z hz => gi ⟨rfl, ?_⟩
          rw [hmi] at hz; cases hz
          exact decide_eq_false (by omega)
        refine htr.idx (by omega) (by omega) fun y0 hy0 => ?_
        rw [hx0] at hy0; cases hy0
        refine (rm' (X := [ea, eg, eb, ee])).idx q0 (by dsimp only; omega) fun z hz => ?_
        rw [hmi] at hz; cases hz
        refine wr_at (L1 ++ [em, ea]) eg [eb, ee] (by simp) og (by omega) (by omega) (fun eg' og' _ => ?_)
        refine htr.idx (by omega) (by omega) fun y0 hy0 => ?_
        rw [hx0] at hy0; cases hy0
        have rm2 : RdSl ⟨L1 ++ [em, ea] ++ eg' :: [eb, ee], ro⟩ ⟨some (Addr.mk rm 0 none), n.toNat, n.toNat⟩ (ints mi) := RdSl.of_own (e := em) (by simp) om
        refine rm2.idx q0 (by dsimp only; omega) fun z hz => ?_
        rw [hmi] at hz; cases hz
        refine wr_at (L1 ++ [em, ea, eg', eb]) ee [] (by simp) oe (by omega) (by omega) (fun ee' oe' _ => ?_)
        have hcell : u.cells[h.cell.toNat]? = some (((h.deed - 1).toNat : Int) + 1) := by rw [hdd]; congr 1; omega
        have hLd := (hL.done (i := i) hi1 (d := (h.deed - 1).toNat) (k := h.cell.toNat) (by omega) (by have := hhi.c0; omega) hcell)
        refine fin _ _ _ _ _ ⟨L1, _, m, al, _, bs, _, mi, ea, eg', eb, ee', em, by simp, h1, iv, (ULaw.hand hLd hh (fun h => absurd rfl h)).later, by simpa using hn, om, oa, ?_, ob, oe'⟩
        dsimp only at og'
        rw [hsum] at og'
        exact og'
  rintro _ adds got begun ended h ⟨L, u, m, al, gs, bs, es, mi, ea, eg, eb, ee, em, rfl, hs, hI, hL, hn, om, oa, og, ob, oe⟩
  have hd40 := hI.d
  have hc41 := hI.c
  have hm1 := hI.m1
  have hmle := hI.le
  have lla : al.length = u.deeds.length := by rw [hL.la]; simp
  have lg := hL.lg; have lb := hL.lb; have le := hL.le
  have sa := oa.sl_len; have sg := og.sl_len; have sb := ob.sl_len; have se := oe.sl_len
  rw [ints_length] at sa sg sb se
  have hcb : ∀ x ∈ u.cells, 0 ≤ x ∧ x ≤ 1000 := by
    intro x hx
    obtain ⟨j, hj⟩ := List.mem_iff_getElem?.1 hx
    by_cases hjm : j < m
    · have := hI.z0 j x hj hjm; omega
    · have := hI.z1 j x hj (by omega); omega
  have heo : univOrder u.cells = (u.cells.take m).map (· - 1) := univOrder_eq _ _ (fun i x hx hi => by have := hI.z0 i x hx hi; omega) hI.z1
  refine univ_order_c hs (by intro e he; simp [he]) hcb (fun so eo oo => ⟨so, rfl, ⟨by omega, by omega, by omega, by omega, fun rp _ => ?_⟩⟩)
  rw [repl_ints]
  have slo := oo.sl_len
  rw [ints_length, heo] at slo
  simp at slo
  rw [heo] at oo
  clear hcb
  generalize hB : L ++ [em, ea, eg, eb, ee] ++ [eo] = B
  have ma : ea ∈ B := by rw [← hB]; simp
  have mg : eg ∈ B := by rw [← hB]; simp
  have mb : eb ∈ B := by rw [← hB]; simp
  have me : ee ∈ B := by rw [← hB]; simp
  have mo : eo ∈ B := by rw [← hB]; simp
  have ra : ∀ {X : List Ent}, RdSl ⟨B ++ X, ro⟩ adds (ints al) := fun {X} => RdSl.of_own (List.mem_append_left _ ma) oa
  have rg : ∀ {X : List Ent}, RdSl ⟨B ++ X, ro⟩ got (ints gs) := fun {X} => RdSl.of_own (List.mem_append_left _ mg) og
  have rb : ∀ {X : List Ent}, RdSl ⟨B ++ X, ro⟩ begun (ints bs) := fun {X} => RdSl.of_own (List.mem_append_left _ mb) ob
  have re : ∀ {X : List Ent}, RdSl ⟨B ++ X, ro⟩ ended (ints es) := fun {X} => RdSl.of_own (List.mem_append_left _ me) oe
  have rO : ∀ {X : List Ent}, RdSl ⟨B ++ X, ro⟩ so (ints ((u.cells.take m).map (· - 1))) := fun {X} => RdSl.of_own (List.mem_append_left _ mo) oo
  clear ma mg mb me mo hB oa og ob oe oo om hs heo
  have op : OwnsSl 1 ⟨some (Addr.mk rp 0 none), ((adds.len : Nat) : Int).toNat, ((adds.len : Nat) : Int).toNat⟩ ⟨some rp, ints (List.replicate ((adds.len : Nat) : Int).toNat 0), (ints (List.replicate ((adds.len : Nat) : Int).toNat 0)).length⟩ (ints (List.replicate ((adds.len : Nat) : Int).toNat 0)) := OwnsSl.at0 1 (by simp) (by simp) (by simp only [maxLen]; omega)
  refine ⟨fun h => ∃ pl ep, h = ⟨B ++ [ep], ro⟩ ∧ OwnsSl 1 ⟨some (Addr.mk rp 0 none), ((adds.len : Nat) : Int).toNat, ((adds.len : Nat) : Int).toNat⟩ ep (ints pl) ∧ pl.length = u.deeds.length ∧ ∀ j : Nat, j < u.deeds.length → pl[j]? = some (-1),
    ⟨fun k d h => ∃ pl ep, h = ⟨B ++ [ep], ro⟩ ∧ OwnsSl 1 ⟨some (Addr.mk rp 0 none), ((adds.len : Nat) : Int).toNat, ((adds.len : Nat) : Int).toNat⟩ ep (ints pl) ∧ pl.length = u.deeds.length ∧ (∀ j : Nat, j < d → pl[j]? = some (-1)) ∧ 0 ≤ d ∧ d ≤ u.deeds.length ∧ k = (u.deeds.length - d).toNat,
      ⟨u.deeds.length, gi ⟨_, _, rfl, op, by simp; omega, fun j hj => by omega, by omega, by omega, by omega⟩⟩, ?_⟩, ?_⟩
  · rintro k _ d h ⟨pl, ep, rfl, op, hpl, hpd, hd0, hd1, rfl⟩
    refine VIf_dec (fun hd => ?_) (fun hd => gi ⟨pl, ep, rfl, op, hpl, fun j hj => hpd j (by omega)⟩)
    refine wr_at B ep [] rfl op hd0 (by dsimp only; omega) (fun ep' op' _ => ⟨⟨by omega, by omega⟩, (u.deeds.length - (d + 1)).toNat, by omega, gi ⟨_, ep', rfl, op', by simpa using hpl, fun j hj => ?_, by omega, by omega, rfl⟩⟩)
    by_cases hjd : j = d.toNat
    · subst hjd; rw [List.getElem?_set_self (by omega)]
    · rw [List.getElem?_set_ne (fun h => hjd h.symm)]; exact hpd j (by omega)
  clear op
  rintro _ h ⟨pl, ep, rfl, op, hpl, hpd⟩
  have cellm : ∀ k : Nat, k < m → ∃ x, u.cells[k]? = some x ∧ 1 ≤ x ∧ x ≤ (u.deeds.length : Int) := fun k hk => ⟨_, List.getElem?_eq_getElem (by omega), hI.z0 k _ (List.getElem?_eq_getElem (by omega)) hk⟩
  refine ⟨fun h => ∃ pl ep, h = ⟨B ++ [ep], ro⟩ ∧ OwnsSl 1 ⟨some (Addr.mk rp 0 none), ((adds.len : Nat) : Int).toNat, ((adds.len : Nat) : Int).toNat⟩ ep (ints pl) ∧ pl.length = u.deeds.length ∧ ∀ d : Nat, d < u.deeds.length → (pl[d]? = some (-1) ∧ ∀ j : Nat, j < m → u.cells[j]? ≠ some ((d : Int) + 1)) ∨ ∃ j : Nat, j < m ∧ u.cells[j]? = some ((d : Int) + 1) ∧ pl[d]? = some (j : Int),
    ⟨fun n sum k h => ∃ (kk : Nat) (pl : List Int) (ep : Ent), k = kk ∧ kk ≤ m ∧ sum = usum u.deeds u.cells kk ∧ h = ⟨B ++ [ep], ro⟩ ∧ OwnsSl 1 ⟨some (Addr.mk rp 0 none), ((adds.len : Nat) : Int).toNat, ((adds.len : Nat) : Int).toNat⟩ ep (ints pl) ∧ pl.length = u.deeds.length ∧ (∀ d : Nat, d < u.deeds.length → (pl[d]? = some (-1) ∧ ∀ j : Nat, j < kk → u.cells[j]? ≠ some ((d : Int) + 1)) ∨ ∃ j : Nat, j < kk ∧ u.cells[j]? = some ((d : Int) + 1) ∧ pl[d]? = some (j : Int)) ∧ n = m - kk,
      ⟨m, gi ⟨0, pl, ep, rfl, by omega, rfl, rfl, op, hpl, fun d hd => .inl ⟨hpd d hd, fun j hj => by omega⟩, rfl⟩⟩, ?_⟩, ?_⟩
  · clear hpd hpl op pl ep
    rintro n _ sum k h ⟨kk, pl, ep, rfl, hk1, rfl, rfl, op, hpl, hpd, rfl⟩
    refine VIf_dec (fun hk => ?_) (fun hk => gi ?_)
    · have hkm : kk < m := by omega
      obtain ⟨x, hx, hx0, hx1⟩ := cellm kk hkm
      have hpx : pl[(x - 1).toNat]? = some (-1) := by
        rcases hpd (x - 1).toNat (by omega) with h | ⟨j, hj, hj2, _⟩
        · exact h.1
        · have := hI.inj j kk x (by omega) hkm (by rw [hj2]; congr 1; omega) hx
          omega
      have rp' : ∀ {X : List Ent}, RdSl ⟨B ++ (ep :: X), ro⟩ ⟨some (Addr.mk rp 0 none), ((adds.len : Nat) : Int).toNat, ((adds.len : Nat) : Int).toNat⟩ (ints pl) := fun {X} => RdSl.of_own (e := ep) (by simp) op
      refine (rO (X := [ep])).idx (by omega) (by omega) fun y hy => ?_
      have hy : y = x - 1 := by
        rw [List.getElem?_map, List.getElem?_take_of_lt (by omega), Int.toNat_natCast, hx] at hy
        simpa using hy.symm
      subst hy
      refine join_b (h := ⟨B ++ [ep], ro⟩) false ⟨⟨by omega, by omega⟩, in_i (fun hc => by omega) (fun _ _ => ⟨_, rfl, VIf_nb (nomatch ·) (fun _ => ?_)⟩)⟩ (VIf_b (nomatch ·) (fun _ => ?_))
      · refine (rp' (X := [])).idx (by omega) (by dsimp only; omega) fun z hz => gi ⟨rfl, ?_⟩
        rw [hpx] at hz; cases hz; rfl
      refine wr_at B ep [] rfl op (by omega) (by dsimp only; omega) (fun ep' op' _ => ?_)
      obtain ⟨g, hg⟩ : ∃ g, gs[(x - 1).toNat]? = some g := ⟨_, List.getElem?_eq_getElem (by omega)⟩
      have hgok : g ≥ 0 → g = usum u.deeds u.cells kk := fun h0 => by
        rcases hL.got _ g hg with h | ⟨j, hj, hj2, hj3⟩
        · omega
        · have := hI.inj j kk x hj hkm (by rw [hj2]; congr 1; omega) hx
          subst this; exact hj3
      refine join_b (h := ⟨B ++ [ep'], ro⟩) false ?_ (VIf_b (nomatch ·) (fun _ => ?_))
      · refine (rg (X := [ep'])).idx (by omega) (by omega) fun z hz => ?_
        rw [hg] at hz; cases hz
        refine VIf_dec (fun h0 => ?_) (fun _ => gi ⟨rfl, rfl⟩)
        refine (rg (X := [ep'])).idx (by omega) (by omega) fun z hz => gi ⟨rfl, ?_⟩
        rw [hg] at hz; cases hz
        rw [hgok h0]; simp
      refine (ra (X := [ep'])).idx (by omega) (by omega) fun z hz => ?_
      have hz' : z = uadd u.deeds x := by
        rw [hL.la, List.getElem?_map] at hz
        unfold uadd
        cases hdd : u.deeds[(x - 1).toNat]? with
        | none => rw [hdd] at hz; cases hz
        | some w => rw [hdd] at hz; simpa using hz.symm
      have b1 := usum_ok (cells := u.cells) hI.a kk
      have b2 := uadd_ok hI.a x
      refine ⟨⟨by omega, by omega⟩, ⟨by omega, by omega⟩, m - (kk + 1), by omega, gi ⟨kk + 1, _, ep', by omega, by omega, ?_, rfl, op', by simpa using hpl, fun d hd => ?_, rfl⟩⟩
      · rw [usum, hx, hz']; rfl
      · by_cases hdx : d = (x - 1).toNat
        · refine .inr ⟨kk, by omega, by rw [hx]; congr 1; omega, ?_⟩
          rw [hdx, List.getElem?_set_self (by omega)]
        · rw [List.getElem?_set_ne (fun h => hdx h.symm)]
          rcases hpd d hd with ⟨h1, h2⟩ | ⟨j, hj, hj2, hj3⟩
          · refine .inl ⟨h1, fun j hj => ?_⟩
            by_cases hjk : j = kk
            · subst hjk; rw [hx]; intro hc; cases hc; omega
            · exact h2 j (by omega)
          · exact .inr ⟨j, by omega, hj2, hj3⟩
    · have : kk = m := by omega
      subst this
      exact ⟨pl, ep, rfl, op, hpl, hpd⟩
  clear hpd hpl op pl ep
  rintro _ h ⟨pl, ep, rfl, op, hpl, hpd⟩
  have rp' : RdSl ⟨B ++ [ep], ro⟩ ⟨some (Addr.mk rp 0 none), ((adds.len : Nat) : Int).toNat, ((adds.len : Nat) : Int).toNat⟩ (ints pl) := RdSl.of_own (e := ep) (by simp) op
  refine ⟨fun _ => True, ⟨fun k d h => h = ⟨B ++ [ep], ro⟩ ∧ 0 ≤ d ∧ d ≤ u.deeds.length ∧ k = (u.deeds.length - d).toNat, ⟨_, gi ⟨rfl, by omega, by omega, rfl⟩⟩, ?_⟩, fun _ h _ => ret (hpost h)⟩
  rintro k _ d h ⟨rfl, hd0, hd1, rfl⟩
  refine VIf_dec (fun hd => ?_) (fun hd => gi trivial)
  refine ⟨fun h => h = ⟨B ++ [ep], ro⟩, join_b (h := ⟨B ++ [ep], ro⟩) false ?_ (VIf_b (nomatch ·) (fun _ => ?_)), ?_⟩
  · refine (rg (X := [ep])).idx (by omega) (by omega) fun g hg => VIf_dec (fun h0 => ?_) (fun _ => gi ⟨rfl, rfl⟩)
    refine rp'.idx (by omega) (by dsimp only; omega) fun z hz => gi ⟨rfl, decide_eq_false ?_⟩
    rcases hL.got _ g hg with h | ⟨j, hj, hj2, hj3⟩
    · omega
    · rcases hpd d.toNat (by omega) with ⟨h1, h2⟩ | ⟨j, hj, hj2, hj3⟩
      · exact absurd hj2 (h2 j hj)
      · rw [hj3] at hz; cases hz; omega
  · refine ⟨fun h => h = ⟨B ++ [ep], ro⟩, ⟨fun k f h => h = ⟨B ++ [ep], ro⟩ ∧ 0 ≤ f ∧ f ≤ u.deeds.length ∧ k = (u.deeds.length - f).toNat, ⟨_, gi ⟨rfl, by omega, by omega, rfl⟩⟩, ?_⟩, fun _ h hh => gi hh⟩
    rintro k _ f h ⟨rfl, hf0, hf1, rfl⟩
    refine VIf_dec (fun hf => ?_) (fun hf => gi rfl)
    refine join_b (h := ⟨B ++ [ep], ro⟩) false ?_ (VIf_b (nomatch ·) (fun _ => ⟨⟨by omega, by omega⟩, (u.deeds.length - (f + 1)).toNat, by omega, gi ⟨rfl, by omega, by omega, rfl⟩⟩))
    refine (re (X := [ep])).idx (by omega) (by omega) fun x hx => (rb (X := [ep])).idx (by omega) (by omega) fun y hy => VIf_dec (fun hxy => ?_) (fun _ => gi ⟨rfl, rfl⟩)
    refine rp'.idx (by omega) (by dsimp only; omega) fun z hz => VIf_dec (fun hz0 => ?_) (fun _ => gi ⟨rfl, rfl⟩)
    refine rp'.idx (by omega) (by dsimp only; omega) fun w hw => rp'.idx (by omega) (by dsimp only; omega) fun z' hz' => gi ⟨rfl, decide_eq_false ?_⟩
    rw [hz] at hz'; cases hz'
    rcases hpd f.toNat (by omega) with ⟨h1, h2⟩ | ⟨j, hj, hj2, hj3⟩
    · rw [h1] at hz; cases hz; omega
    · rw [hj3] at hz; cases hz
      obtain ⟨j', hj', hj4⟩ := hL.ord _ _ x y hx hy hxy j hj2
      rcases hpd d.toNat (by omega) with ⟨h1, h2⟩ | ⟨j2, hj5, hj6, hj7⟩
      · exact absurd hj4 (h2 j' (by omega))
      · have := hI.inj j' j2 _ (by omega) hj5 hj4 hj6
        rw [hj7] at hw; cases hw
        omega
  · rintro _ h rfl
    exact ⟨⟨by omega, by omega⟩, (u.deeds.length - (d + 1)).toNat, by omega, gi ⟨rfl, by omega, by omega, rfl⟩⟩
end Go.Proofs.Ytnecppjgcbhnaaa
