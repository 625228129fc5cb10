import Derived.Test.YtnecppjgcbhnaaaSg
namespace Go.Proofs.Ytnecppjgcbhnaaa
open Go.Eng
/-! ### all looks stand in one row, plain -/
abbrev WT := Nat → Nat → Int
/-- what is seen was so at a time -/
def At (W : WT) (s : Nat) (l : List Int) : Prop := ∀ (r : Nat) x, l[r]? = some x → x = W s r
def Wd (W : WT) (i j : Nat) (w : SWord) : Prop := w.value = w.turn ∧ (w.turn ≥ 1 → ∃ s, s ≤ i ∧ At W s w.seen ∧ w.turn - 1 ≤ W s j)
def HLn (W : WT) (i st : Nat) (h : SHand) : Prop :=
  (h.ln = 1 → (∀ x ∈ h.moved, x = 0) ∧ ∀ (j : Nat) w, h.first[j]? = some w → Wd W i j w ∧ W st j ≤ w.turn ∧ w.turn ≤ W i j) ∧
  (h.ln = 2 → ∃ mid, st ≤ mid ∧ mid ≤ i ∧ (∀ (j : Nat) w, h.first[j]? = some w → Wd W i j w ∧ W st j ≤ w.turn ∧ w.turn ≤ W mid j) ∧ (∀ (j : Nat) w, h.last[j]? = some w → Wd W i j w ∧ W mid j ≤ w.turn ∧ w.turn ≤ W i j) ∧ (∀ (j : Nat) w, h.moved[j]? = some 1 → h.first[j]? = some w → W st j + 1 ≤ w.turn)) ∧
  (h.ln = 3 → ∃ s, st ≤ s ∧ s ≤ i ∧ At W s h.moved)
structure HAct (W : WT) (i q n : Nat) (h : SHand) (bg : List Int) (wr : List Bool) (sc : List Int) (hd : List (List Int)) (st : Nat) : Prop where
  t : st ≤ i
  own : W i q = W st q
  w : wr[q]? = some h.writes
  w1 : h.writes = true → bg[q]? = some (W i q + 1) ∧ h.value = W i q + 1
  w0 : h.writes = false → bg[q]? = some (W i q) ∧ sc[q]? = some (st : Int) ∧ ∃ l, hd[q]? = some l ∧ l.length = n ∧ At W st l
  l : HLn W i st h
structure RowI (b : Board) (n i : Nat) (W : WT) (bg wn : List Int) (wr : List Bool) (sc : List Int) (hd lk : List (List Int)) (fr to : List Int) : Prop where
  inv : SInv b n i
  l1 : bg.length = n
  l2 : wn.length = n
  l3 : wr.length = n
  l4 : sc.length = n
  l5 : hd.length = n
  l6 : fr.length = lk.length
  l7 : to.length = lk.length
  mono : ∀ s t q, s ≤ t → t ≤ i → W s q ≤ W t q
  pos : ∀ q, 0 ≤ W 0 q
  lim : ∀ q, W i q ≤ i
  cur : ∀ q, q < n → wn[q]? = some (W i q)
  word : ∀ (q : Nat) w, b.words[q]? = some w → w.turn = W i q ∧ Wd W i q w
  idle : ∀ (q : Nat) h, b.hands[q]? = some h → h.ln = 0 → bg[q]? = some (W i q)
  act : ∀ (q : Nat) h, b.hands[q]? = some h → h.ln ≠ 0 → ∃ st, HAct W i q n h bg wr sc hd st
  look : ∀ (k : Nat) l, lk[k]? = some l → l.length = n ∧ ∃ (s : Nat) (f t : Int), s ≤ i ∧ fr[k]? = some f ∧ to[k]? = some t ∧ f ≤ s ∧ (s : Int) ≤ t ∧ At W s l
theorem Wd.up {W W' : WT} {i i' j : Nat} {w : SWord} (h : Wd W i j w) (hi : i ≤ i') (ha : ∀ s q, s ≤ i → W' s q = W s q) : Wd W' i' j w := by
  refine ⟨h.1, fun ht => ?_⟩
  obtain ⟨s, a1, a2, a3⟩ := h.2 ht
  exact ⟨s, by omega, fun r x hx => by rw [ha s r a1]; exact a2 r x hx, by rw [ha s j a1]; exact a3⟩
theorem HLn.up {W W' : WT} {i i' st : Nat} {h : SHand} (hl : HLn W i st h) (hst : st ≤ i) (hi : i ≤ i') (ha : ∀ s q, s ≤ i → W' s q = W s q) (hm : ∀ q, W i q ≤ W' i' q) : HLn W' i' st h := by
  obtain ⟨h1, h2, h3⟩ := hl
  refine ⟨fun e => ⟨(h1 e).1, fun j w hw => ?_⟩, fun e => ?_, fun e => ?_⟩
  · obtain ⟨a1, a2, a3⟩ := (h1 e).2 j w hw
    have := hm j
    exact ⟨a1.up hi ha, by rw [ha st j hst]; exact a2, by omega⟩
  · obtain ⟨mid, b1, b2, b3, b4, b5⟩ := h2 e
    refine ⟨mid, b1, by omega, fun j w hw => ?_, fun j w hw => ?_, fun j w hj hw => ?_⟩
    · obtain ⟨a1, a2, a3⟩ := b3 j w hw
      exact ⟨a1.up hi ha, by rw [ha st j hst]; exact a2, by rw [ha mid j b2]; exact a3⟩
    · obtain ⟨a1, a2, a3⟩ := b4 j w hw
      have := hm j
      exact ⟨a1.up hi ha, by rw [ha mid j b2]; exact a2, by omega⟩
    · rw [ha st j hst]; exact b5 j w hj hw
  · obtain ⟨s, b1, b2, b3⟩ := h3 e
    exact ⟨s, b1, by omega, fun r x hx => by rw [ha s r b2]; exact b3 r x hx⟩
theorem HAct.up {W W' : WT} {i i' q n : Nat} {h : SHand} {bg : List Int} {wr : List Bool} {sc : List Int} {hd : List (List Int)} {st : Nat} (a : HAct W i q n h bg wr sc hd st) (hi : i ≤ i') (ha : ∀ s q, s ≤ i → W' s q = W s q) (hm : ∀ q, W i q ≤ W' i' q) (hq : W' i' q = W i q) : HAct W' i' q n h bg wr sc hd st where
  t := by have := a.t; omega
  own := by rw [hq, ha st q a.t]; exact a.own
  w := a.w
  w1 := fun e => by rw [hq]; exact a.w1 e
  w0 := fun e => by
    obtain ⟨b1, b2, l, b3, b4, b5⟩ := a.w0 e
    exact ⟨by rw [hq]; exact b1, b2, l, b3, b4, fun r x hx => by rw [ha st r a.t]; exact b5 r x hx⟩
  l := a.l.up a.t hi ha hm
/-- nothing was written -/
theorem RowI.tick {b : Board} {n i : Nat} {W : WT} {bg wn : List Int} {wr : List Bool} {sc : List Int} {hd lk : List (List Int)} {fr to : List Int} (h : RowI b n i W bg wn wr sc hd lk fr to) : RowI b n (i + 1) (fun s q => W (min s i) q) bg wn wr sc hd lk fr to := by
  have ha : ∀ s q, s ≤ i → W (min s i) q = W s q := fun s q hs => by rw [Nat.min_eq_left hs]
  have he : ∀ q, W (min (i + 1) i) q = W i q := fun q => by rw [Nat.min_eq_right (by omega)]
  refine ⟨h.inv.mono, h.l1, h.l2, h.l3, h.l4, h.l5, h.l6, h.l7, fun s t q h1 h2 => h.mono _ _ q (by omega) (by omega), fun q => h.pos q, fun q => by have := h.lim q; show W (min (i + 1) i) q ≤ _; rw [he]; omega, fun q hq => by show _ = some (W (min (i + 1) i) q); rw [he]; exact h.cur q hq, fun q w hw => ?_, fun q g hg h0 => by show _ = some (W (min (i + 1) i) q); rw [he]; exact h.idle q g hg h0, fun q g hg h0 => ?_, fun k l hk => ?_⟩
  · obtain ⟨a1, a2⟩ := h.word q w hw
    exact ⟨by show _ = W (min (i + 1) i) q; rw [he]; exact a1, a2.up (by omega) ha⟩
  · obtain ⟨st, a⟩ := h.act q g hg h0
    exact ⟨st, a.up (by omega) ha (fun q => by rw [he]; omega) (he q)⟩
  · obtain ⟨c1, s, f, t, c2, c3, c4, c5, c6, c7⟩ := h.look k l hk
    exact ⟨c1, s, f, t, by omega, c3, c4, c5, c6, fun r x hx => by show x = W (min s i) r; rw [ha s r c2]; exact c7 r x hx⟩
/-- a hand turned, that goes on -/
theorem RowI.go {b : Board} {n i : Nat} {W : WT} {bg wn : List Int} {wr : List Bool} {sc : List Int} {hd lk : List (List Int)} {fr to : List Int} (h : RowI b n i W bg wn wr sc hd lk fr to) {p : Nat} {g y : SHand} (hg : b.hands[p]? = some g) (g0 : g.ln ≠ 0)
    (hI : SInv { b with hands := b.hands.set p y } n i) (y0 : y.ln ≠ 0) (hw : y.writes = g.writes) (hv : y.value = g.value) (hl : ∀ st, st ≤ i → HLn W i st g → HLn W i st y) : RowI { b with hands := b.hands.set p y } n i W bg wn wr sc hd lk fr to := by
  refine { h with inv := hI, idle := fun q x hx h0 => ?_, act := fun q x hx h0 => ?_ }
  · rcases set_cases hx with ⟨rfl, rfl⟩ | ⟨hne, hx'⟩
    · exact absurd h0 y0
    · exact h.idle q x hx' h0
  · rcases set_cases hx with ⟨rfl, rfl⟩ | ⟨hne, hx'⟩
    · obtain ⟨st, a⟩ := h.act q g hg g0
      exact ⟨st, a.t, a.own, by rw [hw]; exact a.w, by rw [hw, hv]; exact a.w1, by rw [hw]; exact a.w0, hl st a.t a.l⟩
    · exact h.act q x hx' h0
/-- what is seen -/
theorem sees_at {W : WT} {i st : Nat} {h : SHand} {w : SWord} {n : Nat} (mono : ∀ s t q, s ≤ t → t ≤ i → W s q ≤ W t q) (pos : ∀ q, 0 ≤ W 0 q) (hst : st ≤ i) (hl : HLn W i st h) (h2 : h.ln = 2) (hf : h.first.length = n) (hls : h.last.length + 1 = n) (hm : h.moved.length = n) (hb : ∀ x ∈ h.moved, 0 ≤ x ∧ x ≤ 1)
    (hw : w.turn = W i h.last.length ∧ Wd W i h.last.length w) :
    ((seesGo h.first (h.last ++ [w]) 0 h.moved [] true).2.1 = true → ∃ s, st ≤ s ∧ s ≤ i ∧ At W s (seesGo h.first (h.last ++ [w]) 0 h.moved [] true).1) ∧
    ((seesGo h.first (h.last ++ [w]) 0 h.moved [] true).2.1 = false → HLn W i st { h with k := 0, first := h.last ++ [w], last := [], moved := (seesGo h.first (h.last ++ [w]) 0 h.moved [] true).2.2 }) ∧ True := by
  obtain ⟨mid, b1, b2, b3, b4, b5⟩ := hl.2.1 h2
  have b4' : ∀ (j : Nat) x, (h.last ++ [w])[j]? = some x → Wd W i j x ∧ W mid j ≤ x.turn ∧ x.turn ≤ W i j := by
    intro j x hx
    by_cases hj : j < h.last.length
    · rw [List.getElem?_append_left hj] at hx; exact b4 j x hx
    · have hjl := (List.getElem?_eq_some_iff.1 hx).1
      simp at hjl
      have : j = h.last.length := by omega
      subst this
      simp at hx
      subst hx
      exact ⟨hw.2, by rw [hw.1]; exact mono _ _ _ b2 (Nat.le_refl _), by rw [hw.1]; exact Int.le_refl _⟩
  have sp := seesGo_spec h.first (h.last ++ [w]) 0 h.moved [] true (by simp; omega) (by omega) hb
  refine ⟨fun hg => ?_, fun hg => ?_, trivial⟩
  · rcases sp.1 hg with ⟨_, c1, c2⟩ | ⟨j, f, l, c1, c2, c3, c4, c5⟩
    · refine ⟨mid, b1, b2, fun r x hx => ?_⟩
      rw [c2, List.nil_append, List.getElem?_map, Option.map_eq_some_iff] at hx
      obtain ⟨l, hl', rfl⟩ := hx
      obtain ⟨d1, d2, d3⟩ := b4' r l hl'
      have hr := (List.getElem?_eq_some_iff.1 hl').1
      simp at hr
      obtain ⟨f, hf'⟩ : ∃ f, h.first[r]? = some f := ⟨_, List.getElem?_eq_getElem (by omega)⟩
      obtain ⟨e1, e2, e3⟩ := b3 r f hf'
      have := c1 r f l hf' hl'
      rw [d1.1]; omega
    · obtain ⟨d1, d2, d3⟩ := b4' j l c2
      obtain ⟨e1, e2, e3⟩ := b3 j f c1
      rw [Nat.zero_add] at c4
      have e4 := b5 j f c4 c1
      have p0 := mono 0 st j (Nat.zero_le _) hst
      have p1 := pos j
      obtain ⟨s, s1, s2, s3⟩ := d1.2 (by omega)
      refine ⟨s, ?_, s1, by rw [c5]; exact s2⟩
      by_cases hs : st ≤ s
      · exact hs
      · have := mono s st j (by omega) hst
        omega
  · obtain ⟨c1, c2, c3, _⟩ := sp.2 hg
    refine ⟨fun e => by simp at e; omega, fun _ => ⟨i, hst, Nat.le_refl _, fun j x hx => ?_, by simp, fun j x hj hx => ?_⟩, fun e => by simp at e; omega⟩
    · obtain ⟨d1, d2, d3⟩ := b4' j x hx
      have := mono st mid j b1 b2
      exact ⟨d1, by omega, d3⟩
    · obtain ⟨d1, d2, d3⟩ := b4' j x hx
      have hr := (List.getElem?_eq_some_iff.1 hx).1
      simp at hr
      obtain ⟨f, hf'⟩ : ∃ f, h.first[j]? = some f := ⟨_, List.getElem?_eq_getElem (by omega)⟩
      obtain ⟨e1, e2, e3⟩ := b3 j f hf'
      rcases c3 j hj with h1 | ⟨_, f', l', k1, k2, k3⟩
      · have := b5 j f h1 hf'
        omega
      · rw [Nat.sub_zero] at k1 k2
        rw [hf'] at k1; rw [hx] at k2
        cases k1; cases k2
        omega
theorem RowI.start {n : Nat} (h0 : 1 ≤ n) (h1 : n ≤ 4) : RowI ⟨List.replicate n ⟨0, 0, List.replicate n 0⟩, List.replicate n shand0⟩ n 0 (fun _ _ => 0) (List.replicate n 0) (List.replicate n 0) (List.replicate n false) (List.replicate n 0) (List.replicate n []) [] [] [] where
  inv := SInv.start h0 h1
  l1 := by simp
  l2 := by simp
  l3 := by simp
  l4 := by simp
  l5 := by simp
  l6 := rfl
  l7 := rfl
  mono := by simp
  pos := by simp
  lim := by simp
  cur := by intro q hq; rw [List.getElem?_replicate, if_pos hq]
  word := by
    intro q w hw
    dsimp only at hw
    rw [List.getElem?_replicate] at hw
    split at hw
    · cases hw; exact ⟨rfl, rfl, by simp⟩
    · cases hw
  idle := by
    intro q h hh _
    have := (List.getElem?_eq_some_iff.1 hh).1
    simp at this
    rw [List.getElem?_replicate, if_pos this]
  act := by
    intro q h hh h0
    dsimp only at hh
    rw [List.getElem?_replicate] at hh
    split at hh
    · cases hh; exact absurd rfl h0
    · cases hh
  look := by simp
/-- a hand begins -/
theorem RowI.begin {b : Board} {n i : Nat} {W : WT} {bg wn : List Int} {wr : List Bool} {sc : List Int} {hd lk : List (List Int)} {fr to : List Int} (h : RowI b n i W bg wn wr sc hd lk fr to) {p : Nat} {g : SHand} (hg : b.hands[p]? = some g) (g0 : g.ln = 0) (hp : p < n) {wt : Bool} {v : Int}
    (hI : SInv { b with hands := b.hands.set p ⟨1, 0, wt, v, [], [], List.replicate n 0⟩ } n i) (hv : wt = true → v = W i p + 1) {bg' sc' : List Int} {hd' : List (List Int)} (e1 : bg' = if wt then bg.set p (W i p + 1) else bg) (e2 : sc' = if wt then sc else sc.set p i) {l : List Int} (e3 : hd' = if wt then hd else hd.set p l) (hl1 : l.length = n) (hl2 : At W i l) :
    RowI { b with hands := b.hands.set p ⟨1, 0, wt, v, [], [], List.replicate n 0⟩ } n i W bg' wn (wr.set p wt) sc' hd' lk fr to := by
  have m1 := h.l1; have m3 := h.l3; have m4 := h.l4; have m5 := h.l5
  have hbg := h.idle p g hg g0
  have o1 : ∀ q, q ≠ p → bg'[q]? = bg[q]? := fun q hq => by rw [e1]; split; rw [List.getElem?_set_ne (fun h => hq h.symm)]; rfl
  have o2 : ∀ q, q ≠ p → sc'[q]? = sc[q]? := fun q hq => by rw [e2]; split; rfl; rw [List.getElem?_set_ne (fun h => hq h.symm)]
  have o3 : ∀ q, q ≠ p → hd'[q]? = hd[q]? := fun q hq => by rw [e3]; split; rfl; rw [List.getElem?_set_ne (fun h => hq h.symm)]
  have o4 : ∀ q, q ≠ p → (wr.set p wt)[q]? = wr[q]? := fun q hq => by rw [List.getElem?_set_ne (fun h => hq h.symm)]
  refine { h with inv := hI, l1 := by rw [e1]; split <;> simp [m1], l3 := by simp [m3], l4 := by rw [e2]; split <;> simp [m4], l5 := by rw [e3]; split <;> simp [m5], idle := fun q x hx h0 => ?_, act := fun q x hx h0 => ?_ }
  · rcases set_cases hx with ⟨rfl, rfl⟩ | ⟨hne, hx'⟩
    · simp at h0
    · rw [o1 q hne]; exact h.idle q x hx' h0
  · rcases set_cases hx with ⟨rfl, rfl⟩ | ⟨hne, hx'⟩
    · refine ⟨i, Nat.le_refl _, rfl, by rw [List.getElem?_set_self (by omega)], fun ew => ?_, fun ew => ?_, ⟨fun _ => ⟨by simp, by simp⟩, by simp, by simp⟩⟩
      · have ew : wt = true := ew
        subst ew
        rw [e1, if_pos rfl, List.getElem?_set_self (by omega)]
        exact ⟨rfl, hv rfl⟩
      · have ew : wt = false := ew
        subst ew
        rw [e1, if_neg (by simp), e2, if_neg (by simp), e3, if_neg (by simp), List.getElem?_set_self (by omega), List.getElem?_set_self (by omega)]
        exact ⟨hbg, rfl, l, rfl, hl1, hl2⟩
    · obtain ⟨st, a⟩ := h.act q x hx' h0
      exact ⟨st, a.t, a.own, by rw [o4 q hne]; exact a.w, by rw [o1 q hne]; exact a.w1, by rw [o1 q hne, o2 q hne, o3 q hne]; exact a.w0, a.l⟩
/-- a hand is idle -/
theorem RowI.rest {b : Board} {n i : Nat} {W : WT} {bg wn : List Int} {wr : List Bool} {sc : List Int} {hd lk : List (List Int)} {fr to : List Int} (h : RowI b n i W bg wn wr sc hd lk fr to) {p : Nat} (hb : bg[p]? = some (W i p)) :
    RowI { b with hands := b.hands.set p shand0 } n i W bg wn wr sc hd lk fr to := by
  refine { h with inv := h.inv.idle p, idle := fun q x hx h0 => ?_, act := fun q x hx h0 => ?_ }
  · rcases set_cases hx with ⟨rfl, rfl⟩ | ⟨hne, hx'⟩
    · exact hb
    · exact h.idle q x hx' h0
  · rcases set_cases hx with ⟨rfl, rfl⟩ | ⟨hne, hx'⟩
    · exact absurd rfl h0
    · exact h.act q x hx' h0
inductive RSt (b : Board) (n i : Nat) (p : Int) (W : WT) (bg wn : List Int) (wr : List Bool) (sc : List Int) (hd lk : List (List Int)) (fr to : List Int) : Prop
  | no (b' : Board) (k : Int) (e : snapStep b p = (b', false, [], k)) (W' : WT) (hI : RowI b' n (i + 1) W' bg wn wr sc hd lk fr to)
  | wrote (b' : Board) (h0 : 0 ≤ p) (h1 : p ≤ (n : Int) - 1) (e : snapStep b p = (b', true, [], 0)) (hw : wr[p.toNat]? = some true) (W' : WT) (x : Int) (hx : wn[p.toNat]? = some x) (hx0 : 0 ≤ x) (hx1 : x ≤ i) (hI : RowI b' n (i + 1) W' bg (wn.set p.toNat (x + 1)) wr sc hd lk fr to)
  | looked (b' : Board) (h0 : 0 ≤ p) (h1 : p ≤ (n : Int) - 1) (l : List Int) (e : snapStep b p = (b', true, l, 0)) (hw : wr[p.toNat]? = some false) (hl : l.length = n) (st : Nat) (hs : sc[p.toNat]? = some (st : Int)) (hst : st ≤ i) (d : List Int) (hd' : hd[p.toNat]? = some d) (hdl : d.length = n)
      (c1 : ∀ (q : Nat) x y, l[q]? = some x → d[q]? = some y → y ≤ x) (c2 : ∀ (q : Nat) x y, l[q]? = some x → bg[q]? = some y → x ≤ y) (W' : WT) (hI : RowI b' n (i + 1) W' bg wn wr sc hd (lk ++ [l]) (fr ++ [(st : Int)]) (to ++ [(i : Int)]))
theorem RowI.step {b : Board} {n i : Nat} {W : WT} {bg wn : List Int} {wr : List Bool} {sc : List Int} {hd lk : List (List Int)} {fr to : List Int} (h : RowI b n i W bg wn wr sc hd lk fr to) (p : Int) : RSt b n i p W bg wn wr sc hd lk fr to := by
  have bgle : ∀ (q : Nat) y, bg[q]? = some y → W i q ≤ y := fun q y hy => by
    have hq := (List.getElem?_eq_some_iff.1 hy).1
    have l1 := h.l1
    have hh := h.inv.h
    obtain ⟨g, hg⟩ : ∃ g, b.hands[q]? = some g := ⟨_, List.getElem?_eq_getElem (by omega)⟩
    by_cases g0 : g.ln = 0
    · have := h.idle q g hg g0
      rw [hy] at this; cases this; omega
    · obtain ⟨st, a⟩ := h.act q g hg g0
      by_cases hw : g.writes = true
      · have := (a.w1 hw).1
        rw [hy] at this; cases this; omega
      · have := (a.w0 (by simpa using hw)).1
        rw [hy] at this; cases this; omega
  rcases h.inv.step p with ⟨k, hk, e⟩ | ⟨h0, h1, g, y, w, hh, hl, hw, hk0, hk, hf, hy, e, hI'⟩ | ⟨h0, h1, g, y, w, hh, hl, hw, hk0, hk, hf, hy, e, hI'⟩ | ⟨h0, h1, g, y, w, hh, hl, hw, hk0, hk, hf, hgo, hy, e, hI'⟩ | ⟨h0, h1, g, y, w, hh, hl, hw, hk0, hk, hf, hgo, hwr, hy, e, hI'⟩ | ⟨h0, h1, g, w, hh, hl, hw, hk0, hk, hf, hgo, hwr, hsl, e, hI'⟩ | ⟨h0, h1, g, w, hh, hl, hw, hwr, e, hI'⟩
  · exact .no _ _ e _ h.tick
  · obtain ⟨y1, y2, y3, y4, y5, hc⟩ := hy
    refine .no _ _ e _ (RowI.tick (h.go hh (by omega) hI' (by omega) y4 y5 (fun st hst hln => ?_)))
    obtain ⟨w1, w2⟩ := h.word _ w hw
    have hfst : ∀ (j : Nat) x, y.first[j]? = some x → Wd W i j x ∧ W st j ≤ x.turn ∧ x.turn ≤ W i j := by
      intro j x hx
      rw [y1] at hx
      by_cases hj : j < g.first.length
      · rw [List.getElem?_append_left hj] at hx; exact (hln.1 hl).2 j x hx
      · have hjl := (List.getElem?_eq_some_iff.1 hx).1
        simp at hjl
        have : j = g.k.toNat := by omega
        subst this
        rw [List.getElem?_append_right (by omega), hf, Nat.sub_self] at hx
        simp at hx
        subst hx
        exact ⟨w2, by rw [w1]; exact h.mono _ _ _ hst (Nat.le_refl _), by omega⟩
    have hm0 := (hln.1 hl).1
    refine ⟨fun _ => ⟨by rw [y3]; exact hm0, hfst⟩, fun e2 => ⟨i, hst, Nat.le_refl _, hfst, fun j x hx => ?_, fun j x hj _ => ?_⟩, fun e3 => by omega⟩
    · rw [y2, h.inv.e1 g (List.mem_of_getElem? hh) hl] at hx; simp at hx
    · rw [y3] at hj
      have := hm0 1 (List.mem_of_getElem? hj)
      omega
  · subst hy
    refine .no _ _ e _ (RowI.tick (h.go hh (by omega) hI' (by simp; omega) rfl rfl (fun st hst hln => ?_)))
    obtain ⟨w1, w2⟩ := h.word _ w hw
    obtain ⟨mid, b1, b2, b3, b4, b5⟩ := hln.2.1 hl
    refine ⟨fun e1 => by simp at e1; omega, fun _ => ⟨mid, b1, b2, b3, fun j x hx => ?_, b5⟩, fun e3 => by simp at e3; omega⟩
    dsimp only at hx
    by_cases hj : j < g.last.length
    · rw [List.getElem?_append_left hj] at hx; exact b4 j x hx
    · have hjl := (List.getElem?_eq_some_iff.1 hx).1
      simp at hjl
      have : j = g.k.toNat := by omega
      subst this
      rw [List.getElem?_append_right (by omega), hf, Nat.sub_self] at hx
      simp at hx
      subst hx
      exact ⟨w2, by rw [w1]; exact h.mono _ _ _ b2 (Nat.le_refl _), by omega⟩
  · have hm := List.mem_of_getElem? hh
    obtain ⟨_, _, kf, _, km, kb⟩ := (h.inv.s g hm).a2 hl
    have hwd : w.turn = W i g.last.length ∧ Wd W i g.last.length w := by rw [hf]; exact h.word _ w hw
    refine .no _ _ e _ (RowI.tick (h.go hh (by omega) hI' (by rw [hy]; simp; omega) (by rw [hy]) (by rw [hy]) (fun st hst hln => ?_)))
    rw [hy]
    exact (sees_at h.mono h.pos hst hln hl kf (by omega) km kb hwd).2.1 hgo
  · have hm := List.mem_of_getElem? hh
    obtain ⟨_, _, kf, _, km, kb⟩ := (h.inv.s g hm).a2 hl
    have hwd : w.turn = W i g.last.length ∧ Wd W i g.last.length w := by rw [hf]; exact h.word _ w hw
    obtain ⟨y1, y2, y3, y4⟩ := hy
    refine .no _ _ e _ (RowI.tick (h.go hh (by omega) hI' (by omega) (by rw [y3, hwr]) y4 (fun st hst hln => ?_)))
    obtain ⟨s, s1, s2, s3⟩ := (sees_at h.mono h.pos hst hln hl kf (by omega) km kb hwd).1 hgo
    exact ⟨fun e1 => by omega, fun e2 => by omega, fun _ => ⟨s, s1, s2, by rw [y2]; exact s3⟩⟩
  · have hm := List.mem_of_getElem? hh
    obtain ⟨_, _, kf, _, km, kb⟩ := (h.inv.s g hm).a2 hl
    have hwd : w.turn = W i g.last.length ∧ Wd W i g.last.length w := by rw [hf]; exact h.word _ w hw
    obtain ⟨st, a⟩ := h.act _ g hh (by omega)
    obtain ⟨s, s1, s2, s3⟩ := (sees_at h.mono h.pos a.t a.l hl kf (by omega) km kb hwd).1 hgo
    obtain ⟨z1, z2, d, z3, z4, z5⟩ := a.w0 hwr
    have hlk := h.l6
    have hlt := h.l7
    refine .looked _ h0 h1 _ e (by rw [a.w, hwr]) hsl st z2 a.t d z3 z4 (fun q x y hx hy => ?_) (fun q x y hx hy => ?_) _ (RowI.tick (RowI.rest (p := p.toNat) { h with l6 := by simp [hlk], l7 := by simp [hlt], look := fun k l hk => ?_ } z1))
    · rw [s3 q x hx, z5 q y hy]; exact h.mono _ _ _ s1 s2
    · rw [s3 q x hx]
      have := h.mono s i q s2 (Nat.le_refl _)
      have := bgle q y hy
      omega
    · rcases app_cases hk with ⟨hk1, hk'⟩ | ⟨hk1, rfl⟩
      · obtain ⟨c1, s', f, t, c2, c3, c4, c5⟩ := h.look k l hk'
        refine ⟨c1, s', f, t, c2, ?_, ?_, c5⟩
        · rw [List.getElem?_append_left (by omega)]; exact c3
        · rw [List.getElem?_append_left (by omega)]; exact c4
      · refine ⟨hsl, s, st, i, s2, ?_, ?_, by omega, by omega, s3⟩
        · rw [hk1, ← hlk, List.getElem?_append_right (Nat.le_refl _), Nat.sub_self]; rfl
        · rw [hk1, ← hlt, List.getElem?_append_right (Nat.le_refl _), Nat.sub_self]; rfl
  · have hm := List.mem_of_getElem? hh
    obtain ⟨st, a⟩ := h.act _ g hh (by omega)
    obtain ⟨z1, z2⟩ := a.w1 hwr
    obtain ⟨w1, w2⟩ := h.word _ w hw
    have hpn : p.toNat < n := by have := h.inv.h; omega
    have hcur := h.cur _ hpn
    have l2 := h.l2
    have ha : ∀ s q, s ≤ i → (if s ≤ i then W s q else W i q + (if q = p.toNat then 1 else 0)) = W s q := fun s q hs => by rw [if_pos hs]
    have hnew : ∀ q, (if i + 1 ≤ i then W (i + 1) q else W i q + (if q = p.toNat then 1 else 0)) = W i q + (if q = p.toNat then 1 else 0) := fun q => by rw [if_neg (by omega)]
    have hle : ∀ q, W i q ≤ (if i + 1 ≤ i then W (i + 1) q else W i q + (if q = p.toNat then 1 else 0)) := fun q => by rw [hnew]; split <;> omega
    have wpos : 0 ≤ W i p.toNat := by have := h.mono 0 i p.toNat (Nat.zero_le _) (Nat.le_refl _); have := h.pos p.toNat; omega
    refine .wrote _ h0 h1 e (by rw [a.w, hwr]) (fun s q => if s ≤ i then W s q else W i q + (if q = p.toNat then 1 else 0)) _ hcur wpos (h.lim _) ⟨hI', h.l1, by simp [l2], h.l3, h.l4, h.l5, h.l6, h.l7, fun s t q s1 s2 => ?_, fun q => ?_, fun q => ?_, fun q hq => ?_, fun q x hx => ?_, fun q x hx x0 => ?_, fun q x hx x0 => ?_, fun k l hk => ?_⟩
    · by_cases ht : t ≤ i
      · simp only [if_pos ht, if_pos (show s ≤ i by omega)]; exact h.mono s t q s1 ht
      · by_cases hs : s ≤ i
        · simp only [if_pos hs, if_neg ht]
          have := h.mono s i q hs (Nat.le_refl _)
          split <;> omega
        · simp only [if_neg hs, if_neg ht]; exact Int.le_refl _
    · simp only [if_pos (Nat.zero_le i)]; exact h.pos q
    · have := h.lim q
      simp only [hnew]; split <;> omega
    · simp only [hnew]
      by_cases hqp : q = p.toNat
      · subst hqp; rw [if_pos rfl, List.getElem?_set_self (by omega)]
      · rw [if_neg hqp, List.getElem?_set_ne (fun h => hqp h.symm), Int.add_zero]; exact h.cur q hq
    · rcases set_cases hx with ⟨rfl, rfl⟩ | ⟨hne, hx'⟩
      · obtain ⟨s, s1, s2, s3⟩ := a.l.2.2 hl
        refine ⟨by simp only [hnew, if_pos]; omega, by simp only; omega, fun _ => ⟨s, by omega, fun r y hy => by simp only [if_pos s2]; exact s3 r y hy, ?_⟩⟩
        simp only [if_pos s2]
        have := h.mono st s p.toNat s1 s2
        have := a.own
        omega
      · obtain ⟨v1, v2⟩ := h.word q x hx'
        exact ⟨by simp only [hnew, if_neg hne]; omega, v2.up (by omega) ha⟩
    · rcases set_cases hx with ⟨rfl, rfl⟩ | ⟨hne, hx'⟩
      · rw [hnew, if_pos rfl]; exact z1
      · rw [hnew, if_neg hne, Int.add_zero]; exact h.idle q x hx' x0
    · rcases set_cases hx with ⟨rfl, rfl⟩ | ⟨hne, hx'⟩
      · exact absurd rfl x0
      · obtain ⟨st', a'⟩ := h.act q x hx' x0
        exact ⟨st', a'.up (by omega) ha hle (by rw [hnew, if_neg hne, Int.add_zero])⟩
    · obtain ⟨c1, s', f, t, c2, c3, c4, c5, c6, c7⟩ := h.look k l hk
      exact ⟨c1, s', f, t, by omega, c3, c4, c5, c6, fun r y hy => by simp only [if_pos c2]; exact c7 r y hy⟩
/-- of any two looks -/
theorem RowI.two {b : Board} {n i : Nat} {W : WT} {bg wn : List Int} {wr : List Bool} {sc : List Int} {hd lk : List (List Int)} {fr to : List Int} (h : RowI b n i W bg wn wr sc hd lk fr to) {x y : Nat} {a c : List Int} (hx : lk[x]? = some a) (hy : lk[y]? = some c) :
    ((∀ (q : Nat) u v, a[q]? = some u → c[q]? = some v → u ≤ v) ∨ (∀ (q : Nat) u v, a[q]? = some u → c[q]? = some v → v ≤ u)) ∧
    ∀ t f, to[x]? = some t → fr[y]? = some f → t < f → ∀ (q : Nat) u v, a[q]? = some u → c[q]? = some v → u ≤ v := by
  obtain ⟨_, s, f, t, a1, a2, a3, a4, a5, a6⟩ := h.look x a hx
  obtain ⟨_, s', f', t', b1, b2, b3, b4, b5, b6⟩ := h.look y c hy
  have le : s ≤ s' → ∀ (q : Nat) u v, a[q]? = some u → c[q]? = some v → u ≤ v := fun hs q u v hu hv => by
    rw [a6 q u hu, b6 q v hv]; exact h.mono _ _ _ hs b1
  refine ⟨?_, fun t0 f0 ht hf hlt => ?_⟩
  · by_cases hs : s ≤ s'
    · exact .inl (le hs)
    · exact .inr (fun q u v hu hv => by rw [a6 q u hu, b6 q v hv]; exact h.mono _ _ _ (by omega) a1)
  · rw [a3] at ht; rw [b2] at hf
    cases ht; cases hf
    exact le (by omega)
end Go.Proofs.Ytnecppjgcbhnaaa
