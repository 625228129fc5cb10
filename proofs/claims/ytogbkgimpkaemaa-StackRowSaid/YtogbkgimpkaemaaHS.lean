import Derived.Test.YtogbkgimpkaemaaL6
namespace Go.Proofs.Ytogbkgimpkaemaa
open Go.Eng
set_option maxRecDepth 20000
/-! ### a history, as it grows: points are set while ops are open -/
def opAt (os : List LOp) (G : Nat → Int) (x : Nat) : LOp := { lat os x with got := G x }
def hst (k : Int) (os : List LOp) (lin : List Nat) : List Int := (lin.map (lat os)).foldl (lgo k) (lin0 k)
structure HO (n i : Nat) (o : LOp) : Prop where
  h0 : 0 ≤ o.hand
  h1 : o.hand < n
  k : 0 ≤ o.kind ∧ o.kind ≤ 1
  a : 0 ≤ o.arg ∧ o.arg ≤ 1000
  f : ∃ j : Nat, j < i ∧ o.frm = 2 * j
  t : o.too ≠ 0 → o.frm < o.too ∧ ∃ j : Nat, j < i ∧ o.too = 2 * j + 1
structure HI (k : Int) (n i : Nat) (os : List LOp) (lin : List Nat) (G : Nat → Int) (mine : Nat → Nat) (busy : Nat → Prop) : Prop where
  n4 : n ≤ 4
  len : os.length ≤ 8
  lt : ∀ x ∈ lin, x < os.length
  nd : lin.Nodup
  run : lruns k (lin0 k) (lin.map (opAt os G))
  o : ∀ o ∈ os, HO n i o
  op : ∀ (x : Nat) o, os[x]? = some o → o.too = 0 → busy o.hand.toNat ∧ mine o.hand.toNat = x
  dn : ∀ (x : Nat) o, os[x]? = some o → o.too ≠ 0 → x ∈ lin ∧ G x = o.got
  b : ∀ p, p < n → busy p → ∃ o, os[mine p]? = some o ∧ o.hand = p ∧ o.too = 0
  ord : lin.Pairwise fun a b => (lat os b).too = 0 ∨ (lat os a).frm < (lat os b).too
  sep : os.Pairwise fun a b => a.hand = b.hand → a.too ≠ 0 ∧ a.too < b.frm
theorem HI.start {k : Int} {n : Nat} (hn : n ≤ 4) (G : Nat → Int) (mine : Nat → Nat) : HI k n 0 [] [] G mine (fun _ => False) :=
  ⟨hn, by simp, by simp, by simp, by simp [lruns], by simp, by simp, by simp, fun _ _ h => h.elim, by simp, by simp⟩
theorem HO.later {n i j : Nat} {o : LOp} (h : HO n i o) (hj : i ≤ j) : HO n j o := by
  obtain ⟨a, b, c, d, ⟨f, f1, f2⟩, t⟩ := h
  exact ⟨a, b, c, d, ⟨f, by omega, f2⟩, fun h => ⟨(t h).1, by obtain ⟨q, q1, q2⟩ := (t h).2; exact ⟨q, by omega, q2⟩⟩⟩
theorem HI.later {k : Int} {n i j : Nat} {os lin G mine busy} (h : HI k n i os lin G mine busy) (hj : i ≤ j) : HI k n j os lin G mine busy :=
  { h with o := fun o ho => (h.o o ho).later hj }
theorem HI.ext {k : Int} {n i : Nat} {os lin G mine busy} (h : HI k n i os lin G mine busy) {mine' : Nat → Nat} {busy' : Nat → Prop} (hb : ∀ p, p < n → (busy p ↔ busy' p)) (hm : ∀ p, p < n → busy p → mine' p = mine p) : HI k n i os lin G mine' busy' := by
  have hlt : ∀ {o : LOp}, o ∈ os → o.hand.toNat < n := fun ho => by have := h.o _ ho; have := this.h0; have := (h.o _ ho).h1; omega
  refine { h with op := fun x o hx h0 => ?_, b := fun p hp hbp => ?_ }
  · obtain ⟨h1, h2⟩ := h.op x o hx h0
    have := hlt (List.mem_of_getElem? hx)
    exact ⟨(hb _ this).1 h1, (hm _ this h1).trans h2⟩
  · have := (hb p hp).2 hbp
    rw [hm p hp this]
    exact h.b p hp this
theorem lat_app {os : List LOp} {o : LOp} {x : Nat} (h : x < os.length) : lat (os ++ [o]) x = lat os x := by rw [lat, lat, List.getElem?_append_left h]
theorem HI.begin {k : Int} {n i : Nat} {os lin G mine busy} (h : HI k n i os lin G mine busy) {p : Nat} {kind arg : Int} (hp : p < n) (hl : os.length < 8) (hb : ¬ busy p) (k0 : 0 ≤ kind ∧ kind ≤ 1) (a0 : 0 ≤ arg ∧ arg ≤ 1000)
    {mine' : Nat → Nat} (hm : mine' p = os.length) (hm2 : ∀ q, q < n → q ≠ p → mine' q = mine q) :
    HI k n (i + 1) (os ++ [⟨p, kind, arg, 0, 2 * i, 0⟩]) lin G mine' (fun q => q = p ∨ busy q) ∧ hst k (os ++ [⟨p, kind, arg, 0, 2 * i, 0⟩]) lin = hst k os lin := by
  have hlt : ∀ {o : LOp}, o ∈ os → o.hand.toNat < n := fun ho => by have := h.o _ ho; have := this.h0; have := (h.o _ ho).h1; omega
  have hmap : lin.map (lat (os ++ [⟨p, kind, arg, 0, 2 * i, 0⟩])) = lin.map (lat os) := List.map_congr_left fun x hx => lat_app (h.lt x hx)
  have hmap2 : lin.map (opAt (os ++ [⟨p, kind, arg, 0, 2 * i, 0⟩]) G) = lin.map (opAt os G) := List.map_congr_left fun x hx => by rw [opAt, opAt, lat_app (h.lt x hx)]
  have cases : ∀ {x : Nat} {o : LOp}, (os ++ [⟨p, kind, arg, 0, 2 * i, 0⟩])[x]? = some o → os[x]? = some o ∨ (x = os.length ∧ o = ⟨p, kind, arg, 0, 2 * i, 0⟩) := by
    intro x o hx
    by_cases hxl : x < os.length
    · rw [List.getElem?_append_left hxl] at hx; exact .inl hx
    · rw [List.getElem?_append_right (by omega)] at hx
      obtain ⟨h1, h2⟩ := List.getElem?_eq_some_iff.1 hx
      simp at h1
      refine .inr ⟨by omega, ?_⟩
      rw [← h2]
      simp
  refine ⟨⟨h.n4, by simp; omega, fun x hx => by have := h.lt x hx; simp; omega, h.nd, by rw [hmap2]; exact h.run, ?_, ?_, ?_, ?_, ?_, ?_⟩, by rw [hst, hst, hmap]⟩
  · intro o ho
    rcases List.mem_append.1 ho with ho | ho
    · exact (h.o o ho).later (by omega)
    · simp only [List.mem_singleton] at ho
      subst ho
      exact ⟨by simp, by simp; omega, k0, a0, ⟨i, by omega, rfl⟩, fun hc => absurd rfl hc⟩
  · intro x o hx h0
    rcases cases hx with hx | ⟨rfl, rfl⟩
    · obtain ⟨h1, h2⟩ := h.op x o hx h0
      have h3 := hlt (List.mem_of_getElem? hx)
      exact ⟨.inr h1, (hm2 _ h3 (fun hc => hb (hc ▸ h1))).trans h2⟩
    · exact ⟨.inl (by simp), by simpa using hm⟩
  · intro x o hx h0
    rcases cases hx with hx | ⟨rfl, rfl⟩
    · exact h.dn x o hx h0
    · exact absurd rfl h0
  · intro q hq hbq
    by_cases hqp : q = p
    · subst hqp
      exact ⟨⟨q, kind, arg, 0, 2 * i, 0⟩, by rw [hm]; simp, rfl, rfl⟩
    · obtain ⟨o, h1, h2, h3⟩ := h.b q hq (hbq.resolve_left hqp)
      refine ⟨o, ?_, h2, h3⟩
      rw [hm2 q hq hqp, List.getElem?_append_left (List.getElem?_eq_some_iff.1 h1).1]
      exact h1
  · refine h.ord.imp_of_mem fun {a b} ha hb' hab => ?_
    rw [lat_app (h.lt a ha), lat_app (h.lt b hb')]
    exact hab
  · refine List.pairwise_append.2 ⟨h.sep, by simp, fun a ha b hb' => ?_⟩
    simp only [List.mem_singleton] at hb'
    subst hb'
    intro he
    simp only at he
    obtain ⟨x, hx⟩ := List.mem_iff_getElem?.1 ha
    have hne : a.too ≠ 0 := fun h0 => hb (by have := (h.op x a hx h0).1; rwa [he, Int.toNat_natCast] at this)
    obtain ⟨_, j, j1, j2⟩ := (h.o a ha).t hne
    exact ⟨hne, by simp only; omega⟩
theorem fold_opAt {k : Int} {os : List LOp} {G : Nat → Int} : ∀ {lin : List Nat} {st : List Int}, (lin.map (opAt os G)).foldl (lgo k) st = (lin.map (lat os)).foldl (lgo k) st
  | [], _ => rfl
  | _ :: l, _ => by
    simp only [List.map_cons, List.foldl_cons]
    exact fold_opAt (lin := l)
theorem HI.point {k : Int} {n i : Nat} {os lin G mine busy} (h : HI k n i os lin G mine busy) {x : Nat} {o : LOp} (hx : os[x]? = some o) (h0 : o.too = 0) (hn : x ∉ lin) {G' : Nat → Int} (hG : G' x = lgot k (hst k os lin) o) (hG2 : ∀ y ∈ lin, G' y = G y) :
    HI k n i os (lin ++ [x]) G' mine busy ∧ hst k os (lin ++ [x]) = lgo k (hst k os lin) o := by
  have hxl := (List.getElem?_eq_some_iff.1 hx).1
  have hmap : lin.map (opAt os G') = lin.map (opAt os G) := List.map_congr_left fun y hy => by rw [opAt, opAt, hG2 y hy]
  refine ⟨⟨h.n4, h.len, ?_, ?_, ?_, h.o, h.op, ?_, h.b, ?_, h.sep⟩, ?_⟩
  · intro y hy
    rcases List.mem_append.1 hy with hy | hy
    · exact h.lt y hy
    · simp only [List.mem_singleton] at hy; omega
  · exact List.nodup_append.2 ⟨h.nd, by simp, fun a ha b hb => by simp only [List.mem_singleton] at hb; subst hb; exact fun hc => hn (hc ▸ ha)⟩
  · rw [List.map_append, hmap]
    simp only [List.map_cons, List.map_nil]
    refine lruns_app.2 ⟨h.run, ?_⟩
    rw [fold_opAt, opAt, lat_some hx]
    show _ = G' x
    rw [hG]; rfl
  · intro y oy hy hy0
    have := h.dn y oy hy hy0
    exact ⟨List.mem_append_left _ this.1, by rw [hG2 y this.1]; exact this.2⟩
  · refine List.pairwise_append.2 ⟨h.ord, by simp, fun a ha b hb => ?_⟩
    simp only [List.mem_singleton] at hb
    subst hb
    rw [lat_some hx]
    exact .inl h0
  · rw [hst, hst, List.map_append, List.foldl_append]
    simp only [List.map_cons, List.map_nil, List.foldl_cons, List.foldl_nil]
    rw [lat_some hx]
theorem HI.over {k : Int} {n i : Nat} {os lin G mine busy} (h : HI k n i os lin G mine busy) {p : Nat} {o : LOp} (hp : p < n) (hb : busy p) (hx : os[mine p]? = some o) (hl : mine p ∈ lin) :
    HI k n (i + 1) (os.set (mine p) { o with got := G (mine p), too := 2 * i + 1 }) lin G mine (fun q => q ≠ p ∧ busy q) ∧ hst k (os.set (mine p) { o with got := G (mine p), too := 2 * i + 1 }) lin = hst k os lin := by
  obtain ⟨o', e1, hh, h0⟩ := h.b p hp hb
  rw [hx] at e1
  cases e1
  have hxl := (List.getElem?_eq_some_iff.1 hx).1
  generalize hxe : mine p = x at hx hl hxl ⊢
  have hlt : ∀ {o : LOp}, o ∈ os → o.hand.toNat < n := fun ho => by have := h.o _ ho; have := this.h0; have := (h.o _ ho).h1; omega
  have hat : ∀ y, y < os.length → (lat (os.set x { o with got := G x, too := 2 * i + 1 }) y).hand = (lat os y).hand ∧ (lat (os.set x { o with got := G x, too := 2 * i + 1 }) y).kind = (lat os y).kind ∧ (lat (os.set x { o with got := G x, too := 2 * i + 1 }) y).arg = (lat os y).arg ∧ (lat (os.set x { o with got := G x, too := 2 * i + 1 }) y).frm = (lat os y).frm ∧
      (lat (os.set x { o with got := G x, too := 2 * i + 1 }) y).too = if y = x then 2 * (i : Int) + 1 else (lat os y).too := by
    intro y hy
    by_cases hyx : y = x
    · subst hyx
      rw [lat_some (List.getElem?_set_self hxl), lat_some hx, if_pos rfl]
      exact ⟨rfl, rfl, rfl, rfl, rfl⟩
    · rw [lat, List.getElem?_set_ne (fun hc => hyx hc.symm), if_neg hyx]
      exact ⟨rfl, rfl, rfl, rfl, rfl⟩
  have hgo : ∀ {l : List Nat}, (∀ y ∈ l, y < os.length) → ∀ st : List Int, (l.map (lat (os.set x { o with got := G x, too := 2 * i + 1 }))).foldl (lgo k) st = (l.map (lat os)).foldl (lgo k) st := by
    intro l
    induction l with
    | nil => intro _ _; rfl
    | cons y l ih =>
      intro hy st
      obtain ⟨_, q1, q2, _, _⟩ := hat y (hy y (by simp))
      simp only [List.map_cons, List.foldl_cons]
      rw [show lgo k st (lat (os.set x { o with got := G x, too := 2 * i + 1 }) y) = lgo k st (lat os y) by unfold lgo; rw [q1, q2]]
      exact ih (fun z hz => hy z (by simp [hz])) _
  have hrun : ∀ {l : List Nat}, (∀ y ∈ l, y < os.length) → ∀ st : List Int, lruns k st (l.map (opAt os G)) → lruns k st (l.map (opAt (os.set x { o with got := G x, too := 2 * i + 1 }) G)) := by
    intro l
    induction l with
    | nil => intro _ _ _; trivial
    | cons y l ih =>
      intro hy st ⟨r1, r2⟩
      obtain ⟨_, q1, q2, _, _⟩ := hat y (hy y (by simp))
      have e1 : lgo k st (opAt (os.set x { o with got := G x, too := 2 * i + 1 }) G y) = lgo k st (opAt os G y) := by unfold lgo opAt; simp only; rw [q1, q2]
      have e2 : lgot k st (opAt (os.set x { o with got := G x, too := 2 * i + 1 }) G y) = lgot k st (opAt os G y) := by unfold lgot opAt; simp only; rw [q1, q2]
      exact ⟨e2.trans r1, by rw [e1]; exact ih (fun z hz => hy z (by simp [hz])) _ r2⟩
  have cases : ∀ {y : Nat} {oy : LOp}, (os.set x { o with got := G x, too := 2 * i + 1 })[y]? = some oy → (y ≠ x ∧ os[y]? = some oy) ∨ (y = x ∧ oy = { o with got := G x, too := 2 * i + 1 }) := by
    intro y oy hy
    by_cases hyx : y = x
    · subst hyx
      rw [List.getElem?_set_self hxl] at hy
      cases hy
      exact .inr ⟨rfl, rfl⟩
    · rw [List.getElem?_set_ne (fun hc => hyx hc.symm)] at hy
      exact .inl ⟨hyx, hy⟩
  have ho := h.o o (List.mem_of_getElem? hx)
  obtain ⟨j, j1, j2⟩ := ho.f
  refine ⟨⟨h.n4, by simpa using h.len, by simpa using h.lt, h.nd, hrun h.lt _ h.run, ?_, ?_, ?_, ?_, ?_, ?_⟩, hgo h.lt _⟩
  · intro oy hoy
    obtain ⟨y, hy⟩ := List.mem_iff_getElem?.1 hoy
    rcases cases hy with ⟨_, hy⟩ | ⟨rfl, rfl⟩
    · exact (h.o oy (List.mem_of_getElem? hy)).later (by omega)
    · exact ⟨ho.h0, ho.h1, ho.k, ho.a, ⟨j, by omega, j2⟩, fun _ => ⟨by simp only; omega, i, by omega, rfl⟩⟩
  · intro y oy hy hy0
    rcases cases hy with ⟨hne, hy⟩ | ⟨rfl, rfl⟩
    · obtain ⟨h1, h2⟩ := h.op y oy hy hy0
      exact ⟨⟨fun hc => hne (by rw [← h2, hc, hxe]), h1⟩, h2⟩
    · simp only at hy0; omega
  · intro y oy hy hy0
    rcases cases hy with ⟨hne, hy⟩ | ⟨rfl, rfl⟩
    · exact h.dn y oy hy hy0
    · exact ⟨hl, rfl⟩
  · intro q hq hbq
    obtain ⟨oq, h1, h2, h3⟩ := h.b q hq hbq.2
    refine ⟨oq, ?_, h2, h3⟩
    rw [List.getElem?_set_ne]
    · exact h1
    · intro hc
      rw [← hc, hx] at h1
      cases h1
      exact hbq.1 (by omega)
  · refine h.ord.imp_of_mem fun {a b} ha hb' hab => ?_
    obtain ⟨_, _, _, a4, _⟩ := hat a (h.lt a ha)
    obtain ⟨_, _, _, _, b5⟩ := hat b (h.lt b hb')
    rw [a4, b5]
    split
    · right
      have hla := h.lt a ha
      obtain ⟨ja, ja1, ja2⟩ := (h.o _ (List.getElem_mem hla)).f
      rw [lat_some (List.getElem?_eq_getElem hla)]
      omega
    · exact hab
  · rw [List.pairwise_iff_getElem]
    intro a b ha hb' hab he
    have hs := h.sep
    rw [List.pairwise_iff_getElem] at hs
    have ha2 : a < os.length := by simpa using ha
    have hb2 : b < os.length := by simpa using hb'
    have hs := hs a b ha2 hb2 hab
    obtain ⟨a1, a2, a3, a4, a5⟩ := hat a ha2
    obtain ⟨b1, b2, b3, b4, b5⟩ := hat b hb2
    rw [lat_some (List.getElem?_eq_getElem ha), lat_some (List.getElem?_eq_getElem ha2)] at a1 a5
    rw [lat_some (List.getElem?_eq_getElem hb'), lat_some (List.getElem?_eq_getElem hb2)] at b1 b4
    have hs := hs (by omega)
    have hax : a ≠ x := by
      intro hc
      rw [hc] at ha2
      have : os[x] = o := by rw [List.getElem?_eq_getElem hxl] at hx; exact Option.some.inj hx
      have h4 := hs.1
      simp only [hc] at h4
      rw [this] at h4
      exact h4 h0
    rw [if_neg hax] at a5
    rw [a5, b4]
    exact hs
theorem HI.done {k : Int} {n i : Nat} {os lin G mine busy} (h : HI k n i os lin G mine busy) (k0 : 0 ≤ k) (k2 : k ≤ 2) (hi : i ≤ 500) (hb : ∀ p, p < n → ¬ busy p) : LOk k os ∧ ∃ l, lrow k os = some l := by
  have hlt : ∀ {o : LOp}, o ∈ os → o.hand.toNat < n := fun ho => by have := h.o _ ho; have := this.h0; have := (h.o _ ho).h1; omega
  have hd : ∀ o ∈ os, o.too ≠ 0 := fun o ho h0 => by
    obtain ⟨x, hx⟩ := List.mem_iff_getElem?.1 ho
    exact hb _ (hlt ho) (h.op x o hx h0).1
  have hin : ∀ x, x < os.length → x ∈ lin ∧ G x = (lat os x).got := fun x hx => by
    have := h.dn x _ (List.getElem?_eq_getElem hx) (hd _ (List.getElem_mem hx))
    rw [lat_some (List.getElem?_eq_getElem hx)]
    exact this
  have ht : ∀ o ∈ os, o.frm < o.too := fun o ho => ((h.o o ho).t (hd o ho)).1
  have hp : lin.Perm (List.range os.length) := (List.perm_ext_iff_of_nodup h.nd List.nodup_range).2 fun a => ⟨fun ha => List.mem_range.2 (h.lt a ha), fun ha => (hin a (List.mem_range.1 ha)).1⟩
  have hmap : lin.map (opAt os G) = lin.map (lat os) := List.map_congr_left fun x hx => by
    have h1 := (hin x (h.lt x hx)).2
    unfold opAt
    rw [h1]
  have hrun := h.run
  rw [hmap] at hrun
  have hperm : (lin.map (lat os)).Perm os := by
    have := hp.map (lat os)
    rwa [lat_map] at this
  have hseq : LSeq k os (lin.map (lat os)) := by
    refine ⟨hperm, ?_, hrun⟩
    rw [List.pairwise_map]
    refine h.ord.imp_of_mem fun {a b} ha hb' hab => ?_
    have hbl := h.lt b hb'
    have := hd _ (List.getElem_mem hbl)
    rw [lat_some (List.getElem?_eq_getElem hbl)] at hab ⊢
    omega
  refine ⟨⟨k0, k2, h.len, fun o ho => ?_, ht, ?_⟩, hseq.row ht⟩
  · have hr := lruns_rg (m := 0) (fun hk => ⟨0, by simp [lin0, hk], by omega, by omega⟩) (fun hk => by simp [lin0, hk]) hrun (fun o ho => (h.o o (hperm.subset ho)).a) (by simpa [hperm.length_eq] using (by have := hperm.length_eq; have := h.len; simp at *; omega)) o (hperm.symm.subset ho)
    obtain ⟨a, b, c, d, ⟨f, f1, f2⟩, t⟩ := h.o o ho
    obtain ⟨t1, j, t2, t3⟩ := t (hd o ho)
    have := h.n4
    exact ⟨⟨a, by omega⟩, c, d, hr, ⟨by omega, by omega⟩, ⟨by omega, by omega⟩⟩
  · refine h.sep.imp fun {a b} hab => ?_
    rintro ⟨h1, h2, h3⟩
    have := hab h1
    omega
/-! ### all get their turns -/
def Due (n E i p r : Nat) : Prop := r = 0 ∨ i + (p + n - i % n) % n + n * (r - 1) + 1 ≤ E
theorem Due.start {n E i p r : Nat} (n1 : 1 ≤ n) (n4 : n ≤ 4) (h : i + 4 * r ≤ E) : Due n E i p r := by
  unfold Due
  rcases (by omega : n = 1 ∨ n = 2 ∨ n = 3 ∨ n = 4) with rfl | rfl | rfl | rfl <;> omega
theorem Due.other {n E i p r r' : Nat} (n1 : 1 ≤ n) (n4 : n ≤ 4) (hp : p < n) (h : Due n E i p r) (hi : i % n ≠ p) (hr : r' ≤ r) : Due n E (i + 1) p r' := by
  unfold Due at *
  rcases (by omega : n = 1 ∨ n = 2 ∨ n = 3 ∨ n = 4) with rfl | rfl | rfl | rfl <;> omega
theorem Due.turn {n E i p r r' : Nat} (n1 : 1 ≤ n) (n4 : n ≤ 4) (h : Due n E i p r) (hi : i % n = p) (hr : r' + 1 ≤ r) : Due n E (i + 1) p r' := by
  unfold Due at *
  rcases (by omega : n = 1 ∨ n = 2 ∨ n = 3 ∨ n = 4) with rfl | rfl | rfl | rfl <;> omega
theorem Due.none {n E p r : Nat} (h : Due n E E p r) : r = 0 := by
  unfold Due at h
  omega
end Go.Proofs.Ytogbkgimpkaemaa
