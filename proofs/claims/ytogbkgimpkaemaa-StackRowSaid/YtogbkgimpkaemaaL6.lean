import Derived.Test.YtogbkgimpkaemaaL5
import Derived.Test.YtogbkgimpkaemaaEngL
namespace Go.Proofs.Ytogbkgimpkaemaa
open Go.Eng
set_option maxRecDepth 20000
/-! ### rows as lists of ops -/
theorem perm_map_ex {α β : Type} {f : α → β} : ∀ {σ : List β} {L : List α}, σ.Perm (L.map f) → ∃ L' : List α, L'.Perm L ∧ L'.map f = σ
  | [], L, h => by
    have := h.symm.eq_nil
    have hL : L = [] := by simpa using this
    subst hL
    exact ⟨[], List.Perm.refl _, rfl⟩
  | b :: σ, L, h => by
    have hb : b ∈ L.map f := h.subset (by simp)
    obtain ⟨x, hx, rfl⟩ := List.mem_map.1 hb
    obtain ⟨A, C, rfl⟩ := List.append_of_mem hx
    have h2 : (f x :: σ).Perm (f x :: (A ++ C).map f) := h.trans (by
      have : ((x :: (A ++ C)).map f).Perm ((A ++ x :: C).map f) := (List.perm_middle.symm).map f
      exact this.symm)
    obtain ⟨L', h3, h4⟩ := perm_map_ex (List.Perm.cons_inv h2)
    exact ⟨x :: L', (List.Perm.cons x h3).trans List.perm_middle.symm, by simp [h4]⟩
def lop0 : LOp := ⟨0, 0, 0, 0, 0, 0⟩
def lat (os : List LOp) (i : Nat) : LOp := (os[i]?).getD lop0
theorem lat_some {os : List LOp} {i : Nat} {o : LOp} (h : os[i]? = some o) : lat os i = o := by rw [lat, h]; rfl
theorem lat_map (os : List LOp) : (List.range os.length).map (lat os) = os := by
  refine List.ext_getElem? fun i => ?_
  by_cases hi : i < os.length
  · simp [List.getElem?_range hi, lat, List.getElem?_eq_getElem hi]
  · simp [List.getElem?_eq_none (by omega : os.length ≤ i)]; omega
theorem lat_fm {os : List LOp} : ∀ {l : List Nat}, (∀ i ∈ l, i < os.length) → l.filterMap (os[·]?) = l.map (lat os)
  | [], _ => rfl
  | i :: l, h => by
    have hi : i < os.length := h i (by simp)
    rw [List.filterMap_cons, List.getElem?_eq_getElem hi, List.map_cons, lat_some (List.getElem?_eq_getElem hi), lat_fm fun j hj => h j (by simp [hj])]
theorem nodup_perm_range {n : Nat} {l : List Nat} (h1 : l.Nodup) (h2 : l.length = n) (h3 : ∀ i ∈ l, i < n) : l.Perm (List.range n) :=
  (List.perm_ext_iff_of_nodup h1 List.nodup_range).2 fun a => ⟨fun h => List.mem_range.2 (h3 a h), fun h => nodup_lt_mem h1 h2 h3 a (List.mem_range.1 h)⟩
/-- a row of ops that is good -/
structure LSeq (k : Int) (os σ : List LOp) : Prop where
  p : σ.Perm os
  o : σ.Pairwise fun a b => ¬ b.too ≤ a.frm
  r : lruns k (lin0 k) σ
theorem LGood.seq {k : Int} {os : List LOp} {l : List Nat} (h : LGood k os l) : LSeq k os (l.map (lat os)) := by
  refine ⟨?_, ?_, by rw [← lat_fm h.lt]; exact h.run⟩
  · have := (nodup_perm_range h.nd h.len h.lt).map (lat os)
    rwa [lat_map] at this
  · rw [List.pairwise_map]
    refine h.ord.imp_of_mem fun {a b} ha hb hab => ?_
    have ha := h.lt a ha
    have hb := h.lt b hb
    rw [lat_some (List.getElem?_eq_getElem ha), lat_some (List.getElem?_eq_getElem hb)]
    exact hab _ _ (List.getElem?_eq_getElem ha) (List.getElem?_eq_getElem hb)
theorem LSeq.good {k : Int} {os σ : List LOp} (h : LSeq k os σ) : ∃ l, LGood k os l := by
  have hp := h.p
  rw [← lat_map os] at hp
  obtain ⟨l, h1, h2⟩ := perm_map_ex hp
  have hlt : ∀ i ∈ l, i < os.length := fun i hi => List.mem_range.1 (h1.subset hi)
  refine ⟨l, by simpa using h1.length_eq, h1.nodup_iff.2 List.nodup_range, hlt, ?_, by rw [lat_fm hlt, h2]; exact h.r⟩
  have := h.o
  rw [← h2, List.pairwise_map] at this
  refine this.imp fun {a b} hab oa ob ha hb => ?_
  rw [lat_some ha, lat_some hb] at hab
  exact hab
theorem LSeq.row {k : Int} {os σ : List LOp} (ht : ∀ o ∈ os, o.frm < o.too) (h : LSeq k os σ) : ∃ l, lrow k os = some l := by
  obtain ⟨l, hl⟩ := h.good
  obtain ⟨m, hm, _⟩ := lrow_of_good ht hl
  exact ⟨m, hm⟩
theorem lruns_left {k : Int} : ∀ {σ τ : List LOp} {st : List Int}, lruns k st (σ ++ τ) → lruns k st σ
  | [], _, _, _ => trivial
  | _ :: _, _, _, ⟨h1, h2⟩ => ⟨h1, lruns_left h2⟩
theorem LOk.sub {k : Int} {os os2 : List LOp} (h : LOk k os) (hs : os2.Sublist os) : LOk k os2 :=
  ⟨h.k0, h.k2, Nat.le_trans hs.length_le h.n, fun o ho => h.r o (hs.subset ho), fun o ho => h.t o (hs.subset ho), h.c.sublist hs⟩
/-- the last one out -/
theorem LGood.less {k : Int} {os : List LOp} {l : List Nat} {x : Nat} (h : LGood k os (l ++ [x])) : LSeq k (os.eraseIdx x) (l.map (lat os)) := by
  have hs := h.seq
  rw [List.map_append] at hs
  have hx : x < os.length := h.lt x (by simp)
  refine ⟨?_, (List.pairwise_append.1 hs.o).1, lruns_left hs.r⟩
  have h1 := hs.p
  have h2 : (lat os x :: l.map (lat os)).Perm (lat os x :: os.eraseIdx x) := by
    refine (List.perm_append_comm (l₁ := [lat os x])).trans (h1.trans ?_)
    rw [lat_some (List.getElem?_eq_getElem hx)]
    rw [List.eraseIdx_eq_take_drop_succ]
    have e : os = os.take x ++ os[x] :: os.drop (x + 1) := by rw [List.getElem_cons_drop, List.take_append_drop]
    exact (List.Perm.of_eq e).trans List.perm_middle
  exact List.Perm.cons_inv h2
theorem filter_first {α : Type} {p : α → Bool} {R : α → α → Prop} : ∀ {l : List α}, l.Pairwise R → (∀ a b, R a b → p a = false → p b = true → False) → ∃ r, l = l.filter p ++ r
  | [], _, _ => ⟨[], rfl⟩
  | a :: l, h, hr => by
    obtain ⟨h1, h2⟩ := List.pairwise_cons.1 h
    cases hp : p a with
    | true =>
      obtain ⟨r, hr⟩ := filter_first h2 hr
      exact ⟨r, by rw [List.filter_cons_of_pos hp, List.cons_append, ← hr]⟩
    | false =>
      refine ⟨a :: l, ?_⟩
      have : (a :: l).filter p = [] := by
        rw [List.filter_eq_nil_iff]
        intro b hb
        rcases List.mem_cons.1 hb with rfl | hb
        · simp [hp]
        · intro hpb; exact hr a b (h1 b hb) hp hpb
      rw [this]; rfl
/-- what was over by some time, where nothing was under way then -/
theorem LSeq.early {k : Int} {os σ : List LOp} (h : LSeq k os σ) {time : Int} (hw : ∀ o ∈ os, ¬ (o.frm < time ∧ time < o.too)) : LSeq k (os.filter fun o => decide (o.too ≤ time)) (σ.filter fun o => decide (o.too ≤ time)) := by
  have hP : (σ.Pairwise fun a b => ¬ b.too ≤ a.frm ∧ a ∈ os) := by
    refine h.o.imp_of_mem fun {a b} ha _ hab => ⟨hab, h.p.subset ha⟩
  obtain ⟨r, hr⟩ := filter_first (p := fun o => decide (o.too ≤ time)) hP (by
    rintro a b ⟨hab, ha⟩ h1 h2
    have h1 := of_decide_eq_false h1
    have h2 := of_decide_eq_true h2
    have := hw a ha
    omega)
  refine ⟨h.p.filter _, h.o.filter _, ?_⟩
  have := h.r
  rw [hr] at this
  exact lruns_left this
/-- what took longer -/
theorem LGood.wide {k : Int} {os : List LOp} {l : List Nat} (h : LGood k os l) {i : Nat} {o o' : LOp} (ho : os[i]? = some o) (e1 : o'.kind = o.kind) (e2 : o'.arg = o.arg) (e3 : o'.got = o.got) (e4 : o'.frm ≤ o.frm) (e5 : o.too ≤ o'.too) : LGood k (os.set i o') l := by
  have hi := (List.getElem?_eq_some_iff.1 ho).1
  have hlt : ∀ j ∈ l, j < (os.set i o').length := by simpa using h.lt
  have hat : ∀ (j : Nat) (x : LOp), (os.set i o')[j]? = some x → ∃ y : LOp, os[j]? = some y ∧ x.kind = y.kind ∧ x.arg = y.arg ∧ x.got = y.got ∧ x.frm ≤ y.frm ∧ y.too ≤ x.too := by
    intro j x hx
    by_cases hij : i = j
    · subst hij
      rw [List.getElem?_set_self hi] at hx
      cases hx
      exact ⟨o, ho, e1, e2, e3, e4, e5⟩
    · rw [List.getElem?_set_ne hij] at hx
      exact ⟨x, hx, rfl, rfl, rfl, Int.le_refl _, Int.le_refl _⟩
  refine ⟨by simpa using h.len, h.nd, hlt, h.ord.imp fun {a b} hab oa ob ha hb hle => ?_, ?_⟩
  · obtain ⟨ya, ya1, _, _, _, ya5, _⟩ := hat a oa ha
    obtain ⟨yb, yb1, _, _, _, _, yb6⟩ := hat b ob hb
    exact hab ya yb ya1 yb1 (by omega)
  · have hr := h.run
    rw [lat_fm h.lt] at hr
    rw [lat_fm hlt]
    have hlt2 := h.lt
    clear h
    have each : ∀ j, j < os.length → (lat (os.set i o') j).kind = (lat os j).kind ∧ (lat (os.set i o') j).arg = (lat os j).arg ∧ (lat (os.set i o') j).got = (lat os j).got := by
      intro j hj
      have hj2 : j < (os.set i o').length := by simpa using hj
      obtain ⟨y, y1, y2, y3, y4, _⟩ := hat j _ (List.getElem?_eq_getElem hj2)
      rw [lat_some y1, lat_some (List.getElem?_eq_getElem hj2)]
      exact ⟨y2, y3, y4⟩
    generalize lin0 k = st at hr ⊢
    induction l generalizing st with
    | nil => trivial
    | cons j l ih =>
      obtain ⟨q1, q2, q3⟩ := each j (hlt2 j (by simp))
      obtain ⟨r1, r2⟩ := hr
      have hst : lgo k st (lat (os.set i o') j) = lgo k st (lat os j) := by unfold lgo; rw [q1, q2]
      refine ⟨?_, ?_⟩
      · show lgot k st (lat (os.set i o') j) = (lat (os.set i o') j).got
        rw [q3, ← r1]; unfold lgot; rw [q1, q2]
      · show lruns k (lgo k st (lat (os.set i o') j)) _
        rw [hst]
        exact ih (fun x hx => hlt x (by simp [hx])) (fun x hx => hlt2 x (by simp [hx])) (lgo k st (lat os j)) r2
/-! what one does alone -/
theorem sorted_range : ∀ {n s : Nat} {l : List Nat}, l.Pairwise (· < ·) → l.length = n → (∀ i ∈ l, s ≤ i ∧ i < s + n) → l = List.range' s n
  | 0, s, l, _, h, _ => by rw [List.length_eq_zero_iff.1 h]; rfl
  | n + 1, s, [], _, h, _ => by simp at h
  | n + 1, s, a :: l, h, hl, hb => by
    obtain ⟨h1, h2⟩ := List.pairwise_cons.1 h
    have ha := hb a (by simp)
    have hb2 : ∀ i ∈ l, a + 1 ≤ i ∧ i < s + (n + 1) := fun i hi => ⟨h1 i hi, (hb i (by simp [hi])).2⟩
    have hlen : l.length = n := by simpa using hl
    have has : a = s := by
      have : l.Nodup := h2.imp fun {x y} hxy => by omega
      have hm := nodup_le (n := s + (n + 1) - (a + 1)) (l := l.map (· - (a + 1))) (by
        refine List.nodup_iff_pairwise_ne.2 ?_
        rw [List.pairwise_map]
        refine h2.imp_of_mem fun {x y} hx hy hxy => ?_
        have := hb2 x hx; have := hb2 y hy
        omega) (by
        intro i hi
        obtain ⟨x, hx, rfl⟩ := List.mem_map.1 hi
        have := hb2 x hx
        omega)
      rw [List.length_map, hlen] at hm
      omega
    subst has
    rw [List.range'_succ, sorted_range (n := n) (s := a + 1) h2 hlen (fun i hi => by have := hb2 i hi; omega)]
theorem alone_row {k : Int} {os : List LOp} (hf : ∀ (i : Nat) o, os[i]? = some o → o.frm = 2 * i ∧ o.too = 2 * i + 1) (hr : lruns k (lin0 k) os) : lrow k os = some (List.range os.length) := by
  have ht : ∀ o ∈ os, o.frm < o.too := by
    intro o ho
    obtain ⟨i, hi⟩ := List.mem_iff_getElem?.1 ho
    have := hf i o hi
    omega
  have hm : LSeq k os os := by
    refine ⟨List.Perm.refl _, ?_, hr⟩
    rw [List.pairwise_iff_getElem]
    intro i j hi hj hij
    have := hf i _ (List.getElem?_eq_getElem hi)
    have := hf j _ (List.getElem?_eq_getElem hj)
    omega
  obtain ⟨l, hl⟩ := hm.row ht
  have hg := lrow_good ht hl
  rw [hl]
  congr 1
  rw [List.range_eq_range']
  refine sorted_range ?_ hg.len (fun i hi => ⟨Nat.zero_le _, by have := hg.lt i hi; omega⟩)
  refine (hg.ord.and (List.nodup_iff_pairwise_ne.1 hg.nd)).imp_of_mem fun {a b} ha hb hab => ?_
  have ha := hg.lt a ha
  have hb := hg.lt b hb
  have := hab.1 _ _ (List.getElem?_eq_getElem ha) (List.getElem?_eq_getElem hb)
  have := hf a _ (List.getElem?_eq_getElem ha)
  have := hf b _ (List.getElem?_eq_getElem hb)
  have := hab.2
  omega
theorem lruns_app {k : Int} : ∀ {σ : List LOp} {st : List Int} {o : LOp}, lruns k st (σ ++ [o]) ↔ lruns k st σ ∧ lgot k (σ.foldl (lgo k) st) o = o.got
  | [], st, o => by simp [lruns]
  | x :: σ, st, o => by
    simp only [List.cons_append, lruns, List.foldl_cons]
    rw [lruns_app, and_assoc]
/-- what has run so far is small -/
structure Small (k : Int) (n : Nat) (st : List Int) : Prop where
  z : k = 0 → ∃ z, st = [z] ∧ 0 ≤ z ∧ z ≤ 1000 * n
  l : k ≠ 0 → st.length ≤ n
theorem Small.start (k : Int) : Small k 0 (lin0 k) := ⟨fun h => ⟨0, by simp [lin0, h], by omega, by omega⟩, fun h => by simp [lin0, h]⟩
theorem Small.go {k : Int} {n : Nat} {st : List Int} (h : Small k n st) {o : LOp} (a0 : 0 ≤ o.arg) (a1 : o.arg ≤ 1000) : Small k (n + 1) (lgo k st o) := by
  refine ⟨fun hk => ?_, fun hk => ?_⟩
  · obtain ⟨z, rfl, z0, z1⟩ := h.z hk
    unfold lgo lget
    rw [if_pos hk]
    dsimp only
    split
    · exact ⟨_, rfl, by simp only [gI]; simp; omega, by simp only [gI]; simp; omega⟩
    · exact ⟨z, rfl, z0, by omega⟩
  · have := h.l hk
    unfold lgo lget
    rw [if_neg hk]
    repeat' split
    · simp; omega
    · dsimp only; omega
    · simp; omega
    · simp; omega
/-- what is got is small -/
theorem lruns_rg {k : Int} : ∀ {σ : List LOp} {m : Nat} {st : List Int}, (k = 0 → ∃ z, st = [z] ∧ 0 ≤ z ∧ z ≤ 1000 * m) → (k ≠ 0 → ∀ x ∈ st, 0 ≤ x ∧ x ≤ 1000) → lruns k st σ → (∀ o ∈ σ, 0 ≤ o.arg ∧ o.arg ≤ 1000) → m + σ.length ≤ 8 → ∀ o ∈ σ, -1 ≤ o.got ∧ o.got ≤ 8000
  | [], _, _, _, _, _, _, _ => by simp
  | o :: σ, m, st, hz, hl, ⟨r1, r2⟩, ha, hm => by
    simp only [List.length_cons] at hm
    obtain ⟨a0, a1⟩ := ha o (by simp)
    have hg : ∀ i, k ≠ 0 → 0 ≤ gI st i ∧ gI st i ≤ 1000 := fun i hk => by
      unfold gI
      cases h : st[i]? with
      | none => simp
      | some v => simpa using hl hk v (List.mem_of_getElem? h)
    have h1 : -1 ≤ lgot k st o ∧ lgot k st o ≤ 8000 := by
      by_cases hk : k = 0
      · obtain ⟨z, rfl, z0, z1⟩ := hz hk
        rw [lgot, lget, if_pos hk]
        simp only [gI, List.getElem?_cons_zero, Option.getD_some]
        omega
      · have g1 := hg 0 hk
        have g2 := hg (st.length - 1) hk
        rw [lgot, lget, if_neg hk]
        repeat' split
        all_goals (simp only; omega)
    have hz' : k = 0 → ∃ z, lgo k st o = [z] ∧ 0 ≤ z ∧ z ≤ 1000 * (m + 1 : Nat) := fun hk => by
      obtain ⟨z, rfl, z0, z1⟩ := hz hk
      rw [lgo, lget, if_pos hk]
      simp only [gI, List.getElem?_cons_zero, Option.getD_some]
      split
      · exact ⟨_, rfl, by omega, by omega⟩
      · exact ⟨_, rfl, by omega, by omega⟩
    have hl' : k ≠ 0 → ∀ x ∈ lgo k st o, 0 ≤ x ∧ x ≤ 1000 := fun hk x hx => by
      rw [lgo, lget, if_neg hk] at hx
      repeat' split at hx
      · rcases List.mem_append.1 hx with hx | hx
        · exact hl hk x hx
        · simp only [List.mem_singleton] at hx; omega
      · exact hl hk x hx
      · exact hl hk x (List.mem_of_mem_take hx)
      · exact hl hk x (List.mem_of_mem_drop hx)
    intro q hq
    rcases List.mem_cons.1 hq with rfl | hq
    · rw [← r1]; exact h1
    · exact lruns_rg hz' hl' r2 (fun o ho => ha o (by simp [ho])) (by omega) q hq
end Go.Proofs.Ytogbkgimpkaemaa
