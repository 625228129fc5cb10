import Derived.Test.YtnppmcgmmdcpiaaDoorB0
namespace Go.Proofs.YtnppmcgmmdcpiaaDoor
open Go.Eng
set_option maxRecDepth 20000
/-! ### the bank, plain: what is moved, and rows from some place on -/
theorem gI_ext {l m : List Int} (h : l.length = m.length) (hg : ∀ k, k < l.length → gI l k = gI m k) : l = m := by
  refine List.ext_getElem h fun k h1 h2 => ?_
  have := hg k h1
  unfold gI at this
  rw [List.getElem?_eq_getElem h1, List.getElem?_eq_getElem h2] at this
  exact this
theorem gI_rm {n k : Nat} {f : Nat → Int} (h : k < n) : gI ((List.range n).map f) k = f k := by
  unfold gI; rw [List.getElem?_map, List.getElem?_range h]; rfl
theorem g2_set {l : List (List Int)} {t s k : Nat} {r : List Int} (h : t < l.length) : g2 (l.set t r) s k = if s = t then gI r k else g2 l s k := by
  unfold g2
  by_cases hs : s = t
  · subst hs; rw [List.getElem?_set_self h, if_pos rfl]; rfl
  · rw [List.getElem?_set_ne (fun e => hs e.symm), if_neg hs]
theorem fold_set (k : Nat) : ∀ (l : List (List Int)) (t : Nat) (r : List Int) (x : Int), t < l.length → (l.set t r).foldl (fun s h => s + gI h k) x = l.foldl (fun s h => s + gI h k) x + (gI r k - g2 l t k) := by
  have sh : ∀ (l : List (List Int)) (x d : Int), l.foldl (fun s h => s + gI h k) (x + d) = l.foldl (fun s h => s + gI h k) x + d := by
    intro l
    induction l with
    | nil => intro x d; rfl
    | cons a l ih => intro x d; simp only [List.foldl_cons]; rw [← ih]; congr 1; omega
  intro l
  induction l with
  | nil => intro t r x h; simp at h
  | cons a l ih =>
    intro t r x h
    cases t with
    | zero =>
      simp only [List.set_cons_zero, List.foldl_cons]
      rw [← sh]
      congr 1
      show x + gI r k = x + gI a k + (gI r k - gI a k)
      omega
    | succ t =>
      simp only [List.set_cons_succ, List.foldl_cons]
      exact ih t r _ (by simpa using h)
theorem fold_shift (k : Nat) : ∀ (l : List (List Int)) (x d : Int), l.foldl (fun s h => s + gI h k) (x + d) = l.foldl (fun s h => s + gI h k) x + d := by
  intro l
  induction l with
  | nil => intro x d; rfl
  | cons a l ih => intro x d; simp only [List.foldl_cons]; rw [← ih]; congr 1; omega
def bmv (b : Bk) (t : Nat) (want : List Int) (s : Int) : Bk :=
  { b with free := (List.range b.free.length).map fun k => gI b.free k - s * gI want k, has := b.has.set t ((List.range b.free.length).map fun k => g2 b.has t k + s * gI want k) }
theorem bmv_fl {b : Bk} {t : Nat} {want : List Int} {s : Int} : (bmv b t want s).free.length = b.free.length := by simp [bmv]
theorem bmv_free {b : Bk} {t : Nat} {want : List Int} {s : Int} {k : Nat} (h : k < b.free.length) : gI (bmv b t want s).free k = gI b.free k - s * gI want k := gI_rm h
theorem bmv_has {b : Bk} {t : Nat} {want : List Int} {s : Int} {u k : Nat} (ht : t < b.has.length) (h : k < b.free.length) : g2 (bmv b t want s).has u k = if u = t then g2 b.has t k + s * gI want k else g2 b.has u k := by
  show g2 (b.has.set t _) u k = _
  rw [g2_set ht, gI_rm h]
theorem bmv_ball {b : Bk} {t : Nat} {want : List Int} {s : Int} {k : Nat} (ht : t < b.has.length) (h : k < b.free.length) : ball (bmv b t want s) k = ball b k := by
  show (b.has.set t _).foldl (fun s h => s + gI h k) (gI (bmv b t want s).free k) = _
  rw [fold_set k _ _ _ _ ht, bmv_free h, gI_rm h, show gI b.free k - s * gI want k = gI b.free k + (- (s * gI want k)) by omega, fold_shift]
  show ball b k + _ + _ = _
  omega
theorem bmv_ok {b : Bk} (ho : BOk b) {t : Nat} {want : List Int} {s : Int} (ht : t < b.claim.length) (hf : ∀ k, k < b.free.length → 0 ≤ gI b.free k - s * gI want k ∧ gI b.free k - s * gI want k ≤ 1000)
    (hh : ∀ k, k < b.free.length → 0 ≤ g2 b.has t k + s * gI want k ∧ g2 b.has t k + s * gI want k ≤ g2 b.claim t k) : BOk (bmv b t want s) := by
  have hl := ho.hl
  have htl : t < b.has.length := by omega
  refine ⟨by rw [bmv_fl]; exact ho.n1, by rw [bmv_fl]; exact ho.n3, ho.m5, by simp [bmv, hl], fun u hu => ?_, fun k hk => ?_, fun u k hu hk => ?_, fun u k hu hk => ?_⟩
  · rw [bmv_fl]
    refine ⟨(ho.cn u hu).1, ?_⟩
    show ((b.has.set t _)[u]?.getD []).length = _
    by_cases he : u = t
    · subst he; rw [List.getElem?_set_self htl]; simp
    · rw [List.getElem?_set_ne (fun e => he e.symm)]; exact (ho.cn u hu).2
  · rw [bmv_fl] at hk
    rw [bmv_free hk]; exact hf k hk
  · rw [bmv_fl] at hk
    rw [bmv_has htl hk]
    refine ⟨(ho.c u k hu hk).1, ?_⟩
    split
    · rename_i e; subst e; exact hh k hk
    · exact (ho.c u k hu hk).2
  · rw [bmv_fl] at hk
    rw [bmv_ball htl hk]
    exact ho.a u k hu hk
theorem bmv_back {b : Bk} (ho : BOk b) {t : Nat} {want : List Int} (ht : t < b.claim.length) : bmv (bmv b t want 1) t want (-1) = b := by
  have hl := ho.hl
  have htl : t < b.has.length := by omega
  have htl2 : t < (bmv b t want 1).has.length := by simp [bmv]; omega
  obtain ⟨f, c, h⟩ := b
  have e1 : (bmv (bmv ⟨f, c, h⟩ t want 1) t want (-1)).free = f := by
    refine gI_ext (by rw [bmv_fl, bmv_fl]) fun k hk => ?_
    rw [bmv_fl, bmv_fl] at hk
    rw [bmv_free (by rw [bmv_fl]; exact hk), bmv_free hk]
    dsimp only
    omega
  have e2 : (bmv (bmv ⟨f, c, h⟩ t want 1) t want (-1)).has = h := by
    show ((h.set t _).set t _) = h
    rw [List.set_set]
    refine List.ext_getElem? fun i => ?_
    by_cases hi : i = t
    · subst hi
      rw [List.getElem?_set_self htl, List.getElem?_eq_getElem htl]
      congr 1
      have hn := (ho.cn i ht).2
      dsimp only at hn htl
      rw [List.getElem?_eq_getElem htl] at hn
      simp only [Option.getD_some] at hn
      refine gI_ext ?_ fun k hk => ?_
      · rw [List.length_map, List.length_range, bmv_fl]; exact hn.symm
      · have hk : k < f.length := by rwa [List.length_map, List.length_range, bmv_fl] at hk
        rw [gI_rm (by rw [bmv_fl]; exact hk), bmv_has htl hk, if_pos rfl]
        have : g2 h i k = gI h[i] k := by unfold g2; rw [List.getElem?_eq_getElem htl]; rfl
        dsimp only
        rw [this]
        omega
    · rw [List.getElem?_set_ne (fun e => hi e.symm)]
  show Bk.mk _ _ _ = _
  exact congr (congrArg (fun a => Bk.mk a c) e1) e2
/-- rows from some place on -/
structure Cmp (b : Bk) (out l : List Nat) : Prop where
  len : out.length + l.length = b.claim.length
  nd : (out ++ l).Nodup
  lt : ∀ t ∈ out ++ l, t < b.claim.length
  go : ∀ (k t : Nat), l[k]? = some t → bends b (bfree b (out ++ l.take k)) t = true
theorem bends_more {b : Bk} (ho : BOk b) {p q : List Nat} {t : Nat} (hn : p.Nodup) (hs : ∀ s ∈ p, s ∈ q) (hq : ∀ s ∈ q, s < b.claim.length) (h : bends b (bfree b p) t = true) : bends b (bfree b q) t = true := by
  refine bends_iff.2 fun j hj => ?_
  rw [bfree_len] at hj
  have := bends_iff.1 h j (by rw [bfree_len]; exact hj)
  rw [bfree_get hj] at this ⊢
  have := isum_le (f := fun t => g2 b.has t j) hn hs (fun s hs => (ho.c s j (hq s hs) hj).2.1)
  omega
theorem Cmp.mem {b : Bk} {out l : List Nat} (h : Cmp b out l) {t : Nat} (ht : t < b.claim.length) (hn : t ∉ out) : t ∈ l := by
  have hp : ∀ {n : Nat} {l : List Nat}, l.Nodup → l.length = n → (∀ i ∈ l, i < n) → t < n → t ∈ l := by
    intro n l h1 h2 h3 h4
    apply Classical.byContradiction
    intro hc
    have := bk_nodup_le (n := n) (l := t :: l) (List.nodup_cons.2 ⟨hc, h1⟩) (fun i hi => by
      rcases List.mem_cons.1 hi with rfl | hi
      · exact h4
      · exact h3 i hi)
    simp at this
    omega
  have := hp h.nd (by rw [List.length_append]; exact h.len) h.lt ht
  exact (List.mem_append.1 this).resolve_left hn
theorem Cmp.first {b : Bk} (ho : BOk b) {out l : List Nat} (h : Cmp b out l) {t : Nat} (ht : t ∈ l) (hb : bends b (bfree b out) t = true) : Cmp b (out ++ [t]) (l.erase t) := by
  obtain ⟨A, C, hA, hl, he⟩ := List.exists_erase_eq ht
  subst hl
  rw [he]
  have hlen := h.len
  have hnd := h.nd
  have hlt := h.lt
  have hp : (out ++ (A ++ t :: C)).Perm (out ++ [t] ++ (A ++ C)) := by
    rw [List.append_assoc]
    exact List.Perm.append_left _ (List.perm_middle.trans (by simp))
  refine ⟨by simp at hlen ⊢; omega, hp.nodup_iff.1 hnd, fun x hx => hlt x (hp.mem_iff.2 hx), fun k x hk => ?_⟩
  have hsub : ∀ s ∈ (out ++ [t]) ++ (A ++ C).take k, s < b.claim.length := fun s hs => by
    refine hlt s (hp.mem_iff.2 ?_)
    simp only [List.mem_append] at hs ⊢
    rcases hs with hs | hs
    · exact .inl hs
    · exact .inr (List.mem_append.1 (List.mem_of_mem_take hs))
  by_cases hka : k < A.length
  · have hx : (A ++ t :: C)[k]? = some x := by rw [List.getElem?_append_left hka] at hk ⊢; exact hk
    have := h.go k x hx
    refine bends_more ho ?_ ?_ hsub this
    · exact hnd.sublist (List.Sublist.append_left (List.take_sublist _ _) _)
    · intro s hs
      rw [List.take_append_of_le_length (by omega)] at hs ⊢
      simp only [List.mem_append] at hs ⊢
      rcases hs with hs | hs
      · exact .inl (.inl hs)
      · exact .inr hs
  · have hx : (A ++ t :: C)[k + 1]? = some x := by
      rw [List.getElem?_append_right (by omega)] at hk ⊢
      rw [show k + 1 - A.length = k - A.length + 1 by omega, List.getElem?_cons_succ]
      exact hk
    have := h.go (k + 1) x hx
    refine bends_more ho ?_ ?_ hsub this
    · exact hnd.sublist (List.Sublist.append_left (List.take_sublist _ _) _)
    · intro s hs
      rw [List.take_append, List.take_of_length_le (show A.length ≤ k + 1 by omega), show k + 1 - A.length = k - A.length + 1 by omega, List.take_succ_cons] at hs
      rw [List.take_append, List.take_of_length_le (show A.length ≤ k by omega)]
      simp only [List.mem_append, List.mem_cons, List.mem_nil_iff, or_false] at hs ⊢
      rcases hs with hs | hs | hs | hs
      · exact .inl (.inl hs)
      · exact .inr (.inl hs)
      · exact .inl (.inr hs)
      · exact .inr (.inr hs)
theorem bgo_cmp {b : Bk} (ho : BOk b) : ∀ {n : Nat} {out l : List Nat}, out.length + n = b.claim.length → Cmp b out l → ∃ r, bgo b n out (bfree b out) = some r
  | 0, out, _, _, _ => ⟨out, rfl⟩
  | n + 1, out, l, hn, h => by
    rw [bgo]
    cases hx : bnext b (bfree b out) out with
    | some t =>
      obtain ⟨h1, h2, h3, h4⟩ := bnext_some hx
      dsimp only
      rw [← bfree_app]
      exact bgo_cmp ho (by simp; omega) (h.first ho (h.mem h1 h2) h3)
    | none =>
      exfalso
      have hl : 0 < l.length := by have := h.len; omega
      obtain ⟨t, ht⟩ : ∃ t, l[0]? = some t := ⟨_, List.getElem?_eq_getElem hl⟩
      have hb := h.go 0 t ht
      simp only [List.take_zero, List.append_nil] at hb
      have hm := List.mem_of_getElem? ht
      have hno := bnext_none hx t (h.lt t (by simp [hm])) (fun hc => (List.nodup_append.1 h.nd).2.2 t hc t hm rfl)
      rw [hb] at hno; cases hno
theorem Cmp.cons {b : Bk} {out l : List Nat} {t : Nat} (h : Cmp b (out ++ [t]) l) (hb : bends b (bfree b out) t = true) : Cmp b out (t :: l) := by
  refine ⟨by have := h.len; simp at this ⊢; omega, by simpa using h.nd, fun x hx => h.lt x (by simpa using hx), fun k x hk => ?_⟩
  cases k with
  | zero => simp at hk; subst hk; simpa using hb
  | succ k =>
    have := h.go k x (by simpa using hk)
    simpa using this
theorem bgo_out {b : Bk} : ∀ {n : Nat} {out r : List Nat}, out.length + n = b.claim.length → out.Nodup → (∀ t ∈ out, t < b.claim.length) → bgo b n out (bfree b out) = some r → ∃ l, r = out ++ l ∧ Cmp b out l
  | 0, out, r, hn, hd, hlt, hr => by
    simp only [bgo, Option.some.injEq] at hr
    subst hr
    exact ⟨[], by simp, by simpa using hn, by simpa using hd, by simpa using hlt, by simp⟩
  | n + 1, out, r, hn, hd, hlt, hr => by
    rw [bgo] at hr
    cases hx : bnext b (bfree b out) out with
    | none => rw [hx] at hr; cases hr
    | some t =>
      rw [hx] at hr
      dsimp only at hr
      rw [← bfree_app] at hr
      obtain ⟨h1, h2, h3, h4⟩ := bnext_some hx
      obtain ⟨l, rfl, hl⟩ := bgo_out (out := out ++ [t]) (by simp; omega) (List.nodup_append.2 ⟨hd, by simp, by simp; exact fun a ha e => h2 (e ▸ ha)⟩) (fun s hs => by
        simp only [List.mem_append, List.mem_singleton] at hs
        rcases hs with hs | rfl
        · exact hlt s hs
        · exact h1) hr
      exact ⟨t :: l, by simp, hl.cons h3⟩
/-- where the first that can end leads nowhere, none does -/
theorem bgo_none {b : Bk} (ho : BOk b) {n : Nat} {out : List Nat} (hn : out.length + (n + 1) = b.claim.length) (hd : out.Nodup) (hlt : ∀ t ∈ out, t < b.claim.length) (h : bgo b (n + 1) out (bfree b out) = none)
    {t : Nat} (ht : t < b.claim.length) (hto : t ∉ out) (hb : bends b (bfree b out) t = true) : bgo b n (out ++ [t]) (bfree b (out ++ [t])) = none := by
  cases hx : bgo b n (out ++ [t]) (bfree b (out ++ [t])) with
  | none => rfl
  | some r =>
    obtain ⟨l, _, hl⟩ := bgo_out (out := out ++ [t]) (by simp; omega) (List.nodup_append.2 ⟨hd, by simp, by simp; exact fun a ha e => hto (e ▸ ha)⟩) (fun s hs => by
      simp only [List.mem_append, List.mem_singleton] at hs
      rcases hs with hs | rfl
      · exact hlt s hs
      · exact ht) hx
    obtain ⟨r2, h2⟩ := bgo_cmp ho hn (hl.cons hb)
    rw [h2] at h; cases h
/-- what is lent leaves it safe only if it was -/
theorem bmv_safe {b : Bk} (ho : BOk b) {t : Nat} {want : List Int} (ht : t < b.claim.length) (hw : ∀ k, k < b.free.length → 0 ≤ gI want k) {l : List Nat} (hl : BRow (bmv b t want 1) l) : BRow b l := by
  have hh := ho.hl
  have htl : t < b.has.length := by omega
  refine ⟨hl.len, hl.nd, hl.lt, fun k u hk => bends_iff.2 fun j hj => ?_⟩
  rw [bfree_len] at hj
  have hu : u < b.claim.length := hl.lt u (List.mem_of_getElem? hk)
  have h1 := bends_iff.1 (hl.go k u hk) j (by rw [bfree_len, bmv_fl]; exact hj)
  rw [bfree_get (by rw [bmv_fl]; exact hj), bmv_free hj, bmv_has htl hj] at h1
  rw [bfree_get hj]
  have hw := hw j hj
  have key : ∀ p : List Nat, p.Nodup → isum (fun u => g2 (bmv b t want 1).has u j) p = isum (fun u => g2 b.has u j) p + if t ∈ p then gI want j else 0 := by
    intro p
    induction p with
    | nil => intro _; simp [isum]
    | cons x p ih =>
      intro hp
      obtain ⟨h8, h9⟩ := List.nodup_cons.1 hp
      simp only [isum]
      rw [ih h9, bmv_has htl hj]
      by_cases hx : x = t
      · subst hx; rw [if_pos rfl, if_neg h8, if_pos (by simp)]; omega
      · rw [if_neg hx]
        by_cases hm : t ∈ p
        · rw [if_pos hm, if_pos (by simp [hm])]; omega
        · rw [if_neg hm, if_neg (by simp [hm]; exact fun e => hx e.symm)]; omega
  rw [key _ (hl.nd.sublist (List.take_sublist _ _))] at h1
  have hc : g2 (bmv b t want 1).claim u j = g2 b.claim u j := rfl
  rw [hc] at h1
  by_cases hut : u = t
  · subst hut
    have hnt : u ∉ l.take k := fun hm => by
      obtain ⟨i, hi1, hi2⟩ := List.mem_iff_getElem.1 hm
      rw [List.getElem_take] at hi2
      have hik : i < k := by simp at hi1; omega
      obtain ⟨hkl, hk'⟩ := List.getElem?_eq_some_iff.1 hk
      have hp := List.nodup_iff_pairwise_ne.1 hl.nd
      rw [List.pairwise_iff_getElem] at hp
      exact hp i k (by omega) hkl hik (by rw [hi2, hk'])
    rw [if_pos rfl, if_neg hnt] at h1
    omega
  · rw [if_neg hut] at h1
    split at h1 <;> omega
end Go.Proofs.YtnppmcgmmdcpiaaDoor
