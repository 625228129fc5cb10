import Derived.Test.YtnppmcgmmdcpiaaDoorEngK
import Derived.Test.YtnppmcgmmdcpiaaDoorEngJ
namespace Go.Proofs.YtnppmcgmmdcpiaaDoor
open Go.Eng
set_option maxRecDepth 20000
/-! ### the bank, plain -/
structure Bk where
  free : List Int
  claim : List (List Int)
  has : List (List Int)
def g2 (l : List (List Int)) (t k : Nat) : Int := gI ((l[t]?).getD []) k
def bends (b : Bk) (free : List Int) (t : Nat) : Bool := (List.range free.length).all fun k => decide (g2 b.claim t k - g2 b.has t k ≤ gI free k)
def bnext (b : Bk) (free : List Int) (out : List Nat) : Option Nat := (List.range b.claim.length).find? fun t => !(out.contains t) && bends b free t
def badd (b : Bk) (free : List Int) (t : Nat) : List Int := (List.range free.length).map fun k => gI free k + g2 b.has t k
def bgo (b : Bk) : Nat → List Nat → List Int → Option (List Nat)
  | 0, out, _ => some out
  | n + 1, out, free => match bnext b free out with
    | none => none
    | some t => bgo b n (out ++ [t]) (badd b free t)
def brow (b : Bk) : Option (List Nat) := bgo b b.claim.length [] b.free
def bfree (b : Bk) (l : List Nat) : List Int := l.foldl (badd b) b.free
def ball (b : Bk) (k : Nat) : Int := b.has.foldl (fun s h => s + gI h k) (gI b.free k)
structure BOk (b : Bk) : Prop where
  n1 : 1 ≤ b.free.length
  n3 : b.free.length ≤ 3
  m5 : b.claim.length ≤ 5
  hl : b.has.length = b.claim.length
  cn : ∀ t, t < b.claim.length → ((b.claim[t]?).getD []).length = b.free.length ∧ ((b.has[t]?).getD []).length = b.free.length
  f : ∀ k, k < b.free.length → 0 ≤ gI b.free k ∧ gI b.free k ≤ 1000
  c : ∀ t k, t < b.claim.length → k < b.free.length → (0 ≤ g2 b.claim t k ∧ g2 b.claim t k ≤ 1000) ∧ (0 ≤ g2 b.has t k ∧ g2 b.has t k ≤ g2 b.claim t k)
  a : ∀ t k, t < b.claim.length → k < b.free.length → g2 b.claim t k ≤ ball b k
open Classical in
noncomputable def bcheck (b : Bk) : Int :=
  if b.free.length = 0 then 5 else if b.free.length > 3 ∨ b.claim.length > 5 then 4 else if b.has.length ≠ b.claim.length then 3
  else if ∃ t, t < b.claim.length ∧ (((b.claim[t]?).getD []).length ≠ b.free.length ∨ ((b.has[t]?).getD []).length ≠ b.free.length) then 3
  else if ∃ k, k < b.free.length ∧ ¬ (0 ≤ gI b.free k ∧ gI b.free k ≤ 1000) then 1
  else if ∃ t k, t < b.claim.length ∧ k < b.free.length ∧ ¬ ((0 ≤ g2 b.claim t k ∧ g2 b.claim t k ≤ 1000) ∧ (0 ≤ g2 b.has t k ∧ g2 b.has t k ≤ g2 b.claim t k)) then 1
  else if ∃ t k, t < b.claim.length ∧ k < b.free.length ∧ ¬ g2 b.claim t k ≤ ball b k then 6 else 0
theorem bcheck_zero {b : Bk} : bcheck b = 0 ↔ BOk b := by
  unfold bcheck
  constructor
  · intro h
    split at h
    · cases h
    split at h
    · cases h
    split at h
    · cases h
    split at h
    · cases h
    split at h
    · cases h
    split at h
    · cases h
    split at h
    · cases h
    rename_i h1 h2 h3 h4 h5 h6 h7
    exact ⟨by omega, by omega, by omega, Classical.byContradiction h3, fun t ht => Classical.byContradiction fun hc => h4 ⟨t, ht, by omega⟩, fun k hk => Classical.byContradiction fun hc => h5 ⟨k, hk, hc⟩, fun t k ht hk => Classical.byContradiction fun hc => h6 ⟨t, k, ht, hk, hc⟩, fun t k ht hk => Classical.byContradiction fun hc => h7 ⟨t, k, ht, hk, hc⟩⟩
  · intro h
    have := h.n1; have := h.n3; have := h.m5; have := h.hl
    rw [if_neg (by omega), if_neg (by omega), if_neg (by omega), if_neg, if_neg, if_neg, if_neg]
    · rintro ⟨t, k, ht, hk, hc⟩; exact hc (h.a t k ht hk)
    · rintro ⟨t, k, ht, hk, hc⟩; exact hc (h.c t k ht hk)
    · rintro ⟨k, hk, hc⟩; exact hc (h.f k hk)
    · rintro ⟨t, ht, hc⟩; have := h.cn t ht; omega
theorem badd_len (b : Bk) (free : List Int) (t : Nat) : (badd b free t).length = free.length := by simp [badd]
theorem bfree_len (b : Bk) : ∀ l : List Nat, (bfree b l).length = b.free.length := by
  have key : ∀ (l : List Nat) (f : List Int), (l.foldl (badd b) f).length = f.length := by
    intro l
    induction l with
    | nil => intro f; rfl
    | cons t l ih => intro f; rw [List.foldl_cons, ih, badd_len]
  exact fun l => key l _
theorem badd_get {b : Bk} {free : List Int} {t k : Nat} (hk : k < free.length) : gI (badd b free t) k = gI free k + g2 b.has t k := by
  rw [badd]
  conv => lhs; unfold gI
  rw [List.getElem?_map, List.getElem?_range hk]
  rfl
def isum (f : Nat → Int) : List Nat → Int
  | [] => 0
  | t :: l => f t + isum f l
theorem isum_perm {f : Nat → Int} {l m : List Nat} (h : l.Perm m) : isum f l = isum f m := by
  induction h with
  | nil => rfl
  | cons x _ ih => simp [isum, ih]
  | swap x y l => simp only [isum]; omega
  | trans _ _ h1 h2 => exact h1.trans h2
theorem isum_app {f : Nat → Int} : ∀ {l m : List Nat}, isum f (l ++ m) = isum f l + isum f m
  | [], _ => by simp [isum]
  | t :: l, m => by simp only [List.cons_append, isum]; rw [isum_app]; omega
theorem isum_nn {f : Nat → Int} : ∀ {l : List Nat}, (∀ t ∈ l, 0 ≤ f t) → 0 ≤ isum f l
  | [], _ => by simp [isum]
  | t :: l, h => by
    have := isum_nn (f := f) (l := l) (fun t ht => h t (by simp [ht]))
    have := h t (by simp)
    simp only [isum]; omega
theorem isum_le {f : Nat → Int} : ∀ {l m : List Nat}, l.Nodup → (∀ t ∈ l, t ∈ m) → (∀ t ∈ m, 0 ≤ f t) → isum f l ≤ isum f m
  | [], m, _, _, h => isum_nn h
  | t :: l, m, hn, hs, h => by
    have ht := hs t (by simp)
    have hp := List.perm_cons_erase ht
    rw [isum_perm hp]
    simp only [isum]
    obtain ⟨h1, h2⟩ := List.nodup_cons.1 hn
    have := isum_le (f := f) (l := l) (m := m.erase t) h2 (fun x hx => (List.mem_erase_of_ne (fun hc => h1 (by rw [← hc]; exact hx))).2 (hs x (by simp [hx]))) (fun x hx => h x (List.mem_of_mem_erase hx))
    omega
theorem bfree_get {b : Bk} {k : Nat} (hk : k < b.free.length) : ∀ l : List Nat, gI (bfree b l) k = gI b.free k + isum (fun t => g2 b.has t k) l := by
  have key : ∀ (l : List Nat) (f : List Int), k < f.length → gI (l.foldl (badd b) f) k = gI f k + isum (fun t => g2 b.has t k) l := by
    intro l
    induction l with
    | nil => intro f _; simp [isum]
    | cons t l ih => intro f hf; rw [List.foldl_cons, ih _ (by rw [badd_len]; exact hf), badd_get hf]; simp only [isum]; omega
  exact fun l => key l _ hk
theorem bfree_app (b : Bk) (l : List Nat) (t : Nat) : bfree b (l ++ [t]) = badd b (bfree b l) t := by rw [bfree, List.foldl_append]; rfl
/-- a row along which all can end -/
structure BRow (b : Bk) (l : List Nat) : Prop where
  len : l.length = b.claim.length
  nd : l.Nodup
  lt : ∀ t ∈ l, t < b.claim.length
  go : ∀ (k t : Nat), l[k]? = some t → bends b (bfree b (l.take k)) t = true
theorem bends_iff {b : Bk} {free : List Int} {t : Nat} : bends b free t = true ↔ ∀ k, k < free.length → g2 b.claim t k - g2 b.has t k ≤ gI free k := by
  unfold bends
  rw [List.all_eq_true]
  exact ⟨fun h k hk => of_decide_eq_true (h k (List.mem_range.2 hk)), fun h k hk => decide_eq_true (h k (List.mem_range.1 hk))⟩
theorem bnext_some {b : Bk} {free : List Int} {out : List Nat} {t : Nat} (h : bnext b free out = some t) : t < b.claim.length ∧ t ∉ out ∧ bends b free t = true ∧ ∀ s, s < t → s ∉ out → bends b free s = false := by
  unfold bnext at h
  rw [List.find?_range_eq_some] at h
  obtain ⟨h1, h2, h3⟩ := h
  simp at h1 h2 h3
  refine ⟨h2, h1.1, h1.2, fun s hs ho => (h3 s hs).resolve_left ho⟩
theorem bnext_none {b : Bk} {free : List Int} {out : List Nat} (h : bnext b free out = none) : ∀ t, t < b.claim.length → t ∉ out → bends b free t = false := by
  intro t ht ho
  unfold bnext at h
  rw [List.find?_eq_none] at h
  have := h t (List.mem_range.2 ht)
  simpa [ho] using this
/-- what is told is taken least first -/
structure BGr (b : Bk) (r : List Nat) : Prop where
  lt : ∀ t ∈ r, t < b.claim.length
  nd : r.Nodup
  go : ∀ (k t : Nat), r[k]? = some t → bnext b (bfree b (r.take k)) (r.take k) = some t
theorem BGr.nil (b : Bk) : BGr b [] := ⟨by simp, by simp, by simp⟩
theorem BGr.snoc {b : Bk} {r : List Nat} (h : BGr b r) {t : Nat} (ht : bnext b (bfree b r) r = some t) : BGr b (r ++ [t]) := by
  obtain ⟨h1, h2, h3, h4⟩ := bnext_some ht
  refine ⟨fun s hs => ?_, List.nodup_append.2 ⟨h.nd, by simp, fun a ha c hc => ?_⟩, fun k s hs => ?_⟩
  · rcases List.mem_append.1 hs with hs | hs
    · exact h.lt s hs
    · simp only [List.mem_singleton] at hs; omega
  · simp only [List.mem_singleton] at hc
    subst hc
    exact fun he => h2 (he ▸ ha)
  · by_cases hk : k < r.length
    · rw [List.getElem?_append_left hk] at hs
      rw [List.take_append_of_le_length (by omega)]
      exact h.go k s hs
    · rw [List.getElem?_append_right (by omega)] at hs
      obtain ⟨h5, h6⟩ := List.getElem?_eq_some_iff.1 hs
      simp at h5
      obtain rfl : k = r.length := by omega
      have h6 : t = s := by rw [← h6]; simp
      subst h6
      simp [ht]
theorem bgo_gr {b : Bk} : ∀ {n : Nat} {out r : List Nat}, BGr b out → out.length + n = b.claim.length → bgo b n out (bfree b out) = some r → BGr b r ∧ r.length = b.claim.length
  | 0, out, r, h, hn, hr => by
    simp only [bgo, Option.some.injEq] at hr
    subst hr
    exact ⟨h, by omega⟩
  | n + 1, out, r, h, hn, hr => by
    rw [bgo] at hr
    cases hx : bnext b (bfree b out) out with
    | none => rw [hx] at hr; cases hr
    | some t =>
      rw [hx] at hr
      simp only at hr
      rw [← bfree_app] at hr
      exact bgo_gr (h.snoc hx) (by simp; omega) hr
theorem BGr.row {b : Bk} {r : List Nat} (h : BGr b r) (hl : r.length = b.claim.length) : BRow b r := ⟨hl, h.nd, h.lt, fun k t ht => (bnext_some (h.go k t ht)).2.2.1⟩
theorem first_not {out : List Nat} : ∀ {l : List Nat}, (∃ t ∈ l, t ∉ out) → ∃ k t, l[k]? = some t ∧ t ∉ out ∧ ∀ s ∈ l.take k, s ∈ out
  | [], h => by simp at h
  | x :: l, h => by
    by_cases hx : x ∈ out
    · obtain ⟨k, t, h1, h2, h3⟩ := first_not (out := out) (l := l) (by
        obtain ⟨t, ht, ho⟩ := h
        rcases List.mem_cons.1 ht with rfl | ht
        · exact absurd hx ho
        · exact ⟨t, ht, ho⟩)
      exact ⟨k + 1, t, by simpa using h1, h2, fun s hs => by
        rw [List.take_succ_cons] at hs
        rcases List.mem_cons.1 hs with rfl | hs
        · exact hx
        · exact h3 s hs⟩
    · exact ⟨0, x, rfl, hx, by simp⟩
theorem bk_nodup_le : ∀ {n : Nat} {l : List Nat}, l.Nodup → (∀ i ∈ l, i < n) → l.length ≤ n
  | 0, [], _, _ => Nat.le_refl _
  | 0, a :: _, _, h => absurd (h a (by simp)) (by omega)
  | n + 1, l, hn, h => by
    by_cases hm : n ∈ l
    · have h1 := List.length_erase_of_mem hm
      have := bk_nodup_le (n := n) (List.Nodup.erase n hn) (fun i hi => by
        have h2 := h i (List.mem_of_mem_erase hi)
        have : i ≠ n := fun he => by subst he; exact (List.Nodup.not_mem_erase hn) hi
        omega)
      omega
    · have := bk_nodup_le (n := n) hn (fun i hi => by
        have h2 := h i hi
        have : i ≠ n := fun he => hm (he ▸ hi)
        omega)
      omega
theorem bgo_some {b : Bk} (ho : BOk b) {l : List Nat} (hl : BRow b l) : ∀ {n : Nat} {out : List Nat}, BGr b out → out.length + n = b.claim.length → ∃ r, bgo b n out (bfree b out) = some r
  | 0, out, _, _ => ⟨out, rfl⟩
  | n + 1, out, h, hn => by
    rw [bgo]
    cases hx : bnext b (bfree b out) out with
    | some t => 
      simp only
      rw [← bfree_app]
      exact bgo_some ho hl (h.snoc hx) (by simp; omega)
    | none =>
      exfalso
      have hex : ∃ t ∈ l, t ∉ out := by
        apply Classical.byContradiction
        intro hc
        have hsub : ∀ t ∈ l, t ∈ out := fun t ht => Classical.byContradiction fun hto => hc ⟨t, ht, hto⟩
        have h1 := isum_le (f := fun _ => 1) hl.nd hsub (fun _ _ => by omega)
        have h2 : ∀ l : List Nat, isum (fun _ => 1) l = (l.length : Int) := by
          intro l
          induction l with
          | nil => rfl
          | cons t l ih => simp only [isum, ih, List.length_cons]; omega
        rw [h2, h2] at h1
        have := hl.len
        omega
      obtain ⟨k, t, h1, h2, h3⟩ := first_not hex
      have htl := hl.lt t (List.mem_of_getElem? h1)
      have hb := bends_iff.1 (hl.go k t h1)
      have hno := bnext_none hx t htl h2
      have : bends b (bfree b out) t = true := by
        refine bends_iff.2 fun j hj => ?_
        rw [bfree_len] at hj
        have := hb j (by rw [bfree_len]; exact hj)
        rw [bfree_get hj] at this ⊢
        have := isum_le (f := fun t => g2 b.has t j) (l := l.take k) (m := out) (hl.nd.sublist (List.take_sublist k l)) h3 (fun s hs => (ho.c s j (h.lt s hs) hj).2.1)
        omega
      rw [this] at hno
      cases hno
/-- any row is enough; none comes ahead of the one that is told -/
theorem brow_of {b : Bk} (ho : BOk b) {l : List Nat} (hl : BRow b l) : ∃ r, brow b = some r ∧ BRow b r ∧ ∀ (k x y : Nat), r.take k = l.take k → r[k]? = some x → l[k]? = some y → x ≠ y → x < y := by
  obtain ⟨r, hr⟩ := bgo_some ho hl (n := b.claim.length) (out := []) (BGr.nil b) (by simp)
  obtain ⟨h1, h2⟩ := bgo_gr (BGr.nil b) (by simp) hr
  refine ⟨r, hr, h1.row h2, fun k x y hk hx hy hne => ?_⟩
  obtain ⟨a1, a2, a3, a4⟩ := bnext_some (h1.go k x hx)
  have hb := hl.go k y hy
  rw [← hk] at hb
  have hyo : y ∉ r.take k := by
    rw [hk]
    intro hm
    obtain ⟨j, hj1, hj2⟩ := List.mem_iff_getElem.1 hm
    rw [List.getElem_take] at hj2
    have hjl : j < k := by simp at hj1; omega
    obtain ⟨hkl, hy'⟩ := List.getElem?_eq_some_iff.1 hy
    have hp := List.nodup_iff_pairwise_ne.1 hl.nd
    rw [List.pairwise_iff_getElem] at hp
    exact hp j k (by omega) hkl hjl (by rw [hj2, hy'])
  have hxy : ¬ y < x := fun hlt => by
    have := a4 y hlt hyo
    rw [hb] at this
    cases this
  omega
theorem brow_row {b : Bk} {r : List Nat} (h : brow b = some r) : BRow b r := by
  obtain ⟨h1, h2⟩ := bgo_gr (BGr.nil b) (by simp) h
  exact h1.row h2
/-! more free -/
def bmore (b : Bk) (k : Nat) (more : Int) : Bk := { b with free := b.free.set k (gI b.free k + more) }
theorem gI_bset {l : List Int} {i k : Nat} {v : Int} (h : i < l.length) : gI (l.set i v) k = if k = i then v else gI l k := by
  unfold gI
  split
  · rename_i e; subst e; rw [List.getElem?_set_self h]; rfl
  · rename_i e; rw [List.getElem?_set_ne (Ne.symm e)]
theorem bmore_ok {b : Bk} (h : BOk b) {k : Nat} (hk : k < b.free.length) {more : Int} (h0 : 0 ≤ more) (h1 : gI b.free k + more ≤ 1000) : BOk (bmore b k more) := by
  have hf := h.f k hk
  refine ⟨by simpa [bmore] using h.n1, by simpa [bmore] using h.n3, h.m5, h.hl, fun t ht => by simpa [bmore] using h.cn t ht, fun j hj => ?_, fun t j ht hj => h.c t j ht (by simpa [bmore] using hj), fun t j ht hj => ?_⟩
  · have hj : j < b.free.length := by simpa [bmore] using hj
    have := h.f j hj
    simp only [bmore]
    rw [gI_bset hk]
    split <;> omega
  · have hj : j < b.free.length := by simpa [bmore] using hj
    have ha := h.a t j ht hj
    have key : ∀ (l : List (List Int)) (x y : Int), x ≤ y → l.foldl (fun s h => s + gI h j) x ≤ l.foldl (fun s h => s + gI h j) y := by
      intro l
      induction l with
      | nil => intro x y h; exact h
      | cons a l ih => intro x y h; simp only [List.foldl_cons]; exact ih _ _ (by omega)
    refine Int.le_trans ha (key b.has _ _ ?_)
    simp only [bmore]
    rw [gI_bset hk]
    split
    · rename_i e; subst e; omega
    · omega
theorem bmore_row {b : Bk} {k : Nat} (hk : k < b.free.length) {more : Int} (h0 : 0 ≤ more) {l : List Nat} (h : BRow b l) : BRow (bmore b k more) l := by
  refine ⟨h.len, h.nd, h.lt, fun i t hi => bends_iff.2 fun j hj => ?_⟩
  rw [bfree_len] at hj
  have hj' : j < b.free.length := by simpa [bmore] using hj
  have := bends_iff.1 (h.go i t hi) j (by rw [bfree_len]; exact hj')
  rw [bfree_get hj'] at this
  rw [bfree_get hj]
  simp only [bmore] at this ⊢
  rw [gI_bset hk]
  split
  · rename_i e; subst e; omega
  · omega
end Go.Proofs.YtnppmcgmmdcpiaaDoor
