import Derived.Test.YtnppmcgmmdcpiaaGreatDoorEngK
import Derived.Test.YtnppmcgmmdcpiaaGreatDoorEngJ
import Derived.Test.YtnppmcgmmdcpiaaGreatDoorRf
namespace Go.Proofs.YtnppmcgmmdcpiaaGreatDoor
open Go.Eng
set_option maxRecDepth 20000
/-! ### the bank, plain -/
structure Bk where
  free : List Int
  claim : List (List Int)
  has : List (List Int)
def g2 (l : List (List Int)) (t k : Nat) : Int := gI ((l[t]?).getD []) k
def bends (b : Bk) (free : List Int) (t : Nat) : Bool := (List.range free.length).all fun k => decide (g2 b.claim t k - g2 b.has t k ≤ gI free k)
def bnext (b : Bk) (free : List Int) (out : List Nat) : Option Nat := (List.range b.claim.length).find? fun t => !(out.contains t) && bends b free t
def badd (b : Bk) (free : List Int) (t : Nat) : List Int := (List.range free.length).map fun k => gI free k + g2 b.has t k
def bgo (b : Bk) : Nat → List Nat → List Int → Option (List Nat)
  | 0, out, _ => some out
  | n + 1, out, free => match bnext b free out with
    | none => none
    | some t => bgo b n (out ++ [t]) (badd b free t)
def brow (b : Bk) : Option (List Nat) := bgo b b.claim.length [] b.free
def bfree (b : Bk) (l : List Nat) : List Int := l.foldl (badd b) b.free
def ball (b : Bk) (k : Nat) : Int := b.has.foldl (fun s h => s + gI h k) (gI b.free k)
structure BOk (b : Bk) : Prop where
  n1 : 1 ≤ b.free.length
  n3 : b.free.length ≤ 3
  m5 : b.claim.length ≤ 5
  hl : b.has.length = b.claim.length
  cn : ∀ t, t < b.claim.length → ((b.claim[t]?).getD []).length = b.free.length ∧ ((b.has[t]?).getD []).length = b.free.length
  f : ∀ k, k < b.free.length → 0 ≤ gI b.free k ∧ gI b.free k ≤ 1000
  c : ∀ t k, t < b.claim.length → k < b.free.length → (0 ≤ g2 b.claim t k ∧ g2 b.claim t k ≤ 1000) ∧ (0 ≤ g2 b.has t k ∧ g2 b.has t k ≤ g2 b.claim t k)
  a : ∀ t k, t < b.claim.length → k < b.free.length → g2 b.claim t k ≤ ball b k
open Classical in
noncomputable def bcheck (b : Bk) : Int :=
  if b.free.length = 0 then 5 else if b.free.length > 3 ∨ b.claim.length > 5 then 4 else if b.has.length ≠ b.claim.length then 3
  else if ∃ t, t < b.claim.length ∧ (((b.claim[t]?).getD []).length ≠ b.free.length ∨ ((b.has[t]?).getD []).length ≠ b.free.length) then 3
  else if ∃ k, k < b.free.length ∧ ¬ (0 ≤ gI b.free k ∧ gI b.free k ≤ 1000) then 1
  else if ∃ t k, t < b.claim.length ∧ k < b.free.length ∧ ¬ ((0 ≤ g2 b.claim t k ∧ g2 b.claim t k ≤ 1000) ∧ (0 ≤ g2 b.has t k ∧ g2 b.has t k ≤ g2 b.claim t k)) then 1
  else if ∃ t k, t < b.claim.length ∧ k < b.free.length ∧ ¬ g2 b.claim t k ≤ ball b k then 6 else 0
theorem bcheck_zero {b : Bk} : bcheck b = 0 ↔ BOk b := by
  unfold bcheck
  constructor
  · intro h
    split at h
    · cases h
    split at h
    · cases h
    split at h
    · cases h
    split at h
    · cases h
    split at h
    · cases h
    split at h
    · cases h
    split at h
    · cases h
    rename_i h1 h2 h3 h4 h5 h6 h7
    exact ⟨by omega, by omega, by omega, Classical.byContradiction h3, fun t ht => Classical.byContradiction fun hc => h4 ⟨t, ht, by omega⟩, fun k hk => Classical.byContradiction fun hc => h5 ⟨k, hk, hc⟩, fun t k ht hk => Classical.byContradiction fun hc => h6 ⟨t, k, ht, hk, hc⟩, fun t k ht hk => Classical.byContradiction fun hc => h7 ⟨t, k, ht, hk, hc⟩⟩
  · intro h
    have := h.n1; have := h.n3; have := h.m5; have := h.hl
    rw [if_neg (by omega), if_neg (by omega), if_neg (by omega), if_neg, if_neg, if_neg, if_neg]
    · rintro ⟨t, k, ht, hk, hc⟩; exact hc (h.a t k ht hk)
    · rintro ⟨t, k, ht, hk, hc⟩; exact hc (h.c t k ht hk)
    · rintro ⟨k, hk, hc⟩; exact hc (h.f k hk)
    · rintro ⟨t, ht, hc⟩; have := h.cn t ht; omega
theorem badd_len (b : Bk) (free : List Int) (t : Nat) : (badd b free t).length = free.length := by simp [badd]
theorem bfree_len (b : Bk) : ∀ l : List Nat, (bfree b l).length = b.free.length := by
  have key : ∀ (l : List Nat) (f : List Int), (l.foldl (badd b) f).length = f.length := by
    intro l
    induction l with
    | nil => intro f; rfl
    | cons t l ih => intro f; rw [List.foldl_cons, ih, badd_len]
  exact fun l => key l _
theorem badd_get {b : Bk} {free : List Int} {t k : Nat} (hk : k < free.length) : gI (badd b free t) k = gI free k + g2 b.has t k := by
  rw [badd]
  conv => lhs; unfold gI
  rw [List.getElem?_map, List.getElem?_range hk]
  rfl
def isum (f : Nat → Int) : List Nat → Int
  | [] => 0
  | t :: l => f t + isum f l
theorem isum_perm {f : Nat → Int} {l m : List Nat} (h : l.Perm m) : isum f l = isum f m := by
  induction h with
  | nil => rfl
  | cons x _ ih => simp [isum, ih]
  | swap x y l => simp only [isum]; omega
  | trans _ _ h1 h2 => exact h1.trans h2
theorem isum_app {f : Nat → Int} : ∀ {l m : List Nat}, isum f (l ++ m) = isum f l + isum f m
  | [], _ => by simp [isum]
  | t :: l, m => by simp only [List.cons_append, isum]; rw [isum_app]; omega
theorem isum_nn {f : Nat → Int} : ∀ {l : List Nat}, (∀ t ∈ l, 0 ≤ f t) → 0 ≤ isum f l
  | [], _ => by simp [isum]
  | t :: l, h => by
    have := isum_nn (f := f) (l := l) (fun t ht => h t (by simp [ht]))
    have := h t (by simp)
    simp only [isum]; omega
theorem isum_le {f : Nat → Int} : ∀ {l m : List Nat}, l.Nodup → (∀ t ∈ l, t ∈ m) → (∀ t ∈ m, 0 ≤ f t) → isum f l ≤ isum f m
  | [], m, _, _, h => isum_nn h
  | t :: l, m, hn, hs, h => by
    have ht := hs t (by simp)
    have hp := List.perm_cons_erase ht
    rw [isum_perm hp]
    simp only [isum]
    obtain ⟨h1, h2⟩ := List.nodup_cons.1 hn
    have := isum_le (f := f) (l := l) (m := m.erase t) h2 (fun x hx => (List.mem_erase_of_ne (fun hc => h1 (by rw [← hc]; exact hx))).2 (hs x (by simp [hx]))) (fun x hx => h x (List.mem_of_mem_erase hx))
    omega
theorem bfree_get {b : Bk} {k : Nat} (hk : k < b.free.length) : ∀ l : List Nat, gI (bfree b l) k = gI b.free k + isum (fun t => g2 b.has t k) l := by
  have key : ∀ (l : List Nat) (f : List Int), k < f.length → gI (l.foldl (badd b) f) k = gI f k + isum (fun t => g2 b.has t k) l := by
    intro l
    induction l with
    | nil => intro f _; simp [isum]
    | cons t l ih => intro f hf; rw [List.foldl_cons, ih _ (by rw [badd_len]; exact hf), badd_get hf]; simp only [isum]; omega
  exact fun l => key l _ hk
theorem bfree_app (b : Bk) (l : List Nat) (t : Nat) : bfree b (l ++ [t]) = badd b (bfree b l) t := by rw [bfree, List.foldl_append]; rfl
/-- a row along which all can end -/
structure BRow (b : Bk) (l : List Nat) : Prop where
  len : l.length = b.claim.length
  nd : l.Nodup
  lt : ∀ t ∈ l, t < b.claim.length
  go : ∀ (k t : Nat), l[k]? = some t → bends b (bfree b (l.take k)) t = true
theorem bends_iff {b : Bk} {free : List Int} {t : Nat} : bends b free t = true ↔ ∀ k, k < free.length → g2 b.claim t k - g2 b.has t k ≤ gI free k := by
  unfold bends
  rw [List.all_eq_true]
  exact ⟨fun h k hk => of_decide_eq_true (h k (List.mem_range.2 hk)), fun h k hk => decide_eq_true (h k (List.mem_range.1 hk))⟩
theorem bnext_some {b : Bk} {free : List Int} {out : List Nat} {t : Nat} (h : bnext b free out = some t) : t < b.claim.length ∧ t ∉ out ∧ bends b free t = true ∧ ∀ s, s < t → s ∉ out → bends b free s = false := by
  unfold bnext at h
  rw [List.find?_range_eq_some] at h
  obtain ⟨h1, h2, h3⟩ := h
  simp at h1 h2 h3
  refine ⟨h2, h1.1, h1.2, fun s hs ho => (h3 s hs).resolve_left ho⟩
theorem bnext_none {b : Bk} {free : List Int} {out : List Nat} (h : bnext b free out = none) : ∀ t, t < b.claim.length → t ∉ out → bends b free t = false := by
  intro t ht ho
  unfold bnext at h
  rw [List.find?_eq_none] at h
  have := h t (List.mem_range.2 ht)
  simpa [ho] using this
/-- what is told is taken least first -/
structure BGr (b : Bk) (r : List Nat) : Prop where
  lt : ∀ t ∈ r, t < b.claim.length
  nd : r.Nodup
  go : ∀ (k t : Nat), r[k]? = some t → bnext b (bfree b (r.take k)) (r.take k) = some t
theorem BGr.nil (b : Bk) : BGr b [] := ⟨by simp, by simp, by simp⟩
theorem BGr.snoc {b : Bk} {r : List Nat} (h : BGr b r) {t : Nat} (ht : bnext b (bfree b r) r = some t) : BGr b (r ++ [t]) := by
  obtain ⟨h1, h2, h3, h4⟩ := bnext_some ht
  refine ⟨fun s hs => ?_, List.nodup_append.2 ⟨h.nd, by simp, fun a ha c hc => ?_⟩, fun k s hs => ?_⟩
  · rcases List.mem_append.1 hs with hs | hs
    · exact h.lt s hs
    · simp only [List.mem_singleton] at hs; omega
  · simp only [List.mem_singleton] at hc
    subst hc
    exact fun he => h2 (he ▸ ha)
  · by_cases hk : k < r.length
    · rw [List.getElem?_append_left hk] at hs
      rw [List.take_append_of_le_length (by omega)]
      exact h.go k s hs
    · rw [List.getElem?_append_right (by omega)] at hs
      obtain ⟨h5, h6⟩ := List.getElem?_eq_some_iff.1 hs
      simp at h5
      obtain rfl : k = r.length := by omega
      have h6 : t = s := by rw [← h6]; simp
      subst h6
      simp [ht]
theorem bgo_gr {b : Bk} : ∀ {n : Nat} {out r : List Nat}, BGr b out → out.length + n = b.claim.length → bgo b n out (bfree b out) = some r → BGr b r ∧ r.length = b.claim.length
  | 0, out, r, h, hn, hr => by
    simp only [bgo, Option.some.injEq] at hr
    subst hr
    exact ⟨h, by omega⟩
  | n + 1, out, r, h, hn, hr => by
    rw [bgo] at hr
    cases hx : bnext b (bfree b out) out with
    | none => rw [hx] at hr; cases hr
    | some t =>
      rw [hx] at hr
      simp only at hr
      rw [← bfree_app] at hr
      exact bgo_gr (h.snoc hx) (by simp; omega) hr
theorem BGr.row {b : Bk} {r : List Nat} (h : BGr b r) (hl : r.length = b.claim.length) : BRow b r := ⟨hl, h.nd, h.lt, fun k t ht => (bnext_some (h.go k t ht)).2.2.1⟩
theorem first_not {out : List Nat} : ∀ {l : List Nat}, (∃ t ∈ l, t ∉ out) → ∃ k t, l[k]? = some t ∧ t ∉ out ∧ ∀ s ∈ l.take k, s ∈ out
  | [], h => by simp at h
  | x :: l, h => by
    by_cases hx : x ∈ out
    · obtain ⟨k, t, h1, h2, h3⟩ := first_not (out := out) (l := l) (by
        obtain ⟨t, ht, ho⟩ := h
        rcases List.mem_cons.1 ht with rfl | ht
        · exact absurd hx ho
        · exact ⟨t, ht, ho⟩)
      exact ⟨k + 1, t, by simpa using h1, h2, fun s hs => by
        rw [List.take_succ_cons] at hs
        rcases List.mem_cons.1 hs with rfl | hs
        · exact hx
        · exact h3 s hs⟩
    · exact ⟨0, x, rfl, hx, by simp⟩
theorem bk_nodup_le : ∀ {n : Nat} {l : List Nat}, l.Nodup → (∀ i ∈ l, i < n) → l.length ≤ n
  | 0, [], _, _ => Nat.le_refl _
  | 0, a :: _, _, h => absurd (h a (by simp)) (by omega)
  | n + 1, l, hn, h => by
    by_cases hm : n ∈ l
    · have h1 := List.length_erase_of_mem hm
      have := bk_nodup_le (n := n) (List.Nodup.erase n hn) (fun i hi => by
        have h2 := h i (List.mem_of_mem_erase hi)
        have : i ≠ n := fun he => by subst he; exact (List.Nodup.not_mem_erase hn) hi
        omega)
      omega
    · have := bk_nodup_le (n := n) hn (fun i hi => by
        have h2 := h i hi
        have : i ≠ n := fun he => hm (he ▸ hi)
        omega)
      omega
theorem bgo_some {b : Bk} (ho : BOk b) {l : List Nat} (hl : BRow b l) : ∀ {n : Nat} {out : List Nat}, BGr b out → out.length + n = b.claim.length → ∃ r, bgo b n out (bfree b out) = some r
  | 0, out, _, _ => ⟨out, rfl⟩
  | n + 1, out, h, hn => by
    rw [bgo]
    cases hx : bnext b (bfree b out) out with
    | some t => 
      simp only
      rw [← bfree_app]
      exact bgo_some ho hl (h.snoc hx) (by simp; omega)
    | none =>
      exfalso
      have hex : ∃ t ∈ l, t ∉ out := by
        apply Classical.byContradiction
        intro hc
        have hsub : ∀ t ∈ l, t ∈ out := fun t ht => Classical.byContradiction fun hto => hc ⟨t, ht, hto⟩
        have h1 := isum_le (f := fun _ => 1) hl.nd hsub (fun _ _ => by omega)
        have h2 : ∀ l : List Nat, isum (fun _ => 1) l = (l.length : Int) := by
          intro l
          induction l with
          | nil => rfl
          | cons t l ih => simp only [isum, ih, List.length_cons]; omega
        rw [h2, h2] at h1
        have := hl.len
        omega
      obtain ⟨k, t, h1, h2, h3⟩ := first_not hex
      have htl := hl.lt t (List.mem_of_getElem? h1)
      have hb := bends_iff.1 (hl.go k t h1)
      have hno := bnext_none hx t htl h2
      have : bends b (bfree b out) t = true := by
        refine bends_iff.2 fun j hj => ?_
        rw [bfree_len] at hj
        have := hb j (by rw [bfree_len]; exact hj)
        rw [bfree_get hj] at this ⊢
        have := isum_le (f := fun t => g2 b.has t j) (l := l.take k) (m := out) (hl.nd.sublist (List.take_sublist k l)) h3 (fun s hs => (ho.c s j (h.lt s hs) hj).2.1)
        omega
      rw [this] at hno
      cases hno
/-- any row is enough; none comes ahead of the one that is told -/
theorem brow_of {b : Bk} (ho : BOk b) {l : List Nat} (hl : BRow b l) : ∃ r, brow b = some r ∧ BRow b r ∧ ∀ (k x y : Nat), r.take k = l.take k → r[k]? = some x → l[k]? = some y → x ≠ y → x < y := by
  obtain ⟨r, hr⟩ := bgo_some ho hl (n := b.claim.length) (out := []) (BGr.nil b) (by simp)
  obtain ⟨h1, h2⟩ := bgo_gr (BGr.nil b) (by simp) hr
  refine ⟨r, hr, h1.row h2, fun k x y hk hx hy hne => ?_⟩
  obtain ⟨a1, a2, a3, a4⟩ := bnext_some (h1.go k x hx)
  have hb := hl.go k y hy
  rw [← hk] at hb
  have hyo : y ∉ r.take k := by
    rw [hk]
    intro hm
    obtain ⟨j, hj1, hj2⟩ := List.mem_iff_getElem.1 hm
    rw [List.getElem_take] at hj2
    have hjl : j < k := by simp at hj1; omega
    obtain ⟨hkl, hy'⟩ := List.getElem?_eq_some_iff.1 hy
    have hp := List.nodup_iff_pairwise_ne.1 hl.nd
    rw [List.pairwise_iff_getElem] at hp
    exact hp j k (by omega) hkl hjl (by rw [hj2, hy'])
  have hxy : ¬ y < x := fun hlt => by
    have := a4 y hlt hyo
    rw [hb] at this
    cases this
  omega
theorem brow_row {b : Bk} {r : List Nat} (h : brow b = some r) : BRow b r := by
  obtain ⟨h1, h2⟩ := bgo_gr (BGr.nil b) (by simp) h
  exact h1.row h2
/-! more free -/
def bmore (b : Bk) (k : Nat) (more : Int) : Bk := { b with free := b.free.set k (gI b.free k + more) }
theorem gI_bset {l : List Int} {i k : Nat} {v : Int} (h : i < l.length) : gI (l.set i v) k = if k = i then v else gI l k := by
  unfold gI
  split
  · rename_i e; subst e; rw [List.getElem?_set_self h]; rfl
  · rename_i e; rw [List.getElem?_set_ne (Ne.symm e)]
theorem bmore_ok {b : Bk} (h : BOk b) {k : Nat} (hk : k < b.free.length) {more : Int} (h0 : 0 ≤ more) (h1 : gI b.free k + more ≤ 1000) : BOk (bmore b k more) := by
  have hf := h.f k hk
  refine ⟨by simpa [bmore] using h.n1, by simpa [bmore] using h.n3, h.m5, h.hl, fun t ht => by simpa [bmore] using h.cn t ht, fun j hj => ?_, fun t j ht hj => h.c t j ht (by simpa [bmore] using hj), fun t j ht hj => ?_⟩
  · have hj : j < b.free.length := by simpa [bmore] using hj
    have := h.f j hj
    simp only [bmore]
    rw [gI_bset hk]
    split <;> omega
  · have hj : j < b.free.length := by simpa [bmore] using hj
    have ha := h.a t j ht hj
    have key : ∀ (l : List (List Int)) (x y : Int), x ≤ y → l.foldl (fun s h => s + gI h j) x ≤ l.foldl (fun s h => s + gI h j) y := by
      intro l
      induction l with
      | nil => intro x y h; exact h
      | cons a l ih => intro x y h; simp only [List.foldl_cons]; exact ih _ _ (by omega)
    refine Int.le_trans ha (key b.has _ _ ?_)
    simp only [bmore]
    rw [gI_bset hk]
    split
    · rename_i e; subst e; omega
    · omega
theorem bmore_row {b : Bk} {k : Nat} (hk : k < b.free.length) {more : Int} (h0 : 0 ≤ more) {l : List Nat} (h : BRow b l) : BRow (bmore b k more) l := by
  refine ⟨h.len, h.nd, h.lt, fun i t hi => bends_iff.2 fun j hj => ?_⟩
  rw [bfree_len] at hj
  have hj' : j < b.free.length := by simpa [bmore] using hj
  have := bends_iff.1 (h.go i t hi) j (by rw [bfree_len]; exact hj')
  rw [bfree_get hj'] at this
  rw [bfree_get hj]
  simp only [bmore] at this ⊢
  rw [gI_bset hk]
  split
  · rename_i e; subst e; omega
  · omega
end Go.Proofs.YtnppmcgmmdcpiaaGreatDoor
namespace Go.Proofs.YtnppmcgmmdcpiaaGreatDoor
open Go.Eng
set_option maxRecDepth 20000
/-! ### the bank, plain: what is moved, and rows from some place on -/
theorem gI_ext {l m : List Int} (h : l.length = m.length) (hg : ∀ k, k < l.length → gI l k = gI m k) : l = m := by
  refine List.ext_getElem h fun k h1 h2 => ?_
  have := hg k h1
  unfold gI at this
  rw [List.getElem?_eq_getElem h1, List.getElem?_eq_getElem h2] at this
  exact this
theorem gI_rm {n k : Nat} {f : Nat → Int} (h : k < n) : gI ((List.range n).map f) k = f k := by
  unfold gI; rw [List.getElem?_map, List.getElem?_range h]; rfl
theorem g2_set {l : List (List Int)} {t s k : Nat} {r : List Int} (h : t < l.length) : g2 (l.set t r) s k = if s = t then gI r k else g2 l s k := by
  unfold g2
  by_cases hs : s = t
  · subst hs; rw [List.getElem?_set_self h, if_pos rfl]; rfl
  · rw [List.getElem?_set_ne (fun e => hs e.symm), if_neg hs]
theorem fold_set (k : Nat) : ∀ (l : List (List Int)) (t : Nat) (r : List Int) (x : Int), t < l.length → (l.set t r).foldl (fun s h => s + gI h k) x = l.foldl (fun s h => s + gI h k) x + (gI r k - g2 l t k) := by
  have sh : ∀ (l : List (List Int)) (x d : Int), l.foldl (fun s h => s + gI h k) (x + d) = l.foldl (fun s h => s + gI h k) x + d := by
    intro l
    induction l with
    | nil => intro x d; rfl
    | cons a l ih => intro x d; simp only [List.foldl_cons]; rw [← ih]; congr 1; omega
  intro l
  induction l with
  | nil => intro t r x h; simp at h
  | cons a l ih =>
    intro t r x h
    cases t with
    | zero =>
      simp only [List.set_cons_zero, List.foldl_cons]
      rw [← sh]
      congr 1
      show x + gI r k = x + gI a k + (gI r k - gI a k)
      omega
    | succ t =>
      simp only [List.set_cons_succ, List.foldl_cons]
      exact ih t r _ (by simpa using h)
theorem fold_shift (k : Nat) : ∀ (l : List (List Int)) (x d : Int), l.foldl (fun s h => s + gI h k) (x + d) = l.foldl (fun s h => s + gI h k) x + d := by
  intro l
  induction l with
  | nil => intro x d; rfl
  | cons a l ih => intro x d; simp only [List.foldl_cons]; rw [← ih]; congr 1; omega
def bmv (b : Bk) (t : Nat) (want : List Int) (s : Int) : Bk :=
  { b with free := (List.range b.free.length).map fun k => gI b.free k - s * gI want k, has := b.has.set t ((List.range b.free.length).map fun k => g2 b.has t k + s * gI want k) }
theorem bmv_fl {b : Bk} {t : Nat} {want : List Int} {s : Int} : (bmv b t want s).free.length = b.free.length := by simp [bmv]
theorem bmv_free {b : Bk} {t : Nat} {want : List Int} {s : Int} {k : Nat} (h : k < b.free.length) : gI (bmv b t want s).free k = gI b.free k - s * gI want k := gI_rm h
theorem bmv_has {b : Bk} {t : Nat} {want : List Int} {s : Int} {u k : Nat} (ht : t < b.has.length) (h : k < b.free.length) : g2 (bmv b t want s).has u k = if u = t then g2 b.has t k + s * gI want k else g2 b.has u k := by
  show g2 (b.has.set t _) u k = _
  rw [g2_set ht, gI_rm h]
theorem bmv_ball {b : Bk} {t : Nat} {want : List Int} {s : Int} {k : Nat} (ht : t < b.has.length) (h : k < b.free.length) : ball (bmv b t want s) k = ball b k := by
  show (b.has.set t _).foldl (fun s h => s + gI h k) (gI (bmv b t want s).free k) = _
  rw [fold_set k _ _ _ _ ht, bmv_free h, gI_rm h, show gI b.free k - s * gI want k = gI b.free k + (- (s * gI want k)) by omega, fold_shift]
  show ball b k + _ + _ = _
  omega
theorem bmv_ok {b : Bk} (ho : BOk b) {t : Nat} {want : List Int} {s : Int} (ht : t < b.claim.length) (hf : ∀ k, k < b.free.length → 0 ≤ gI b.free k - s * gI want k ∧ gI b.free k - s * gI want k ≤ 1000)
    (hh : ∀ k, k < b.free.length → 0 ≤ g2 b.has t k + s * gI want k ∧ g2 b.has t k + s * gI want k ≤ g2 b.claim t k) : BOk (bmv b t want s) := by
  have hl := ho.hl
  have htl : t < b.has.length := by omega
  refine ⟨by rw [bmv_fl]; exact ho.n1, by rw [bmv_fl]; exact ho.n3, ho.m5, by simp [bmv, hl], fun u hu => ?_, fun k hk => ?_, fun u k hu hk => ?_, fun u k hu hk => ?_⟩
  · rw [bmv_fl]
    refine ⟨(ho.cn u hu).1, ?_⟩
    show ((b.has.set t _)[u]?.getD []).length = _
    by_cases he : u = t
    · subst he; rw [List.getElem?_set_self htl]; simp
    · rw [List.getElem?_set_ne (fun e => he e.symm)]; exact (ho.cn u hu).2
  · rw [bmv_fl] at hk
    rw [bmv_free hk]; exact hf k hk
  · rw [bmv_fl] at hk
    rw [bmv_has htl hk]
    refine ⟨(ho.c u k hu hk).1, ?_⟩
    split
    · rename_i e; subst e; exact hh k hk
    · exact (ho.c u k hu hk).2
  · rw [bmv_fl] at hk
    rw [bmv_ball htl hk]
    exact ho.a u k hu hk
theorem bmv_back {b : Bk} (ho : BOk b) {t : Nat} {want : List Int} (ht : t < b.claim.length) : bmv (bmv b t want 1) t want (-1) = b := by
  have hl := ho.hl
  have htl : t < b.has.length := by omega
  have htl2 : t < (bmv b t want 1).has.length := by simp [bmv]; omega
  obtain ⟨f, c, h⟩ := b
  have e1 : (bmv (bmv ⟨f, c, h⟩ t want 1) t want (-1)).free = f := by
    refine gI_ext (by rw [bmv_fl, bmv_fl]) fun k hk => ?_
    rw [bmv_fl, bmv_fl] at hk
    rw [bmv_free (by rw [bmv_fl]; exact hk), bmv_free hk]
    dsimp only
    omega
  have e2 : (bmv (bmv ⟨f, c, h⟩ t want 1) t want (-1)).has = h := by
    show ((h.set t _).set t _) = h
    rw [List.set_set]
    refine List.ext_getElem? fun i => ?_
    by_cases hi : i = t
    · subst hi
      rw [List.getElem?_set_self htl, List.getElem?_eq_getElem htl]
      congr 1
      have hn := (ho.cn i ht).2
      dsimp only at hn htl
      rw [List.getElem?_eq_getElem htl] at hn
      simp only [Option.getD_some] at hn
      refine gI_ext ?_ fun k hk => ?_
      · rw [List.length_map, List.length_range, bmv_fl]; exact hn.symm
      · have hk : k < f.length := by rwa [List.length_map, List.length_range, bmv_fl] at hk
        rw [gI_rm (by rw [bmv_fl]; exact hk), bmv_has htl hk, if_pos rfl]
        have : g2 h i k = gI h[i] k := by unfold g2; rw [List.getElem?_eq_getElem htl]; rfl
        dsimp only
        rw [this]
        omega
    · rw [List.getElem?_set_ne (fun e => hi e.symm)]
  show Bk.mk _ _ _ = _
  exact congr (congrArg (fun a => Bk.mk a c) e1) e2
/-- rows from some place on -/
structure Cmp (b : Bk) (out l : List Nat) : Prop where
  len : out.length + l.length = b.claim.length
  nd : (out ++ l).Nodup
  lt : ∀ t ∈ out ++ l, t < b.claim.length
  go : ∀ (k t : Nat), l[k]? = some t → bends b (bfree b (out ++ l.take k)) t = true
theorem bends_more {b : Bk} (ho : BOk b) {p q : List Nat} {t : Nat} (hn : p.Nodup) (hs : ∀ s ∈ p, s ∈ q) (hq : ∀ s ∈ q, s < b.claim.length) (h : bends b (bfree b p) t = true) : bends b (bfree b q) t = true := by
  refine bends_iff.2 fun j hj => ?_
  rw [bfree_len] at hj
  have := bends_iff.1 h j (by rw [bfree_len]; exact hj)
  rw [bfree_get hj] at this ⊢
  have := isum_le (f := fun t => g2 b.has t j) hn hs (fun s hs => (ho.c s j (hq s hs) hj).2.1)
  omega
theorem Cmp.mem {b : Bk} {out l : List Nat} (h : Cmp b out l) {t : Nat} (ht : t < b.claim.length) (hn : t ∉ out) : t ∈ l := by
  have hp : ∀ {n : Nat} {l : List Nat}, l.Nodup → l.length = n → (∀ i ∈ l, i < n) → t < n → t ∈ l := by
    intro n l h1 h2 h3 h4
    apply Classical.byContradiction
    intro hc
    have := bk_nodup_le (n := n) (l := t :: l) (List.nodup_cons.2 ⟨hc, h1⟩) (fun i hi => by
      rcases List.mem_cons.1 hi with rfl | hi
      · exact h4
      · exact h3 i hi)
    simp at this
    omega
  have := hp h.nd (by rw [List.length_append]; exact h.len) h.lt ht
  exact (List.mem_append.1 this).resolve_left hn
theorem Cmp.first {b : Bk} (ho : BOk b) {out l : List Nat} (h : Cmp b out l) {t : Nat} (ht : t ∈ l) (hb : bends b (bfree b out) t = true) : Cmp b (out ++ [t]) (l.erase t) := by
  obtain ⟨A, C, hA, hl, he⟩ := List.exists_erase_eq ht
  subst hl
  rw [he]
  have hlen := h.len
  have hnd := h.nd
  have hlt := h.lt
  have hp : (out ++ (A ++ t :: C)).Perm (out ++ [t] ++ (A ++ C)) := by
    rw [List.append_assoc]
    exact List.Perm.append_left _ (List.perm_middle.trans (by simp))
  refine ⟨by simp at hlen ⊢; omega, hp.nodup_iff.1 hnd, fun x hx => hlt x (hp.mem_iff.2 hx), fun k x hk => ?_⟩
  have hsub : ∀ s ∈ (out ++ [t]) ++ (A ++ C).take k, s < b.claim.length := fun s hs => by
    refine hlt s (hp.mem_iff.2 ?_)
    simp only [List.mem_append] at hs ⊢
    rcases hs with hs | hs
    · exact .inl hs
    · exact .inr (List.mem_append.1 (List.mem_of_mem_take hs))
  by_cases hka : k < A.length
  · have hx : (A ++ t :: C)[k]? = some x := by rw [List.getElem?_append_left hka] at hk ⊢; exact hk
    have := h.go k x hx
    refine bends_more ho ?_ ?_ hsub this
    · exact hnd.sublist (List.Sublist.append_left (List.take_sublist _ _) _)
    · intro s hs
      rw [List.take_append_of_le_length (by omega)] at hs ⊢
      simp only [List.mem_append] at hs ⊢
      rcases hs with hs | hs
      · exact .inl (.inl hs)
      · exact .inr hs
  · have hx : (A ++ t :: C)[k + 1]? = some x := by
      rw [List.getElem?_append_right (by omega)] at hk ⊢
      rw [show k + 1 - A.length = k - A.length + 1 by omega, List.getElem?_cons_succ]
      exact hk
    have := h.go (k + 1) x hx
    refine bends_more ho ?_ ?_ hsub this
    · exact hnd.sublist (List.Sublist.append_left (List.take_sublist _ _) _)
    · intro s hs
      rw [List.take_append, List.take_of_length_le (show A.length ≤ k + 1 by omega), show k + 1 - A.length = k - A.length + 1 by omega, List.take_succ_cons] at hs
      rw [List.take_append, List.take_of_length_le (show A.length ≤ k by omega)]
      simp only [List.mem_append, List.mem_cons, List.mem_nil_iff, or_false] at hs ⊢
      rcases hs with hs | hs | hs | hs
      · exact .inl (.inl hs)
      · exact .inr (.inl hs)
      · exact .inl (.inr hs)
      · exact .inr (.inr hs)
theorem bgo_cmp {b : Bk} (ho : BOk b) : ∀ {n : Nat} {out l : List Nat}, out.length + n = b.claim.length → Cmp b out l → ∃ r, bgo b n out (bfree b out) = some r
  | 0, out, _, _, _ => ⟨out, rfl⟩
  | n + 1, out, l, hn, h => by
    rw [bgo]
    cases hx : bnext b (bfree b out) out with
    | some t =>
      obtain ⟨h1, h2, h3, h4⟩ := bnext_some hx
      dsimp only
      rw [← bfree_app]
      exact bgo_cmp ho (by simp; omega) (h.first ho (h.mem h1 h2) h3)
    | none =>
      exfalso
      have hl : 0 < l.length := by have := h.len; omega
      obtain ⟨t, ht⟩ : ∃ t, l[0]? = some t := ⟨_, List.getElem?_eq_getElem hl⟩
      have hb := h.go 0 t ht
      simp only [List.take_zero, List.append_nil] at hb
      have hm := List.mem_of_getElem? ht
      have hno := bnext_none hx t (h.lt t (by simp [hm])) (fun hc => (List.nodup_append.1 h.nd).2.2 t hc t hm rfl)
      rw [hb] at hno; cases hno
theorem Cmp.cons {b : Bk} {out l : List Nat} {t : Nat} (h : Cmp b (out ++ [t]) l) (hb : bends b (bfree b out) t = true) : Cmp b out (t :: l) := by
  refine ⟨by have := h.len; simp at this ⊢; omega, by simpa using h.nd, fun x hx => h.lt x (by simpa using hx), fun k x hk => ?_⟩
  cases k with
  | zero => simp at hk; subst hk; simpa using hb
  | succ k =>
    have := h.go k x (by simpa using hk)
    simpa using this
theorem bgo_out {b : Bk} : ∀ {n : Nat} {out r : List Nat}, out.length + n = b.claim.length → out.Nodup → (∀ t ∈ out, t < b.claim.length) → bgo b n out (bfree b out) = some r → ∃ l, r = out ++ l ∧ Cmp b out l
  | 0, out, r, hn, hd, hlt, hr => by
    simp only [bgo, Option.some.injEq] at hr
    subst hr
    exact ⟨[], by simp, by simpa using hn, by simpa using hd, by simpa using hlt, by simp⟩
  | n + 1, out, r, hn, hd, hlt, hr => by
    rw [bgo] at hr
    cases hx : bnext b (bfree b out) out with
    | none => rw [hx] at hr; cases hr
    | some t =>
      rw [hx] at hr
      dsimp only at hr
      rw [← bfree_app] at hr
      obtain ⟨h1, h2, h3, h4⟩ := bnext_some hx
      obtain ⟨l, rfl, hl⟩ := bgo_out (out := out ++ [t]) (by simp; omega) (List.nodup_append.2 ⟨hd, by simp, by simp; exact fun a ha e => h2 (e ▸ ha)⟩) (fun s hs => by
        simp only [List.mem_append, List.mem_singleton] at hs
        rcases hs with hs | rfl
        · exact hlt s hs
        · exact h1) hr
      exact ⟨t :: l, by simp, hl.cons h3⟩
/-- where the first that can end leads nowhere, none does -/
theorem bgo_none {b : Bk} (ho : BOk b) {n : Nat} {out : List Nat} (hn : out.length + (n + 1) = b.claim.length) (hd : out.Nodup) (hlt : ∀ t ∈ out, t < b.claim.length) (h : bgo b (n + 1) out (bfree b out) = none)
    {t : Nat} (ht : t < b.claim.length) (hto : t ∉ out) (hb : bends b (bfree b out) t = true) : bgo b n (out ++ [t]) (bfree b (out ++ [t])) = none := by
  cases hx : bgo b n (out ++ [t]) (bfree b (out ++ [t])) with
  | none => rfl
  | some r =>
    obtain ⟨l, _, hl⟩ := bgo_out (out := out ++ [t]) (by simp; omega) (List.nodup_append.2 ⟨hd, by simp, by simp; exact fun a ha e => hto (e ▸ ha)⟩) (fun s hs => by
      simp only [List.mem_append, List.mem_singleton] at hs
      rcases hs with hs | rfl
      · exact hlt s hs
      · exact ht) hx
    obtain ⟨r2, h2⟩ := bgo_cmp ho hn (hl.cons hb)
    rw [h2] at h; cases h
/-- what is lent leaves it safe only if it was -/
theorem bmv_safe {b : Bk} (ho : BOk b) {t : Nat} {want : List Int} (ht : t < b.claim.length) (hw : ∀ k, k < b.free.length → 0 ≤ gI want k) {l : List Nat} (hl : BRow (bmv b t want 1) l) : BRow b l := by
  have hh := ho.hl
  have htl : t < b.has.length := by omega
  refine ⟨hl.len, hl.nd, hl.lt, fun k u hk => bends_iff.2 fun j hj => ?_⟩
  rw [bfree_len] at hj
  have hu : u < b.claim.length := hl.lt u (List.mem_of_getElem? hk)
  have h1 := bends_iff.1 (hl.go k u hk) j (by rw [bfree_len, bmv_fl]; exact hj)
  rw [bfree_get (by rw [bmv_fl]; exact hj), bmv_free hj, bmv_has htl hj] at h1
  rw [bfree_get hj]
  have hw := hw j hj
  have key : ∀ p : List Nat, p.Nodup → isum (fun u => g2 (bmv b t want 1).has u j) p = isum (fun u => g2 b.has u j) p + if t ∈ p then gI want j else 0 := by
    intro p
    induction p with
    | nil => intro _; simp [isum]
    | cons x p ih =>
      intro hp
      obtain ⟨h8, h9⟩ := List.nodup_cons.1 hp
      simp only [isum]
      rw [ih h9, bmv_has htl hj]
      by_cases hx : x = t
      · subst hx; rw [if_pos rfl, if_neg h8, if_pos (by simp)]; omega
      · rw [if_neg hx]
        by_cases hm : t ∈ p
        · rw [if_pos hm, if_pos (by simp [hm])]; omega
        · rw [if_neg hm, if_neg (by simp [hm]; exact fun e => hx e.symm)]; omega
  rw [key _ (hl.nd.sublist (List.take_sublist _ _))] at h1
  have hc : g2 (bmv b t want 1).claim u j = g2 b.claim u j := rfl
  rw [hc] at h1
  by_cases hut : u = t
  · subst hut
    have hnt : u ∉ l.take k := fun hm => by
      obtain ⟨i, hi1, hi2⟩ := List.mem_iff_getElem.1 hm
      rw [List.getElem_take] at hi2
      have hik : i < k := by simp at hi1; omega
      obtain ⟨hkl, hk'⟩ := List.getElem?_eq_some_iff.1 hk
      have hp := List.nodup_iff_pairwise_ne.1 hl.nd
      rw [List.pairwise_iff_getElem] at hp
      exact hp i k (by omega) hkl hik (by rw [hi2, hk'])
    rw [if_pos rfl, if_neg hnt] at h1
    omega
  · rw [if_neg hut] at h1
    split at h1 <;> omega
end Go.Proofs.YtnppmcgmmdcpiaaGreatDoor
namespace Go.Proofs.YtnppmcgmmdcpiaaGreatDoor
open Go.Eng
set_option maxRecDepth 20000
/-! ### hands, and words that are changed if they are as told -/
theorem within_i {n lo hi : Int} {h : H} {post : Value → H → Prop} (h1 : ¬ (lo ≤ n ∧ n ≤ hi) → post (.bool false) h) (h2 : lo ≤ n → n ≤ hi → post (.bool true) h) : SemCall Tryz.prog 95 (List.toArray [.int .i64 n, .int .i64 lo, .int .i64 hi]) h post := by
  refine within_c ?_
  by_cases h : lo ≤ n ∧ n ≤ hi
  · rw [decide_eq_true h]; exact h2 h.1 h.2
  · rw [decide_eq_false h]; exact h1 h
end Go.Proofs.YtnppmcgmmdcpiaaGreatDoor
namespace Go.Proofs.YtnppmcgmmdcpiaaGreatDoor
open Go.Eng
set_option maxRecDepth 20000
/-! ### the bank, walked -/
structure BkRd (h : H) (sf sc sh : SV) (b : Bk) : Prop where
  f : RdSl h sf (ints b.free)
  c : ∃ rc, RdRowsOf h sc rc ∧ rc.map Prod.snd = b.claim
  h : ∃ rh, RdRowsOf h sh rh ∧ rh.map Prod.snd = b.has
theorem BkRd.mono {h h2 : H} {sf sc sh : SV} {b : Bk} (r : BkRd h sf sc sh b) (hs : ∀ e ∈ h.own, e ∈ h2.own) (hr : ∀ a v, h.ro a = some v → h2.ro a = some v) : BkRd h2 sf sc sh b := by
  obtain ⟨f, ⟨rc, c1, c2⟩, ⟨rh, h1, h2⟩⟩ := r
  exact ⟨f.mono hs hr, ⟨rc, c1.mono hs hr, c2⟩, ⟨rh, h1.mono hs hr, h2⟩⟩
theorem rowsof_len {h : H} {s : SV} {rc : List (SV × List Int)} {l : List (List Int)} (r : RdRowsOf h s rc) (e : rc.map Prod.snd = l) : s.len = l.length := by
  have := r.1.len
  rw [← e]
  simpa using this
theorem BkRd.fl {h : H} {sf sc sh : SV} {b : Bk} (r : BkRd h sf sc sh b) : sf.len = b.free.length := by have := r.f.len; rwa [ints_length] at this
theorem BkRd.cl {h : H} {sf sc sh : SV} {b : Bk} (r : BkRd h sf sc sh b) : sc.len = b.claim.length := by obtain ⟨rc, h1, h2⟩ := r.c; exact rowsof_len h1 h2
theorem BkRd.hl {h : H} {sf sc sh : SV} {b : Bk} (r : BkRd h sf sc sh b) : sh.len = b.has.length := by obtain ⟨rc, h1, h2⟩ := r.h; exact rowsof_len h1 h2
theorem rowsof_at {h : H} {s : SV} {rc : List (SV × List Int)} {l : List (List Int)} (r : RdRowsOf h s rc) (e : rc.map Prod.snd = l) {t : Int} (h0 : 0 ≤ t) (h1 : t < (l.length : Int)) {K : SV → Prop} (hK : ∀ x : SV, RdSl h x (ints ((l[t.toNat]?).getD [])) → x.len = ((l[t.toNat]?).getD []).length → K x) :
    ∃ b : Addr, s.a = some b ∧ 0 ≤ t ∧ t < ((s.len : Nat) : Int) ∧ ∃ x : SV, H.rd h (Addr.add (Addr.add b (t.toNat * 1)) 0) (Value.slice x.a x.len x.cap) ∧ K x := by
  have hl := rowsof_len r e
  refine r.idx h0 (by omega) fun x xs hx hr => ?_
  have : (l[t.toNat]?).getD [] = xs := by rw [← e, List.getElem?_map, hx]; rfl
  refine hK x (by rw [this]; exact hr) (by rw [this]; have := hr.len; rwa [ints_length] at this)
theorem BkRd.ca {h : H} {sf sc sh : SV} {b : Bk} (r : BkRd h sf sc sh b) {t : Int} (h0 : 0 ≤ t) (h1 : t < (b.claim.length : Int)) {K : SV → Prop} (hK : ∀ x : SV, RdSl h x (ints ((b.claim[t.toNat]?).getD [])) → x.len = ((b.claim[t.toNat]?).getD []).length → K x) :
    ∃ b' : Addr, sc.a = some b' ∧ 0 ≤ t ∧ t < ((sc.len : Nat) : Int) ∧ ∃ x : SV, H.rd h (Addr.add (Addr.add b' (t.toNat * 1)) 0) (Value.slice x.a x.len x.cap) ∧ K x := by
  obtain ⟨rc, c1, c2⟩ := r.c
  exact rowsof_at c1 c2 h0 h1 hK
theorem BkRd.ha {h : H} {sf sc sh : SV} {b : Bk} (r : BkRd h sf sc sh b) {t : Int} (h0 : 0 ≤ t) (h1 : t < (b.has.length : Int)) {K : SV → Prop} (hK : ∀ x : SV, RdSl h x (ints ((b.has[t.toNat]?).getD [])) → x.len = ((b.has[t.toNat]?).getD []).length → K x) :
    ∃ b' : Addr, sh.a = some b' ∧ 0 ≤ t ∧ t < ((sh.len : Nat) : Int) ∧ ∃ x : SV, H.rd h (Addr.add (Addr.add b' (t.toNat * 1)) 0) (Value.slice x.a x.len x.cap) ∧ K x := by
  obtain ⟨rc, c1, c2⟩ := r.h
  exact rowsof_at c1 c2 h0 h1 hK
theorem rdm {h h2 : H} {a : Addr} {v : Value} (r : H.rd h a v) (hs : ∀ e ∈ h.own, e ∈ h2.own) (hr : ∀ a v, h.ro a = some v → h2.ro a = some v) : H.rd h2 a v := ⟨r.1, r.2.elim (fun ⟨e, h1, h2⟩ => .inl ⟨e, hs e h1, h2⟩) (fun h => .inr (hr _ _ h))⟩
theorem BkRd.cu {own own2 : List Ent} {ro : Addr → Option Value} {sf sc sh : SV} {b : Bk} (r : BkRd ⟨own, ro⟩ sf sc sh b) (hs : ∀ e ∈ own, e ∈ own2) {t : Int} (h0 : 0 ≤ t) (h1 : t < (b.claim.length : Int)) {K : SV → Prop} (hK : ∀ x : SV, RdSl ⟨own, ro⟩ x (ints ((b.claim[t.toNat]?).getD [])) → x.len = ((b.claim[t.toNat]?).getD []).length → K x) :
    ∃ b' : Addr, sc.a = some b' ∧ 0 ≤ t ∧ t < ((sc.len : Nat) : Int) ∧ ∃ x : SV, H.rd ⟨own2, ro⟩ (Addr.add (Addr.add b' (t.toNat * 1)) 0) (Value.slice x.a x.len x.cap) ∧ K x := by
  obtain ⟨b', h2, h3, h4, x, h5, h6⟩ := r.ca h0 h1 (K := fun x => RdSl ⟨own, ro⟩ x (ints ((b.claim[t.toNat]?).getD [])) ∧ x.len = ((b.claim[t.toNat]?).getD []).length) (fun x a b => ⟨a, b⟩)
  exact ⟨b', h2, h3, h4, x, rdm h5 hs (fun _ _ h => h), hK x h6.1 h6.2⟩
theorem idxG {h : H} {s : SV} {xs : List Int} (r : RdSl h s (ints xs)) {i : Int} (h0 : 0 ≤ i) (h1 : i < (xs.length : Int)) {K : Int → Prop} (hK : K (gI xs i.toNat)) :
    ∃ b : Addr, s.a = some b ∧ 0 ≤ i ∧ i < ((s.len : Nat) : Int) ∧ ∃ x : Int, H.rd h (Addr.add (Addr.add b (i.toNat * 1)) 0) (Value.int .i64 x) ∧ K x := by
  have hl := r.len
  rw [ints_length] at hl
  refine r.idx h0 (by omega) fun x hx => ?_
  have : gI xs i.toNat = x := by unfold gI; rw [hx]; rfl
  rw [← this]; exact hK
def bkE (r : Nat) (sf sc sh : SV) : Ent := ⟨some r, [.slice sf.a sf.len sf.cap, .slice sc.a sc.len sc.cap, .slice sh.a sh.len sh.cap], 3⟩
def bkV (sf sc sh : SV) : Value := .agg (List.toArray [.slice sf.a sf.len sf.cap, .slice sc.a sc.len sc.cap, .slice sh.a sh.len sh.cap])
theorem bkE_0 {own : List Ent} {ro : Addr → Option Value} {r : Nat} {sf sc sh : SV} (h : bkE r sf sc sh ∈ own) : H.rd ⟨own, ro⟩ (Addr.mk r 0 none) (.slice sf.a sf.len sf.cap) := rdo _ h rfl rfl
theorem bkE_1 {own : List Ent} {ro : Addr → Option Value} {r : Nat} {sf sc sh : SV} (h : bkE r sf sc sh ∈ own) : H.rd ⟨own, ro⟩ (Addr.mk r 1 none) (.slice sc.a sc.len sc.cap) := rdo _ h rfl rfl
theorem bkE_2 {own : List Ent} {ro : Addr → Option Value} {r : Nat} {sf sc sh : SV} (h : bkE r sf sc sh ∈ own) : H.rd ⟨own, ro⟩ (Addr.mk r 2 none) (.slice sh.a sh.len sh.cap) := rdo _ h rfl rfl
theorem bank_ends_c {b : Bk} {sf sc sh sx : SV} {fr : List Int} {t : Int} {own : List Ent} {ro : Addr → Option Value} {post : Value → H → Prop} (hb : BkRd ⟨own, ro⟩ sf sc sh b) (hx : RdSl ⟨own, ro⟩ sx (ints fr)) (ho : BOk b) (t0 : 0 ≤ t) (t1 : t < b.claim.length) (hl : fr.length = b.free.length)
    (hk : post (.bool (bends b fr t.toNat)) ⟨own, ro⟩) : SemCall Tryz.prog 97 (List.toArray [bkV sf sc sh, .slice sx.a sx.len sx.cap, .int .i64 t]) ⟨own, ro⟩ post := by
  refine f97_call sf sc sh sx t _ post ?_
  intro r1 _
  have hb' : BkRd ⟨own ++ [bkE r1 sf sc sh], ro⟩ sf sc sh b := hb.mono (fun e he => List.mem_append_left _ he) (fun _ _ h => h)
  have hx' : RdSl ⟨own ++ [bkE r1 sf sc sh], ro⟩ sx (ints fr) := hx.mono (fun e he => List.mem_append_left _ he) (fun _ _ h => h)
  have hE : bkE r1 sf sc sh ∈ own ++ [bkE r1 sf sc sh] := by simp
  have hxl := hx.len
  rw [ints_length] at hxl
  have hhl := ho.hl
  have hn3 := ho.n3
  obtain ⟨cn1, cn2⟩ := ho.cn t.toNat (by omega)
  refine ⟨fun h => h = ⟨own ++ [bkE r1 sf sc sh], ro⟩ ∧ bends b fr t.toNat = true, ⟨fun n i h => ∃ k : Nat, i = (k : Int) ∧ k ≤ fr.length ∧ n = fr.length - k ∧ h = ⟨own ++ [bkE r1 sf sc sh], ro⟩ ∧ ∀ j, j < k → g2 b.claim t.toNat j - g2 b.has t.toNat j ≤ gI fr j, ⟨_, gi ⟨0, rfl, Nat.zero_le _, rfl, rfl, fun j hj => by omega⟩⟩, ?_⟩, ?_⟩
  · rintro n _ i _ ⟨k, rfl, hk', rfl, rfl, hall⟩
    refine VIf_dec (fun hi => ?_) (fun hi => gi ⟨rfl, bends_iff.2 fun j hj => hall j (by omega)⟩)
    simp only [add_mk', Nat.zero_add, Nat.add_zero]
    refine idxG hx' (by omega) (by omega) ⟨sc, bkE_1 hE, hb'.ca t0 (by omega) fun xc hxc hlc => idxG hxc (by omega) (by omega) ⟨sh, bkE_2 hE, hb'.ha t0 (by omega) fun xh hxh hlh => idxG hxh (by omega) (by omega) ?_⟩⟩
    have hc := ho.c t.toNat k (by omega) (by omega)
    rw [Int.toNat_natCast]
    have e1 : gI ((b.claim[t.toNat]?).getD []) k = g2 b.claim t.toNat k := rfl
    have e2 : gI ((b.has[t.toNat]?).getD []) k = g2 b.has t.toNat k := rfl
    rw [e1, e2]
    refine ⟨⟨by omega, by omega⟩, VIf_dec (fun hgt => ?_) (fun hle => ⟨⟨by omega, by omega⟩, fr.length - (k + 1), by omega, gi ⟨k + 1, by omega, by omega, rfl, rfl, fun j hj => ?_⟩⟩)⟩
    · have : bends b fr t.toNat = false := by
        cases hbe : bends b fr t.toNat with
        | false => rfl
        | true => have := bends_iff.1 hbe k (by omega); omega
      rw [this] at hk
      exact ⟨⟨own, ro⟩, Gh.drop (by simp), hk⟩
    · by_cases he : j = k
      · subst he; omega
      · exact hall j (by omega)
  · rintro _ _ ⟨rfl, h⟩
    rw [h] at hk
    exact ⟨⟨own, ro⟩, Gh.drop (by simp), hk⟩
theorem bne_dec {x y : Int} : (x != y) = decide (x ≠ y) := by by_cases h : x = y <;> simp [h]
/-! #### the check -/
def ballT (b : Bk) (t j : Nat) : Int := (b.has.take t).foldl (fun s h => s + gI h j) (gI b.free j)
theorem ballT_succ {b : Bk} {t j : Nat} (h : t < b.has.length) : ballT b (t + 1) j = ballT b t j + g2 b.has t j := by
  have hx : b.has[t]? = some b.has[t] := List.getElem?_eq_getElem h
  rw [ballT, List.take_add_one, hx]
  simp only [Option.toList_some, List.foldl_append, List.foldl_cons, List.foldl_nil]
  rw [g2, hx]; rfl
theorem ballT_all {b : Bk} {j : Nat} : ballT b b.has.length j = ball b j := by rw [ballT, List.take_length]; rfl
theorem ballT_b {b : Bk} {j : Nat} (hf : 0 ≤ gI b.free j ∧ gI b.free j ≤ 1000) : ∀ {t : Nat}, t ≤ b.has.length → (∀ s, s < t → 0 ≤ g2 b.has s j ∧ g2 b.has s j ≤ 1000) → 0 ≤ ballT b t j ∧ ballT b t j ≤ 1000 * (t + 1)
  | 0, _, _ => by simp only [ballT, List.take_zero, List.foldl_nil]; omega
  | t + 1, ht, h => by
    rw [ballT_succ (by omega)]
    have h1 := ballT_b hf (t := t) (by omega) (fun s hs => h s (by omega))
    have h2 := h t (by omega)
    omega
set_option maxHeartbeats 800000 in
theorem bank_check_c {b : Bk} {sf sc sh : SV} {own : List Ent} {ro : Addr → Option Value} {post : Value → H → Prop} (hb : BkRd ⟨own, ro⟩ sf sc sh b)
    (hk : post (errV (eno 57 (bcheck b))) ⟨own, ro⟩) : SemCall Tryz.prog 80 (List.toArray [bkV sf sc sh]) ⟨own, ro⟩ post := by
  refine f80_call sf sc sh _ post ?_
  intro r1 _
  have fl := hb.fl
  have cl := hb.cl
  have hl := hb.hl
  have hup : ∀ {X : List Ent}, BkRd ⟨own ++ bkE r1 sf sc sh :: X, ro⟩ sf sc sh b := fun {X} => hb.mono (fun e he => List.mem_append_left _ he) (fun _ _ h => h)
  have hE : ∀ {X : List Ent}, bkE r1 sf sc sh ∈ own ++ bkE r1 sf sc sh :: X := fun {X} => by simp
  have done : ∀ {X : List Ent} {v : Value}, v = errV (eno 57 (bcheck b)) → VRet ⟨own ++ bkE r1 sf sc sh :: X, ro⟩ v post := fun {X v} hv => ⟨⟨own, ro⟩, Gh.drop (by simp), by rw [hv]; exact hk⟩
  refine ⟨sf, bkE_0 hE, VIf_eq (fun h0 => done (X := []) ?_) (fun h0 => ?_)⟩
  · rw [bcheck, if_pos (by omega)]; rfl
  refine join_b (h := ⟨own ++ [bkE r1 sf sc sh], ro⟩) (decide (b.free.length > 3 ∨ b.claim.length > 5)) ⟨sf, bkE_0 hE, VIf_dec (fun h1 => gi ⟨rfl, ?_⟩) (fun h1 => ⟨sc, bkE_1 hE, gi ⟨rfl, ?_⟩⟩)⟩ ?_
  · exact (decide_eq_true (.inl (by omega))).symm
  · exact decide_eq_decide.2 ⟨fun h => .inr (by omega), fun h => by omega⟩
  refine VIf_dec (fun h1 => done (X := []) ?_) (fun h1 => ?_)
  · rw [bcheck, if_neg (by omega), if_pos h1]; rfl
  refine ⟨sh, bkE_2 hE, sc, bkE_1 hE, VIf_ne (fun h2 => done (X := []) ?_) (fun h2 => ?_)⟩
  · rw [bcheck, if_neg (by omega), if_neg h1, if_pos (by omega)]; rfl
  -- the shape
  refine ⟨sc, bkE_1 hE, fun h => h = ⟨own ++ [bkE r1 sf sc sh], ro⟩ ∧ ∀ t, t < b.claim.length → ((b.claim[t]?).getD []).length = b.free.length ∧ ((b.has[t]?).getD []).length = b.free.length,
    ⟨fun n i h => ∃ k : Nat, i = (k : Int) ∧ k ≤ b.claim.length ∧ n = b.claim.length - k ∧ h = ⟨own ++ [bkE r1 sf sc sh], ro⟩ ∧ ∀ t, t < k → ((b.claim[t]?).getD []).length = b.free.length ∧ ((b.has[t]?).getD []).length = b.free.length, ⟨_, gi ⟨0, rfl, Nat.zero_le _, rfl, rfl, fun j hj => by omega⟩⟩, ?_⟩, ?_⟩
  · rintro n _ i _ ⟨k, rfl, hk', rfl, rfl, hall⟩
    refine VIf_dec (fun hi => ?_) (fun hi => gi ⟨rfl, fun t ht => hall t (by omega)⟩)
    refine join_b (h := ⟨own ++ [bkE r1 sf sc sh], ro⟩) (decide (((b.claim[k]?).getD []).length ≠ b.free.length ∨ ((b.has[k]?).getD []).length ≠ b.free.length)) ⟨sc, bkE_1 hE, hup.ca (by omega) (by omega) fun xc hxc hlc => ⟨sf, bkE_0 hE, VIf_ne (fun h3 => gi ⟨rfl, ?_⟩) (fun h3 => ⟨sh, bkE_2 hE, hup.ha (by omega) (by omega) fun xh hxh hlh => ⟨sf, bkE_0 hE, gi ⟨rfl, ?_⟩⟩⟩)⟩⟩ ?_
    · rw [Int.toNat_natCast] at hlc
      exact (decide_eq_true (.inl (by omega))).symm
    · rw [Int.toNat_natCast] at hlc hlh
      rw [bne_dec]
      exact decide_eq_decide.2 (by omega)
    refine VIf_dec (fun h3 => done (X := []) ?_) (fun h3 => ⟨⟨by omega, by omega⟩, b.claim.length - (k + 1), by omega, gi ⟨k + 1, by omega, by omega, rfl, rfl, fun t ht => ?_⟩⟩)
    · rw [bcheck, if_neg (by omega), if_neg h1, if_neg (by omega), if_pos ⟨k, by omega, h3⟩]; rfl
    · by_cases he : t = k
      · subst he; omega
      · exact hall t (by omega)
  rintro _ _ ⟨rfl, hsh⟩
  have n4 : ¬ ∃ t, t < b.claim.length ∧ (((b.claim[t]?).getD []).length ≠ b.free.length ∨ ((b.has[t]?).getD []).length ≠ b.free.length) := fun ⟨t, h3, h4⟩ => by have := hsh t h3; omega
  -- what is free
  refine ⟨sf, bkE_0 hE, clone_c (hup (X := [])).f (by omega) (fun sa ea oa => ⟨sa, rfl, sf, bkE_0 (r := r1) (sc := sc) (sh := sh) (by simp), ?_⟩)⟩
  have hal := oa.sl_len
  rw [ints_length] at hal
  have hcat : ∀ {e : Ent}, own ++ [bkE r1 sf sc sh] ++ [e] = own ++ bkE r1 sf sc sh :: [e] := fun {e} => by simp
  rw [hcat]
  refine ⟨fun h => h = ⟨own ++ bkE r1 sf sc sh :: [ea], ro⟩ ∧ ∀ k, k < b.free.length → 0 ≤ gI b.free k ∧ gI b.free k ≤ 1000,
    ⟨fun n i h => ∃ k : Nat, i = (k : Int) ∧ k ≤ b.free.length ∧ n = b.free.length - k ∧ h = ⟨own ++ bkE r1 sf sc sh :: [ea], ro⟩ ∧ ∀ j, j < k → 0 ≤ gI b.free j ∧ gI b.free j ≤ 1000, ⟨_, gi ⟨0, rfl, Nat.zero_le _, rfl, rfl, fun j hj => by omega⟩⟩, ?_⟩, ?_⟩
  · rintro n _ i _ ⟨k, rfl, hk', rfl, rfl, hall⟩
    refine VIf_dec (fun hi => ?_) (fun hi => gi ⟨rfl, fun t ht => hall t (by omega)⟩)
    refine idxG hup.f (by omega) (by omega) (within_i (fun hc => ⟨_, rfl, VIf_nb (fun _ => done ?_) (nomatch ·)⟩) (fun c0 c1 => ⟨_, rfl, VIf_nb (nomatch ·) (fun _ => ⟨⟨by omega, by omega⟩, b.free.length - (k + 1), by omega, gi ⟨k + 1, by omega, by omega, rfl, rfl, fun t ht => ?_⟩⟩)⟩))
    · rw [Int.toNat_natCast] at hc
      rw [bcheck, if_neg (by omega), if_neg h1, if_neg (by omega), if_neg n4, if_pos ⟨k, by omega, hc⟩]; rfl
    · rw [Int.toNat_natCast] at c0 c1
      by_cases he : t = k
      · subst he; exact ⟨c0, c1⟩
      · exact hall t (by omega)
  rintro _ _ ⟨rfl, hfr⟩
  have n5 : ¬ ∃ k, k < b.free.length ∧ ¬ (0 ≤ gI b.free k ∧ gI b.free k ≤ 1000) := fun ⟨k, h3, h4⟩ => h4 (hfr k h3)
  -- what is claimed, and had
  let okc : Nat → Nat → Prop := fun t k => (0 ≤ g2 b.claim t k ∧ g2 b.claim t k ≤ 1000) ∧ (0 ≤ g2 b.has t k ∧ g2 b.has t k ≤ g2 b.claim t k)
  have bad6 : ∀ t k, t < b.claim.length → k < b.free.length → ¬ okc t k → Value.iface 57 (.int .i64 1) = errV (eno 57 (bcheck b)) := fun t k ht hk' hc => by
    rw [bcheck, if_neg (by omega), if_neg h1, if_neg (by omega), if_neg n4, if_neg n5, if_pos ⟨t, k, ht, hk', hc⟩]; rfl
  refine ⟨sc, bkE_1 hE, fun h => ∃ (e : Ent) (L : List Int), h = ⟨own ++ bkE r1 sf sc sh :: [e], ro⟩ ∧ OwnsSl 1 sa e (ints L) ∧ L.length = b.free.length ∧ (∀ j, j < b.free.length → gI L j = ball b j) ∧ ∀ t k, t < b.claim.length → k < b.free.length → okc t k,
    ⟨fun n i h => ∃ (t : Nat) (e : Ent) (L : List Int), i = (t : Int) ∧ t ≤ b.claim.length ∧ n = b.claim.length - t ∧ h = ⟨own ++ bkE r1 sf sc sh :: [e], ro⟩ ∧ OwnsSl 1 sa e (ints L) ∧ L.length = b.free.length ∧ (∀ j, j < b.free.length → gI L j = ballT b t j) ∧ ∀ s k, s < t → k < b.free.length → okc s k, ⟨_, gi ⟨0, ea, b.free, rfl, Nat.zero_le _, rfl, rfl, oa, rfl, fun j hj => rfl, fun s k hs => by omega⟩⟩, ?_⟩, ?_⟩
  · rintro n _ i _ ⟨t, e, L, rfl, ht, rfl, rfl, oe, hL, hLg, hok⟩
    refine VIf_dec (fun hi => ?_) (fun hi => gi ⟨e, L, rfl, oe, hL, fun j hj => by rw [hLg j hj, show t = b.has.length by omega, ballT_all], fun s k hs hk' => hok s k (by omega) hk'⟩)
    have htc : t < b.claim.length := by omega
    refine ⟨fun h => ∃ (e : Ent) (L : List Int), h = ⟨own ++ bkE r1 sf sc sh :: [e], ro⟩ ∧ OwnsSl 1 sa e (ints L) ∧ L.length = b.free.length ∧ (∀ j, j < b.free.length → gI L j = ballT b (t + 1) j) ∧ ∀ k, k < b.free.length → okc t k, ?_, ?_⟩
    · refine ⟨sc, bkE_1 hE, hb.cu (fun e he => List.mem_append_left _ he) (by omega) (by omega) fun xc hxc0 hlc => ?_⟩
      rw [Int.toNat_natCast] at hxc0 hlc
      have hcl2 := (hsh t htc).1
      have hhl2 := (hsh t htc).2
      refine ⟨fun h => ∃ (e : Ent) (L : List Int), h = ⟨own ++ bkE r1 sf sc sh :: [e], ro⟩ ∧ OwnsSl 1 sa e (ints L) ∧ L.length = b.free.length ∧ (∀ j, j < b.free.length → gI L j = ballT b (t + 1) j) ∧ ∀ k, k < b.free.length → okc t k,
        ⟨fun n i h => ∃ (k : Nat) (e : Ent) (L : List Int), i = (k : Int) ∧ k ≤ b.free.length ∧ n = b.free.length - k ∧ h = ⟨own ++ bkE r1 sf sc sh :: [e], ro⟩ ∧ OwnsSl 1 sa e (ints L) ∧ L.length = b.free.length ∧ (∀ j, j < b.free.length → gI L j = ballT b t j + if j < k then g2 b.has t j else 0) ∧ ∀ k', k' < k → okc t k',
          ⟨_, gi ⟨0, e, L, rfl, Nat.zero_le _, rfl, rfl, oe, hL, fun j hj => by rw [hLg j hj, if_neg (by omega)]; omega, fun s hs => by omega⟩⟩, ?_⟩, ?_⟩
      rotate_left
      · rintro _ _ ⟨e, L, rfl, o, l, g, k⟩
        exact gi ⟨e, L, rfl, o, l, g, k⟩
      clear hLg hL oe
      rintro n _ i _ ⟨k, e, L, rfl, hk', rfl, rfl, oe, hL, hLg, hok2⟩
      refine VIf_dec (fun hi => ?_) (fun hi => gi ⟨e, L, rfl, oe, hL, fun j hj => by rw [hLg j hj, if_pos (by omega), ballT_succ (by omega)], fun k' hk2 => hok2 k' (by omega)⟩)
      have hkf : k < b.free.length := by omega
      have hxe : RdSl ⟨own ++ bkE r1 sf sc sh :: [e], ro⟩ xc (ints ((b.claim[t]?).getD [])) := by
        exact RdSl.mono (h := ⟨own, ro⟩) hxc0 (fun e he => List.mem_append_left _ he) (fun _ _ h => h)
      refine idxG hxe (by omega) (by omega) ?_
      rw [Int.toNat_natCast]
      have e1 : gI ((b.claim[t]?).getD []) k = g2 b.claim t k := rfl
      have e2 : gI ((b.has[t]?).getD []) k = g2 b.has t k := rfl
      rw [e1]
      refine join_b (h := ⟨own ++ bkE r1 sf sc sh :: [e], ro⟩) (decide (¬ okc t k)) (within_i (fun hc => ⟨_, rfl, VIf_nb (fun _ => gi ⟨rfl, (decide_eq_true (p := ¬ okc t k) (fun h => hc h.1)).symm⟩) (nomatch ·)⟩) (fun c0 c1 => ⟨_, rfl, VIf_nb (nomatch ·) (fun _ => ⟨sh, bkE_2 hE, hup.ha (by omega) (by omega) fun xh hxh hlh => ?_⟩)⟩)) ?_
      · rw [Int.toNat_natCast] at hxh hlh
        refine idxG hxh (by omega) (by omega) ?_
        rw [Int.toNat_natCast, e2]
        refine within_c ⟨_, rfl, gi ⟨rfl, ?_⟩⟩
        by_cases h : 0 ≤ g2 b.has t k ∧ g2 b.has t k ≤ g2 b.claim t k
        · rw [decide_eq_true h, decide_eq_false (fun hn => hn ⟨⟨c0, c1⟩, h⟩)]; rfl
        · rw [decide_eq_false h, decide_eq_true (p := ¬ okc t k) (fun hh => h hh.2)]; rfl
      refine VIf_dec (fun hc => done (bad6 t k htc hkf hc)) (fun hc => ?_)
      have hc : okc t k := Classical.byContradiction hc
      have hbb := ballT_b (hfr k hkf) (t := t) (by omega) (fun s hs => by have h9 := hok s k hs hkf; exact ⟨h9.2.1, Int.le_trans h9.2.2 h9.1.2⟩)
      have hra : RdSl ⟨own ++ bkE r1 sf sc sh :: [e], ro⟩ sa (ints L) := RdSl.of_own (e := e) (by simp) oe
      refine idxG hra (by omega) (by omega) ⟨sh, bkE_2 hE, hup.ha (by omega) (by omega) fun xh hxh hlh => ?_⟩
      rw [Int.toNat_natCast] at hxh hlh
      refine idxG hxh (by omega) (by omega) ?_
      rw [Int.toNat_natCast, e2, hLg k hkf, if_neg (by omega)]
      have hcc := hc.1
      have hch := hc.2
      refine ⟨⟨by omega, by omega⟩, wr_at (own ++ [bkE r1 sf sc sh]) e [] (by simp) oe (by omega) (by omega) (fun e' oe' _ => ⟨⟨by omega, by omega⟩, b.free.length - (k + 1), by omega, gi ⟨k + 1, e', _, by omega, by omega, rfl, by simp, oe', by simpa using hL, fun j hj => ?_, fun k' hk2 => ?_⟩⟩)⟩
      · rw [Int.toNat_natCast, gI_bset (by omega)]
        by_cases he : j = k
        · subst he; rw [if_pos rfl, if_pos (by omega)]; omega
        · rw [if_neg he, hLg j hj]
          by_cases hjk : j < k
          · rw [if_pos hjk, if_pos (by omega)]
          · rw [if_neg hjk, if_neg (by omega)]
      · by_cases he : k' = k
        · subst he; exact hc
        · exact hok2 k' (by omega)
    · rintro _ _ ⟨e, L, rfl, o, l, g, k⟩
      refine ⟨⟨by omega, by omega⟩, b.claim.length - (t + 1), by omega, gi ⟨t + 1, e, L, by omega, by omega, rfl, rfl, o, l, g, fun s k' hs hk' => ?_⟩⟩
      by_cases he : s = t
      · subst he; exact k k' hk'
      · exact hok s k' (by omega) hk'
  rintro _ _ ⟨e, L, rfl, oe, hL, hLg, hok⟩
  have n6 : ¬ ∃ t k, t < b.claim.length ∧ k < b.free.length ∧ ¬ ((0 ≤ g2 b.claim t k ∧ g2 b.claim t k ≤ 1000) ∧ (0 ≤ g2 b.has t k ∧ g2 b.has t k ≤ g2 b.claim t k)) := fun ⟨t, k, h3, h4, h5⟩ => h5 (hok t k h3 h4)
  have hra : RdSl ⟨own ++ bkE r1 sf sc sh :: [e], ro⟩ sa (ints L) := RdSl.of_own (e := e) (by simp) oe
  refine ⟨sc, bkE_1 hE, fun h => h = ⟨own ++ bkE r1 sf sc sh :: [e], ro⟩ ∧ ∀ t k, t < b.claim.length → k < b.free.length → g2 b.claim t k ≤ ball b k,
    ⟨fun n i h => ∃ t : Nat, i = (t : Int) ∧ t ≤ b.claim.length ∧ n = b.claim.length - t ∧ h = ⟨own ++ bkE r1 sf sc sh :: [e], ro⟩ ∧ ∀ s k, s < t → k < b.free.length → g2 b.claim s k ≤ ball b k, ⟨_, gi ⟨0, rfl, Nat.zero_le _, rfl, rfl, fun s k hs => by omega⟩⟩, ?_⟩, ?_⟩
  · rintro n _ i _ ⟨t, rfl, ht, rfl, rfl, hall⟩
    refine VIf_dec (fun hi => ?_) (fun hi => gi ⟨rfl, fun s k hs hk' => hall s k (by omega) hk'⟩)
    have htc : t < b.claim.length := by omega
    have hcl2 := (hsh t htc).1
    refine ⟨fun h => h = ⟨own ++ bkE r1 sf sc sh :: [e], ro⟩ ∧ ∀ k, k < b.free.length → g2 b.claim t k ≤ ball b k, ?_, ?_⟩
    · refine ⟨sc, bkE_1 hE, hup.ca (by omega) (by omega) fun xc hxc hlc => ?_⟩
      rw [Int.toNat_natCast] at hxc hlc
      refine ⟨fun h => h = ⟨own ++ bkE r1 sf sc sh :: [e], ro⟩ ∧ ∀ k, k < b.free.length → g2 b.claim t k ≤ ball b k,
        ⟨fun n i h => ∃ k : Nat, i = (k : Int) ∧ k ≤ b.free.length ∧ n = b.free.length - k ∧ h = ⟨own ++ bkE r1 sf sc sh :: [e], ro⟩ ∧ ∀ k', k' < k → g2 b.claim t k' ≤ ball b k', ⟨_, gi ⟨0, rfl, Nat.zero_le _, rfl, rfl, fun s hs => by omega⟩⟩, ?_⟩, ?_⟩
      rotate_left
      · rintro _ _ ⟨rfl, h⟩
        exact gi ⟨rfl, h⟩
      rintro n _ i _ ⟨k, rfl, hk', rfl, rfl, hall2⟩
      refine VIf_dec (fun hi => ?_) (fun hi => gi ⟨rfl, fun k' hk2 => hall2 k' (by omega)⟩)
      have hkf : k < b.free.length := by omega
      refine idxG hxc (by omega) (by omega) (idxG hra (by omega) (by omega) ?_)
      rw [Int.toNat_natCast, hLg k hkf]
      have e1 : gI ((b.claim[t]?).getD []) k = g2 b.claim t k := rfl
      rw [e1]
      refine VIf_dec (fun hgt => done ?_) (fun hle => ⟨⟨by omega, by omega⟩, b.free.length - (k + 1), by omega, gi ⟨k + 1, by omega, by omega, rfl, rfl, fun k' hk2 => ?_⟩⟩)
      · rw [bcheck, if_neg (by omega), if_neg h1, if_neg (by omega), if_neg n4, if_neg n5, if_neg n6, if_pos ⟨t, k, htc, hkf, by omega⟩]; rfl
      · by_cases he : k' = k
        · subst he; omega
        · exact hall2 k' (by omega)
    · rintro _ _ ⟨rfl, h⟩
      refine ⟨⟨by omega, by omega⟩, b.claim.length - (t + 1), by omega, gi ⟨t + 1, by omega, by omega, rfl, rfl, fun s k' hs hk' => ?_⟩⟩
      by_cases he : s = t
      · subst he; exact h k' hk'
      · exact hall s k' (by omega) hk'
  rintro _ _ ⟨rfl, h⟩
  refine done ?_
  rw [bcheck_zero.2 ⟨by omega, by omega, by omega, by omega, hsh, hfr, hok, h⟩]; rfl
end Go.Proofs.YtnppmcgmmdcpiaaGreatDoor
namespace Go.Proofs.YtnppmcgmmdcpiaaGreatDoor
open Go.Eng
set_option maxRecDepth 20000
/-! ### the bank, walked: rows, what is moved, asked, given back -/
theorem SemCall.wfp {P : Program} {f : FuncId} {args : Array Value} {h : H} {post : Value → H → Prop} (hx : SemCall P f args h fun v h' => Wf h' → post v h') : SemCall P f args h post :=
  fun w hw => (hx w hw).mono fun _ _ ⟨v, h', a, b, c, d⟩ => ⟨v, h', a, b, c, d ⟨b.nd, b.ap⟩⟩
theorem isum_ub {f : Nat → Int} {c : Int} (hc : 0 ≤ c) : ∀ {l : List Nat}, (∀ t ∈ l, f t ≤ c) → isum f l ≤ c * l.length
  | [], _ => by simp [isum]
  | t :: l, h => by
    have h1 := isum_ub hc (l := l) (fun t ht => h t (by simp [ht]))
    have h2 := h t (by simp)
    simp only [isum, List.length_cons]
    have : c * ((l.length + 1 : Nat) : Int) = c * (l.length : Int) + c := by rw [Int.natCast_succ, Int.mul_add, Int.mul_one]
    omega
theorem bfree_b {b : Bk} (ho : BOk b) {l : List Nat} (hd : l.Nodup) (hl : ∀ t ∈ l, t < b.claim.length) {k : Nat} (hk : k < b.free.length) : 0 ≤ gI (bfree b l) k ∧ gI (bfree b l) k ≤ 6000 := by
  rw [bfree_get hk]
  have h0 := ho.f k hk
  have h1 := isum_nn (f := fun t => g2 b.has t k) (l := l) (fun t ht => (ho.c t k (hl t ht) hk).2.1)
  have h2 := isum_ub (f := fun t => g2 b.has t k) (c := 1000) (by omega) (l := l) (fun t ht => by have := ho.c t k (hl t ht) hk; omega)
  have h3 := bk_nodup_le hd hl
  have := ho.m5
  omega
theorem mem_ofNat {l : List Nat} {t : Nat} : ((t : Nat) : Int) ∈ l.map Int.ofNat ↔ t ∈ l := by
  rw [List.mem_map]
  exact ⟨fun ⟨a, h, e⟩ => by have e : a = t := Int.ofNat.inj e; exact e ▸ h, fun h => ⟨t, h, rfl⟩⟩
@[simp] theorem nats_len (l : List Nat) : (l.map Int.ofNat).length = l.length := by simp
set_option maxHeartbeats 800000 in
theorem bank_row_c {b : Bk} {sf sc sh : SV} {own : List Ent} {ro : Addr → Option Value} {post : Value → H → Prop} (hb : BkRd ⟨own, ro⟩ sf sc sh b) (ho : BOk b)
    (h1 : brow b = none → post (.tuple (List.toArray [.slice none 0 0, .bool false])) ⟨own, ro⟩) (h2 : ∀ (r : List Nat) (s' : SV) (e' : Ent), brow b = some r → OwnsSl 1 s' e' (ints (r.map Int.ofNat)) → post (.tuple (List.toArray [.slice s'.a s'.len s'.cap, .bool true])) ⟨own ++ [e'], ro⟩) :
    SemCall Tryz.prog 67 (List.toArray [bkV sf sc sh]) ⟨own, ro⟩ post := by
  refine f67_call sf sc sh _ post ?_
  intro r1 _
  simp only [add_mk', Nat.zero_add, Nat.add_zero]
  have fl := hb.fl
  have cl := hb.cl
  have hl := hb.hl
  have hhl := ho.hl
  have hn3 := ho.n3
  have hm5 := ho.m5
  have hup : ∀ {X : List Ent}, BkRd ⟨own ++ bkE r1 sf sc sh :: X, ro⟩ sf sc sh b := fun {X} => hb.mono (fun e he => List.mem_append_left _ he) (fun _ _ h => h)
  have hE : ∀ {X : List Ent}, bkE r1 sf sc sh ∈ own ++ bkE r1 sf sc sh :: X := fun {X} => by simp
  refine ⟨sf, bkE_0 hE, clone_c (hup (X := [])).f (by omega) (fun s6 e6 o6 => ⟨s6, rfl, ?_⟩)⟩
  have hcat : ∀ {e : Ent}, own ++ [bkE r1 sf sc sh] ++ [e] = own ++ bkE r1 sf sc sh :: [e] := fun {e} => by simp
  have l6 := o6.sl_len
  rw [ints_length] at l6
  rw [show (⟨some r1, [Value.slice sf.a sf.len sf.cap, .slice sc.a sc.len sc.cap, .slice sh.a sh.len sh.cap], List.length [Value.slice sf.a sf.len sf.cap, .slice sc.a sc.len sc.cap, .slice sh.a sh.len sh.cap]⟩ : Ent) = bkE r1 sf sc sh from rfl, hcat]
  refine ⟨fun s h => ∃ r e6 eo, brow b = some r ∧ h = ⟨own ++ bkE r1 sf sc sh :: [e6, eo], ro⟩ ∧ OwnsSl 1 s eo (ints (r.map Int.ofNat)),
    ⟨fun n s h => ∃ (out : List Nat) (e6 eo : Ent), out.length + n = b.claim.length ∧ bgo b n out (bfree b out) = brow b ∧ out.Nodup ∧ (∀ t ∈ out, t < b.claim.length) ∧ h = ⟨own ++ bkE r1 sf sc sh :: [e6, eo], ro⟩ ∧ OwnsSl 1 s6 e6 (ints (bfree b out)) ∧ OwnsSl 1 s eo (ints (out.map Int.ofNat)),
      ⟨b.claim.length, _, by simpa using Gh.phantom (own ++ bkE r1 sf sc sh :: [e6]) [] ro 0, [], e6, _, by simp, rfl, by simp, by simp, by simp, o6, OwnsSl.nil 1⟩, ?_⟩, ?_⟩
  rotate_left
  · rintro _ s _ ⟨r, e6', eo, hr, rfl, o⟩
    exact ⟨⟨own ++ [eo], ro⟩, Gh.drop (by simp), h2 r s eo hr o⟩
  clear o6
  rintro n _ s _ ⟨out, e6, eo, hn, hgo, hnd, hlt, rfl, o6, oo⟩
  have hlo := oo.sl_len
  rw [ints_length, nats_len] at hlo
  refine ⟨sc, bkE_1 hE, VIf_dec (fun hc => ?_) (fun hc => gi ⟨out, e6, eo, ?_, rfl, oo⟩)⟩
  rotate_left
  · have : n = 0 := by omega
    subst this
    rw [← hgo]; rfl
  obtain ⟨n, rfl⟩ : ∃ n', n = n' + 1 := ⟨n - 1, by omega⟩
  rw [bgo] at hgo
  have hro : RdSl ⟨own ++ bkE r1 sf sc sh :: [e6, eo], ro⟩ s (ints (out.map Int.ofNat)) := RdSl.of_own (e := eo) (by simp) oo
  have hr6 : RdSl ⟨own ++ bkE r1 sf sc sh :: [e6, eo], ro⟩ s6 (ints (bfree b out)) := RdSl.of_own (e := e6) (by simp) o6
  refine ⟨fun s h => ∃ (out : List Nat) (e6 eo : Ent), out.length + n = b.claim.length ∧ bgo b n out (bfree b out) = brow b ∧ out.Nodup ∧ (∀ t ∈ out, t < b.claim.length) ∧ h = ⟨own ++ bkE r1 sf sc sh :: [e6, eo], ro⟩ ∧ OwnsSl 1 s6 e6 (ints (bfree b out)) ∧ OwnsSl 1 s eo (ints (out.map Int.ofNat)), ?_, ?_⟩
  rotate_left
  · rintro _ s _ h
    exact ⟨n, by omega, gi h⟩
  -- the next one
  refine ⟨fun x h => h = ⟨own ++ bkE r1 sf sc sh :: [e6, eo], ro⟩ ∧ ∃ t : Nat, x = (t : Int) ∧ ((t = b.claim.length ∧ bnext b (bfree b out) out = none) ∨ (t < b.claim.length ∧ bnext b (bfree b out) out = some t)),
    ⟨fun n x h => ∃ t : Nat, x = (t : Int) ∧ t ≤ b.claim.length ∧ n = b.claim.length - t ∧ h = ⟨own ++ bkE r1 sf sc sh :: [e6, eo], ro⟩ ∧ ∀ u, u < t → u ∈ out ∨ bends b (bfree b out) u = false, ⟨_, gi ⟨0, rfl, Nat.zero_le _, rfl, rfl, fun j hj => by omega⟩⟩, ?_⟩, ?_⟩
  · rintro n' _ x _ ⟨t, rfl, ht, rfl, rfl, hall⟩
    refine join_b (h := ⟨own ++ bkE r1 sf sc sh :: [e6, eo], ro⟩) (decide (t < b.claim.length ∧ (t ∈ out ∨ bends b (bfree b out) t = false))) ⟨sc, bkE_1 hE, VIf_dec (fun h3 => ?_) (fun h3 => gi ⟨rfl, (decide_eq_false (fun h => h3 (by omega))).symm⟩)⟩ ?_
    · refine contains_c hro (by omega) ⟨_, rfl, VIf_dec (fun h4 => gi ⟨rfl, (decide_eq_true ⟨by omega, .inl (mem_ofNat.1 h4)⟩).symm⟩) (fun h4 => ?_)⟩
      refine ⟨sf, bkE_0 hE, sc, bkE_1 hE, sh, bkE_2 hE, bank_ends_c hup hr6 ho (by omega) (by omega) (bfree_len b out) ⟨_, rfl, gi ⟨rfl, ?_⟩⟩⟩
      rw [Int.toNat_natCast]
      cases hbe : bends b (bfree b out) t with
      | true => exact (decide_eq_false (by rintro ⟨_, h | h⟩; exact h4 (mem_ofNat.2 h); cases h)).symm
      | false => exact (decide_eq_true ⟨by omega, .inr rfl⟩).symm
    · refine VIf_dec (fun h3 => ⟨⟨by omega, by omega⟩, b.claim.length - (t + 1), by omega, gi ⟨t + 1, by omega, by omega, rfl, rfl, fun u hu => ?_⟩⟩) (fun h3 => gi ⟨rfl, t, rfl, ?_⟩)
      · by_cases he : u = t
        · subst he; exact h3.2
        · exact hall u (by omega)
      · by_cases htm : t < b.claim.length
        · refine .inr ⟨htm, ?_⟩
          unfold bnext
          rw [List.find?_range_eq_some]
          have h5 : ¬ t ∈ out ∧ bends b (bfree b out) t = true := ⟨fun h => h3 ⟨htm, .inl h⟩, by
            cases hbe : bends b (bfree b out) t with
            | true => rfl
            | false => exact absurd ⟨htm, .inr hbe⟩ h3⟩
          refine ⟨by simp [h5.1, h5.2], List.mem_range.2 htm, fun u hu => ?_⟩
          rcases hall u hu with h | h <;> simp [h]
        · refine .inl ⟨by omega, ?_⟩
          unfold bnext
          rw [List.find?_eq_none]
          intro u hu
          rcases hall u (by have := List.mem_range.1 hu; omega) with h | h <;> simp [h]
  rintro _ x _ ⟨rfl, t, rfl, ht⟩
  refine ⟨sc, bkE_1 hE, VIf_eq (fun h3 => ?_) (fun h3 => ?_)⟩
  · have hno : brow b = none := by
      rcases ht with ⟨_, ht⟩ | ⟨ht, _⟩
      · rw [ht] at hgo; exact hgo.symm
      · omega
    exact ⟨⟨own, ro⟩, Gh.drop (by simp), h1 hno⟩
  obtain ⟨htm, hnx⟩ : t < b.claim.length ∧ bnext b (bfree b out) out = some t := by
    rcases ht with ⟨ht, _⟩ | h
    · omega
    · exact h
  rw [hnx] at hgo
  dsimp only at hgo
  rw [← bfree_app] at hgo
  obtain ⟨_, hto, _, _⟩ := bnext_some hnx
  have hnd2 : (out ++ [t]).Nodup := List.nodup_append.2 ⟨hnd, by simp, by simp; exact fun a ha e => hto (e ▸ ha)⟩
  have hlt2 : ∀ u ∈ out ++ [t], u < b.claim.length := fun u hu => by
    rcases List.mem_append.1 hu with hu | hu
    · exact hlt u hu
    · simp only [List.mem_singleton] at hu; omega
  refine app_row grows_ints (vs := [.int .i64 (t : Int)]) rfl ⟨rfl, trivial⟩ (own ++ bkE r1 sf sc sh :: [e6]) eo [] (by simp) oo (by omega) (fun s2 eo2 oo2 _ => ?_)
  have hcat2 : own ++ bkE r1 sf sc sh :: [e6] ++ [eo2] = own ++ bkE r1 sf sc sh :: [e6, eo2] := by simp
  rw [hcat2]
  have oo2 : OwnsSl 1 s2 eo2 (ints ((out ++ [t]).map Int.ofNat)) := by simpa [ints, intV] using oo2
  have hfl := bfree_len b out
  have hhn := (ho.cn t htm).2
  refine ⟨fun h => ∃ e6, h = ⟨own ++ bkE r1 sf sc sh :: [e6, eo2], ro⟩ ∧ OwnsSl 1 s6 e6 (ints (bfree b (out ++ [t]))),
    ⟨fun n x h => ∃ (k : Nat) (e6 : Ent) (L : List Int), x = (k : Int) ∧ k ≤ b.free.length ∧ n = b.free.length - k ∧ h = ⟨own ++ bkE r1 sf sc sh :: [e6, eo2], ro⟩ ∧ OwnsSl 1 s6 e6 (ints L) ∧ L.length = b.free.length ∧ ∀ j, j < b.free.length → gI L j = gI (bfree b out) j + if j < k then g2 b.has t j else 0,
      ⟨_, gi ⟨0, e6, bfree b out, rfl, Nat.zero_le _, rfl, rfl, o6, hfl, fun j hj => by rw [if_neg (by omega)]; omega⟩⟩, ?_⟩, ?_⟩
  · rintro n' _ x _ ⟨k, e6', L, rfl, hk, rfl, rfl, o6', hL, hg⟩
    refine VIf_dec (fun hi => ?_) (fun hi => gi ⟨e6', rfl, ?_⟩)
    · have hkf : k < b.free.length := by omega
      have hr6' : RdSl ⟨own ++ bkE r1 sf sc sh :: [e6', eo2], ro⟩ s6 (ints L) := RdSl.of_own (e := e6') (by simp) o6'
      refine idxG hr6' (by omega) (by omega) ⟨sh, bkE_2 hE, hup.ha (by omega) (by omega) fun xh hxh hlh => ?_⟩
      rw [Int.toNat_natCast] at hxh hlh
      refine idxG hxh (by omega) (by omega) ?_
      have e2 : gI ((b.has[t]?).getD []) k = g2 b.has t k := rfl
      rw [Int.toNat_natCast, e2, hg k hkf, if_neg (by omega)]
      have hc := ho.c t k htm hkf
      have hbb := bfree_b ho hnd hlt hkf
      refine ⟨⟨by omega, by omega⟩, wr_at (own ++ [bkE r1 sf sc sh]) e6' [eo2] (by simp) o6' (by omega) (by omega) (fun e' oe' _ => ⟨⟨by omega, by omega⟩, b.free.length - (k + 1), by omega, gi ⟨k + 1, e', _, by omega, by omega, rfl, by simp, oe', by simpa using hL, fun j hj => ?_⟩⟩)⟩
      rw [Int.toNat_natCast, gI_bset (by omega)]
      by_cases he : j = k
      · subst he; rw [if_pos rfl, if_pos (by omega)]; omega
      · rw [if_neg he, hg j hj]
        by_cases hjk : j < k
        · rw [if_pos hjk, if_pos (by omega)]
        · rw [if_neg hjk, if_neg (by omega)]
    · have : L = bfree b (out ++ [t]) := by
        refine gI_ext (by rw [bfree_len]; exact hL) fun j hj => ?_
        rw [hg j (by omega), if_pos (by omega), bfree_app, badd_get (by omega)]
      rw [← this]; exact o6'
  rintro _ _ ⟨e6', rfl, o6'⟩
  exact gi ⟨out ++ [t], e6', eo2, by simp; omega, hgo, hnd2, hlt2, rfl, o6', oo2⟩
theorem bank_safe_c {b : Bk} {sf sc sh : SV} {own : List Ent} {ro : Addr → Option Value} {post : Value → H → Prop} (hb : BkRd ⟨own, ro⟩ sf sc sh b)
    (h0 : bcheck b ≠ 0 → post (.tuple (List.toArray [.bool false, .slice none 0 0, errV (eno 57 (bcheck b))])) ⟨own, ro⟩)
    (h1 : BOk b → brow b = none → post (.tuple (List.toArray [.bool false, .slice none 0 0, .nilIface])) ⟨own, ro⟩) (h2 : ∀ (r : List Nat) (s' : SV) (e' : Ent), BOk b → brow b = some r → OwnsSl 1 s' e' (ints (r.map Int.ofNat)) → post (.tuple (List.toArray [.bool true, .slice s'.a s'.len s'.cap, .nilIface])) ⟨own ++ [e'], ro⟩) :
    SemCall Tryz.prog 48 (List.toArray [bkV sf sc sh]) ⟨own, ro⟩ post := by
  refine f48_call sf sc sh _ post ?_
  intro r1 _
  simp only [add_mk', Nat.zero_add, Nat.add_zero]
  have hup : BkRd ⟨own ++ [bkE r1 sf sc sh], ro⟩ sf sc sh b := hb.mono (fun e he => List.mem_append_left _ he) (fun _ _ h => h)
  have hE : bkE r1 sf sc sh ∈ own ++ [bkE r1 sf sc sh] := by simp
  refine ⟨sf, bkE_0 hE, sc, bkE_1 hE, sh, bkE_2 hE, bank_check_c hup ⟨_, rfl, VIf_nerr (fun hc => ⟨⟨own, ro⟩, Gh.drop (by simp), h0 hc⟩) (fun hc => ?_)⟩⟩
  have ho := bcheck_zero.1 hc
  refine ⟨sf, bkE_0 hE, sc, bkE_1 hE, sh, bkE_2 hE, bank_row_c hup ho (fun hr => ⟨⟨none, 0, 0⟩, false, rfl, ⟨⟨own, ro⟩, Gh.drop (by simp), h1 ho hr⟩⟩) (fun r s' e' hr o => ⟨s', true, rfl, ⟨⟨own ++ [e'], ro⟩, Gh.drop (by simp), h2 r s' e' ho hr o⟩⟩)⟩
/-! #### slices of slices, each of a row of its own -/
structure OwPar (xs : List Ent) (ss : List SV) (ls : List (List Int)) : Prop where
  l1 : xs.length = ss.length
  l2 : ss.length = ls.length
  g : ∀ (j : Nat) e s l, xs[j]? = some e → ss[j]? = some s → ls[j]? = some l → OwnsSl 1 s e (ints l)
theorem OwPar.nil : OwPar [] [] [] := ⟨rfl, rfl, by simp⟩
theorem OwPar.app {xs : List Ent} {ss : List SV} {ls : List (List Int)} (h : OwPar xs ss ls) {s : SV} {l : List Int} {e : Ent} (hr : OwnsSl 1 s e (ints l)) : OwPar (xs ++ [e]) (ss ++ [s]) (ls ++ [l]) := by
  refine ⟨by simp [h.l1], by simp [h.l2], fun j e' s' l' a b c => ?_⟩
  have := h.l1
  have := h.l2
  rcases app_cases a with ⟨a1, a2⟩ | ⟨a1, rfl⟩ <;> rcases app_cases b with ⟨b1, b2⟩ | ⟨b1, rfl⟩ <;> rcases app_cases c with ⟨c1, c2⟩ | ⟨c1, rfl⟩
  · exact h.g j e' s' l' a2 b2 c2
  · omega
  · omega
  · omega
  · omega
  · omega
  · omega
  · exact hr
theorem OwPar.set {xs : List Ent} {ss : List SV} {ls : List (List Int)} (h : OwPar xs ss ls) {p : Nat} {s : SV} {l : List Int} {e : Ent} (hs : ss[p]? = some s) (hr : OwnsSl 1 s e (ints l)) : OwPar (xs.set p e) ss (ls.set p l) := by
  refine ⟨by simp [h.l1], by simp [h.l2], fun j e' s' l' a b c => ?_⟩
  rcases set_cases a with ⟨a1, rfl⟩ | ⟨a1, a2⟩ <;> rcases set_cases c with ⟨c1, rfl⟩ | ⟨c1, c2⟩
  · subst a1; rw [hs] at b; cases b; exact hr
  · exact absurd a1 c1
  · exact absurd c1 a1
  · exact h.g j e' s' l' a2 b c2
theorem OwPar.rd {xs : List Ent} {ss : List SV} {ls : List (List Int)} (h : OwPar xs ss ls) {hh : H} {s : SV} (hs : RdSl hh s (ss.map svV)) (he : ∀ e ∈ xs, ∀ s xs, OwnsSl 1 s e xs → RdSl hh s xs) : ∃ rc, RdRowsOf hh s rc ∧ rc.map Prod.snd = ls := by
  refine ⟨ss.zip ls, ⟨?_, fun r hr => ?_⟩, List.map_snd_zip (by have := h.l2; omega)⟩
  · have e : (ss.zip ls).map (fun r => Value.slice r.1.a r.1.len r.1.cap) = ss.map svV := by
      conv => rhs; rw [← List.map_fst_zip (l₁ := ss) (l₂ := ls) (by have := h.l2; omega)]
      rw [List.map_map]; rfl
    rw [e]; exact hs
  · obtain ⟨j, hj⟩ := List.mem_iff_getElem?.1 hr
    rw [List.getElem?_zip_eq_some] at hj
    have hlt := (List.getElem?_eq_some_iff.1 hj.1).1
    obtain ⟨e, hx⟩ : ∃ e, xs[j]? = some e := ⟨_, List.getElem?_eq_getElem (by have := h.l1; omega)⟩
    exact he _ (List.mem_of_getElem? hx) _ _ (h.g j _ _ _ hx hj.1 hj.2)
set_option maxRecDepth 20000 in
theorem grows_rows : Grows Tryz.prog 23 22 1 := ⟨rfl, rfl, by decide, by decide, ⟨_, rfl, rfl, ⟨rfl, trivial⟩⟩⟩
theorem Wf.mid {A C : List Ent} {en en' : Ent} {ro : Addr → Option Value} (h : Wf ⟨A ++ en :: C, ro⟩) (he : en'.id = en.id) : Wf ⟨A ++ en' :: C, ro⟩ := h.ids (by simp [he])
theorem Wf.perm {own own' : List Ent} {ro : Addr → Option Value} (h : Wf ⟨own, ro⟩) (p : own'.Perm own) : Wf ⟨own', ro⟩ :=
  ⟨(List.Perm.nodup_iff (p.filterMap _)).2 h.nd, fun a v hv e he => h.ap a v hv e (p.mem_iff.1 he)⟩
/-- all is frozen that is a bank -/
theorem bk_frz {own X Y : List Ent} {ef eC eH : Ent} {ro : Addr → Option Value} {sf sC sH : SV} {ssC ssH : List SV} {b : Bk} (hw : Wf ⟨own ++ (ef :: eC :: eH :: (X ++ Y)), ro⟩) (of : OwnsSl 1 sf ef (ints b.free)) (oC : OwnsSl 1 sC eC (ssC.map svV)) (oH : OwnsSl 1 sH eH (ssH.map svV)) (pC : OwPar X ssC b.claim) (pH : OwPar Y ssH b.has) :
    ∃ ro', Gh ⟨own ++ (ef :: eC :: eH :: (X ++ Y)), ro⟩ ⟨own, ro'⟩ ∧ (∀ a v, ro a = some v → ro' a = some v) ∧ BkRd ⟨[], ro'⟩ sf sC sH b := by
  obtain ⟨ro', g, m, r⟩ := frzE (own := own) _ ro hw
  refine ⟨ro', g, m, r ef (by simp) _ _ of, pC.rd (r eC (by simp) _ _ oC) (fun e he s xs o => r e (by simp [he]) s xs o), pH.rd (r eH (by simp) _ _ oH) (fun e he s xs o => r e (by simp [he]) s xs o)⟩
end Go.Proofs.YtnppmcgmmdcpiaaGreatDoor
namespace Go.Proofs.YtnppmcgmmdcpiaaGreatDoor
open Go.Eng
set_option maxRecDepth 20000
/-! ### the bank, walked: what is moved -/
set_option maxHeartbeats 1600000 in
theorem bank_moved_c {b : Bk} {sf sc sh sw : SV} {want : List Int} {t sg : Int} {own : List Ent} {ro : Addr → Option Value} {post : Value → H → Prop} (hb : BkRd ⟨own, ro⟩ sf sc sh b) (hw : RdSl ⟨own, ro⟩ sw (ints want)) (ho : BOk b) (t0 : 0 ≤ t) (t1 : t < b.claim.length) (hwl : want.length = b.free.length)
    (hwr : ∀ k, k < b.free.length → 0 ≤ gI want k ∧ gI want k ≤ 1000) (hsg : sg = 1 ∨ sg = -1)
    (hk : ∀ (sf' sc' sh' : SV) ro', (∀ a v, ro a = some v → ro' a = some v) → BkRd ⟨[], ro'⟩ sf' sc' sh' (bmv b t.toNat want sg) → post (bkV sf' sc' sh') ⟨own, ro'⟩) :
    SemCall Tryz.prog 66 (List.toArray [bkV sf sc sh, .int .i64 t, .slice sw.a sw.len sw.cap, .int .i64 sg]) ⟨own, ro⟩ post := by
  obtain ⟨t, rfl⟩ : ∃ n : Nat, t = (n : Int) := ⟨t.toNat, by omega⟩
  rw [Int.toNat_natCast] at hk
  refine SemCall.wf fun hwf => ?_
  refine f66_call sf sc sh t sw sg _ post ?_
  intro r1 hf1 r3 hf3
  simp only [add_mk', Nat.zero_add, Nat.add_zero]
  have fl := hb.fl
  have cl := hb.cl
  have hl := hb.hl
  have hhl := ho.hl
  have hn3 := ho.n3
  have hm5 := ho.m5
  have htc : t < b.claim.length := by omega
  obtain ⟨E3, hE3⟩ : ∃ E3 : Ent, E3 = ⟨some r3, [Value.slice none 0 0, .slice none 0 0, .slice none 0 0], 3⟩ := ⟨_, rfl⟩
  have hE3' : (⟨some r3, [Value.slice none 0 0, .slice none 0 0, .slice none 0 0], List.length [Value.slice none 0 0, .slice none 0 0, .slice none 0 0]⟩ : Ent) = E3 := by rw [hE3]; rfl
  have hE1' : (⟨some r1, [Value.slice sf.a sf.len sf.cap, .slice sc.a sc.len sc.cap, .slice sh.a sh.len sh.cap], List.length [Value.slice sf.a sf.len sf.cap, .slice sc.a sc.len sc.cap, .slice sh.a sh.len sh.cap]⟩ : Ent) = bkE r1 sf sc sh := rfl
  have w1 := Wf.add (e := bkE r1 sf sc sh) hwf hf1 rfl
  rw [hE1'] at hf3
  have w3 := Wf.add (e := E3) w1 hf3 (by rw [hE3]; rfl)
  rw [hE1', hE3']
  have hup : ∀ {X : List Ent}, BkRd ⟨own ++ bkE r1 sf sc sh :: X, ro⟩ sf sc sh b := fun {X} => hb.mono (fun e he => List.mem_append_left _ he) (fun _ _ h => h)
  have hE : ∀ {X : List Ent}, bkE r1 sf sc sh ∈ own ++ bkE r1 sf sc sh :: X := fun {X} => by simp
  have hc2 : own ++ [bkE r1 sf sc sh] ++ [E3] = own ++ bkE r1 sf sc sh :: [E3] := by simp
  rw [hc2] at w3 ⊢
  refine ⟨sf, bkE_0 hE, SemCall.wfp (clone_c hup.f (by omega) (fun s8 ef of w8 => ⟨s8, rfl, ?_⟩))⟩
  have l8 := of.sl_len
  rw [ints_length] at l8
  have hc3 : own ++ bkE r1 sf sc sh :: [E3] ++ [ef] = own ++ bkE r1 sf sc sh :: E3 :: [ef] := by simp
  rw [hc3] at w8 ⊢
  intro r9 hf9
  have hE9' : (⟨some r9, [Value.slice none 0 0, .slice none 0 0, .slice none 0 0], List.length [Value.slice none 0 0, .slice none 0 0, .slice none 0 0]⟩ : Ent) = bkE r9 ⟨none, 0, 0⟩ ⟨none, 0, 0⟩ ⟨none, 0, 0⟩ := rfl
  have w9 := Wf.add (e := bkE r9 ⟨none, 0, 0⟩ ⟨none, 0, 0⟩ ⟨none, 0, 0⟩) w8 hf9 rfl
  rw [hE9']
  refine ⟨rfl, rfl, ?_⟩
  refine wro (own ++ bkE r1 sf sc sh :: E3 :: [ef]) (bkE r9 ⟨none, 0, 0⟩ ⟨none, 0, 0⟩ ⟨none, 0, 0⟩) [] ⟨rfl, rfl, rfl, trivial⟩ rfl rfl (by simp [bkE]) ?_
  have hE9 : (⟨(bkE r9 ⟨none, 0, 0⟩ ⟨none, 0, 0⟩ ⟨none, 0, 0⟩).aid, spl (bkE r9 ⟨none, 0, 0⟩ ⟨none, 0, 0⟩ ⟨none, 0, 0⟩).cells 0 [.slice s8.a s8.len s8.cap, .slice none 0 0, .slice none 0 0], (bkE r9 ⟨none, 0, 0⟩ ⟨none, 0, 0⟩ ⟨none, 0, 0⟩).cap⟩ : Ent) = bkE r9 s8 ⟨none, 0, 0⟩ ⟨none, 0, 0⟩ := rfl
  rw [hE9]
  have w10 : Wf ⟨own ++ bkE r1 sf sc sh :: E3 :: [ef] ++ [bkE r9 s8 ⟨none, 0, 0⟩ ⟨none, 0, 0⟩], ro⟩ := w9.mid rfl
  -- the layout
  let L : Ent → SV → SV → Ent → Ent → List Ent → List Ent → List Ent := fun ef sC sH eC eH X Y => own ++ bkE r1 sf sc sh :: E3 :: ef :: bkE r9 s8 sC sH :: eC :: eH :: (X ++ Y)
  refine ⟨sc, bkE_1 (r := r1) (sf := sf) (sh := sh) (by simp), ?_⟩
  refine ⟨fun h => ∃ (eC eH : Ent) (sC sH : SV) (X Y : List Ent) (ssC ssH : List SV), h = ⟨L ef sC sH eC eH X Y, ro⟩ ∧ Wf h ∧ OwnsSl 1 sC eC (ssC.map svV) ∧ OwnsSl 1 sH eH (ssH.map svV) ∧ OwPar X ssC b.claim ∧ OwPar Y ssH b.has,
    ⟨fun n x h => ∃ (k : Nat) (eC eH : Ent) (sC sH : SV) (X Y : List Ent) (ssC ssH : List SV), x = (k : Int) ∧ k ≤ b.claim.length ∧ n = b.claim.length - k ∧ h = ⟨L ef sC sH eC eH X Y, ro⟩ ∧ Wf h ∧ OwnsSl 1 sC eC (ssC.map svV) ∧ OwnsSl 1 sH eH (ssH.map svV) ∧ OwPar X ssC (b.claim.take k) ∧ OwPar Y ssH (b.has.take k),
      ⟨_, ⟨L ef ⟨none, 0, 0⟩ ⟨none, 0, 0⟩ ⟨none, [], 0⟩ ⟨none, [], 0⟩ [] [], ro⟩, ?_, 0, _, _, _, _, [], [], [], [], rfl, Nat.zero_le _, rfl, rfl, ?_, OwnsSl.nil 1, OwnsSl.nil 1, OwPar.nil, OwPar.nil⟩, ?_⟩, ?_⟩
  · have g1 := Gh.phantom (own ++ bkE r1 sf sc sh :: E3 :: [ef] ++ [bkE r9 s8 ⟨none, 0, 0⟩ ⟨none, 0, 0⟩]) [] ro 0
    have g2 := Gh.phantom (own ++ bkE r1 sf sc sh :: E3 :: [ef] ++ [bkE r9 s8 ⟨none, 0, 0⟩ ⟨none, 0, 0⟩]) [⟨none, [], 0⟩] ro 0
    simpa [L] using g1.trans g2
  · have w11 := Wf.ph (A := own ++ bkE r1 sf sc sh :: E3 :: [ef] ++ [bkE r9 s8 ⟨none, 0, 0⟩ ⟨none, 0, 0⟩]) (C := []) (by simpa using w10)
    have w12 := Wf.ph (A := own ++ bkE r1 sf sc sh :: E3 :: [ef] ++ [bkE r9 s8 ⟨none, 0, 0⟩ ⟨none, 0, 0⟩]) (C := [⟨none, [], 0⟩]) (by simpa using w11)
    simpa [L] using w12
  · rintro n _ x _ ⟨k, eC, eH, sC, sH, X, Y, ssC, ssH, rfl, hk', rfl, rfl, hw', oC, oH, pC, pH⟩
    refine VIf_dec (fun hi => ?_) (fun hi => gi ⟨eC, eH, sC, sH, X, Y, ssC, ssH, rfl, hw', oC, oH, ?_, ?_⟩)
    rotate_left
    · rwa [List.take_of_length_le (by omega)] at pC
    · rwa [List.take_of_length_le (by omega)] at pH
    have hkc : k < b.claim.length := by omega
    have hkh : k < b.has.length := by omega
    have lC := oC.sl_len
    have lH := oH.sl_len
    rw [List.length_map] at lC lH
    have pl := pC.l2
    have pl2 := pH.l2
    rw [List.length_take] at pl pl2
    have eclaim : b.claim[k]? = some ((b.claim[k]?).getD []) := by rw [List.getElem?_eq_getElem hkc]; rfl
    have ehas : b.has[k]? = some ((b.has[k]?).getD []) := by rw [List.getElem?_eq_getElem hkh]; rfl
    obtain ⟨cn1, cn2⟩ := ho.cn k hkc
    refine ⟨sC, bkE_1 (r := r9) (sf := s8) (sh := sH) (by simp [L]), sc, bkE_1 hE, hup.ca (by omega) (by omega) fun xc hxc hlc => ?_⟩
    rw [Int.toNat_natCast] at hxc hlc
    refine SemCall.wfp (clone_c hxc (by omega) (fun s26 e26 o26 w26 => ⟨⟨[e26], List.Perm.refl _⟩, s26, rfl, ?_⟩))
    refine app_rowW grows_rows (vs := [svV s26]) rfl ⟨rfl, trivial⟩ (own ++ bkE r1 sf sc sh :: E3 :: ef :: [bkE r9 s8 sC sH]) eC (eH :: (X ++ Y) ++ [e26]) (by simp [L]) oC w26 (by omega) (fun sC2 eC2 oC2 lC2 wC2 => ?_)
    refine wro (own ++ bkE r1 sf sc sh :: E3 :: [ef]) (bkE r9 s8 sC sH) (eC2 :: eH :: (X ++ Y) ++ [e26]) ⟨rfl, trivial⟩ (by simp) rfl (by simp [bkE]) ?_
    have hE92 : (⟨(bkE r9 s8 sC sH).aid, spl (bkE r9 s8 sC sH).cells 1 [.slice sC2.a sC2.len sC2.cap], (bkE r9 s8 sC sH).cap⟩ : Ent) = bkE r9 s8 sC2 sH := rfl
    rw [hE92]
    have wD : Wf ⟨own ++ bkE r1 sf sc sh :: E3 :: [ef] ++ bkE r9 s8 sC2 sH :: (eC2 :: eH :: (X ++ Y) ++ [e26]), ro⟩ := wC2.ids (by simp [bkE])
    refine ⟨sH, bkE_2 (r := r9) (sf := s8) (sc := sC2) (by simp), sh, bkE_2 (r := r1) (sf := sf) (sc := sc) (by simp), ?_⟩
    have hup2 : BkRd ⟨own ++ bkE r1 sf sc sh :: E3 :: [ef] ++ bkE r9 s8 sC2 sH :: (eC2 :: eH :: (X ++ Y) ++ [e26]), ro⟩ sf sc sh b := hb.mono (fun e he => by simp [he]) (fun _ _ h => h)
    refine hup2.ha (by omega) (by omega) fun xh hxh hlh => ?_
    rw [Int.toNat_natCast] at hxh hlh
    refine SemCall.wfp (clone_c hxh (by omega) (fun s38 e38 o38 w38 => ⟨⟨[e38], List.Perm.refl _⟩, s38, rfl, ?_⟩))
    refine app_rowW grows_rows (vs := [svV s38]) rfl ⟨rfl, trivial⟩ (own ++ bkE r1 sf sc sh :: E3 :: ef :: bkE r9 s8 sC2 sH :: [eC2]) eH ((X ++ Y) ++ [e26] ++ [e38]) (by simp) oH w38 (by omega) (fun sH2 eH2 oH2 lH2 wH2 => ?_)
    refine wro (own ++ bkE r1 sf sc sh :: E3 :: [ef]) (bkE r9 s8 sC2 sH) (eC2 :: eH2 :: (X ++ Y) ++ [e26] ++ [e38]) ⟨rfl, trivial⟩ (by simp) rfl (by simp [bkE]) ?_
    have hE93 : (⟨(bkE r9 s8 sC2 sH).aid, spl (bkE r9 s8 sC2 sH).cells 2 [.slice sH2.a sH2.len sH2.cap], (bkE r9 s8 sC2 sH).cap⟩ : Ent) = bkE r9 s8 sC2 sH2 := rfl
    rw [hE93]
    have wE : Wf ⟨own ++ bkE r1 sf sc sh :: E3 :: [ef] ++ bkE r9 s8 sC2 sH2 :: (eC2 :: eH2 :: (X ++ Y) ++ [e26] ++ [e38]), ro⟩ := wH2.ids (by simp [bkE])
    have hperm : (L ef sC2 sH2 eC2 eH2 (X ++ [e26]) (Y ++ [e38])).Perm (own ++ bkE r1 sf sc sh :: E3 :: [ef] ++ bkE r9 s8 sC2 sH2 :: (eC2 :: eH2 :: (X ++ Y) ++ [e26] ++ [e38])) := by
      simp only [L, List.append_assoc, List.cons_append, List.nil_append, List.singleton_append]
      refine List.Perm.append_left _ (.cons _ (.cons _ (.cons _ (.cons _ (.cons _ (.cons _ ?_))))))
      refine List.Perm.append_left _ ?_
      exact List.perm_middle.symm
    refine ⟨⟨by omega, by omega⟩, b.claim.length - (k + 1), by omega, ⟨L ef sC2 sH2 eC2 eH2 (X ++ [e26]) (Y ++ [e38]), ro⟩, Gh.perm hperm, k + 1, eC2, eH2, sC2, sH2, X ++ [e26], Y ++ [e38], ssC ++ [s26], ssH ++ [s38], by omega, by omega, rfl, rfl, wE.perm hperm, by simpa using oC2, by simpa using oH2, ?_, ?_⟩
    · rw [List.take_add_one, eclaim]; exact pC.app o26
    · rw [List.take_add_one, ehas]; exact pH.app o38
  rintro _ _ ⟨eC, eH, sC, sH, X, Y, ssC, ssH, rfl, hw', oC, oH, pC, pH⟩
  have lH := oH.sl_len
  rw [List.length_map] at lH
  have pl2 := pH.l2
  have pl1 := pH.l1
  have htl : t < b.has.length := by omega
  obtain ⟨cn1, cn2⟩ := ho.cn t htc
  have hsb : ∀ v : Int, 0 ≤ v ∧ v ≤ 1000 → -1000 ≤ sg * v ∧ sg * v ≤ 1000 := fun v hv => by
    rcases hsg with h | h <;> subst h <;> omega
  obtain ⟨st, hst⟩ : ∃ st, ssH[t]? = some st := ⟨_, List.getElem?_eq_getElem (by omega)⟩
  obtain ⟨et, het⟩ : ∃ et, Y[t]? = some et := ⟨_, List.getElem?_eq_getElem (by omega)⟩
  have hht : b.has[t]? = some ((b.has[t]?).getD []) := by rw [List.getElem?_eq_getElem htl]; rfl
  obtain ⟨Y1, Y2, hY, hYl⟩ : ∃ Y1 Y2, Y = Y1 ++ et :: Y2 ∧ Y1.length = t := by
    obtain ⟨h5, h6⟩ := List.getElem?_eq_some_iff.1 het
    exact ⟨Y.take t, Y.drop (t + 1), by rw [← h6, List.getElem_cons_drop, List.take_append_drop], by simp; omega⟩
  have hYs : ∀ e, Y.set t e = Y1 ++ e :: Y2 := fun e => by rw [hY, ← hYl, List.set_append_right _ _ (Nat.le_refl _)]; simp
  have hwr2 : ∀ {own2 : List Ent}, (∀ e ∈ own, e ∈ own2) → RdSl ⟨own2, ro⟩ sw (ints want) := fun h => hw.mono h (fun _ _ h => h)
  have swl := hw.len
  rw [ints_length] at swl
  refine ⟨fun h => ∃ (ef et : Ent), h = ⟨L ef sC sH eC eH X (Y.set t et), ro⟩ ∧ Wf h ∧ OwnsSl 1 s8 ef (ints (bmv b t want sg).free) ∧ OwnsSl 1 st et (ints ((List.range b.free.length).map fun k => g2 b.has t k + sg * gI want k)),
    ⟨fun n x h => ∃ (k : Nat) (ef et : Ent) (F G : List Int), x = (k : Int) ∧ k ≤ b.free.length ∧ n = b.free.length - k ∧ h = ⟨L ef sC sH eC eH X (Y.set t et), ro⟩ ∧ Wf h ∧ OwnsSl 1 s8 ef (ints F) ∧ OwnsSl 1 st et (ints G) ∧ F.length = b.free.length ∧ G.length = b.free.length ∧
      (∀ j, j < b.free.length → gI F j = gI b.free j - if j < k then sg * gI want j else 0) ∧ (∀ j, j < b.free.length → gI G j = g2 b.has t j + if j < k then sg * gI want j else 0),
      ⟨_, gi ⟨0, ef, et, b.free, (b.has[t]?).getD [], rfl, Nat.zero_le _, rfl, ?_, ?_, of, pH.g t et st _ het hst hht, rfl, cn2, fun j hj => by rw [if_neg (by omega)]; omega, fun j hj => by rw [if_neg (by omega)]; show g2 b.has t j = _; omega⟩⟩, ?_⟩, ?_⟩
  · show _ = (⟨L ef sC sH eC eH X (Y.set t et), ro⟩ : H)
    rw [hYs, hY]
  · exact hw'
  · rintro n _ x _ ⟨k, ef, et, F, G, rfl, hk', rfl, rfl, hw2, oF, oG, lF, lG, gF, gG⟩
    have lsF := oF.sl_len
    have lsG := oG.sl_len
    rw [ints_length] at lsF lsG
    refine VIf_dec (fun hi => ?_) (fun hi => gi ⟨ef, et, rfl, hw2, ?_, ?_⟩)
    rotate_left
    · have : F = (bmv b t want sg).free := gI_ext (by rw [bmv_fl]; exact lF) fun j hj => by rw [gF j (by omega), if_pos (by omega), bmv_free (by omega)]
      rw [← this]; exact oF
    · have : G = (List.range b.free.length).map fun k => g2 b.has t k + sg * gI want k := gI_ext (by simpa using lG) fun j hj => by rw [gG j (by omega), if_pos (by omega), gI_rm (by omega)]
      rw [← this]; exact oG
    have hkf : k < b.free.length := by omega
    have hm9 : ∀ ef et, bkE r9 s8 sC sH ∈ L ef sC sH eC eH X (Y.set t et) := fun ef et => by simp [L]
    refine idxG (hwr2 (fun e he => by simp [L, he])) (by omega) (by omega) ⟨s8, bkE_0 (hm9 ef et), ?_⟩
    refine idxG (xs := F) (RdSl.of_own (e := ef) (by simp [L]) oF) (by omega) (by omega) ?_
    rw [Int.toNat_natCast, gF k hkf, if_neg (by omega)]
    have hv := hsb _ (hwr k hkf)
    have hf := ho.f k hkf
    have hc := ho.c t k htc hkf
    refine ⟨⟨by omega, by omega⟩, ⟨by omega, by omega⟩, wr_at (own ++ bkE r1 sf sc sh :: [E3]) ef (bkE r9 s8 sC sH :: eC :: eH :: (X ++ Y.set t et)) (by simp [L]) oF (by omega) (by omega) (fun ef2 oF2 hid => ?_)⟩
    have hcat4 : own ++ bkE r1 sf sc sh :: [E3] ++ ef2 :: bkE r9 s8 sC sH :: eC :: eH :: (X ++ Y.set t et) = L ef2 sC sH eC eH X (Y.set t et) := by simp [L]
    rw [hcat4]
    have hw3 : Wf ⟨L ef2 sC sH eC eH X (Y.set t et), ro⟩ := hw2.ids (by simp [L, hid])
    refine ⟨sH, bkE_2 (hm9 ef2 et), ?_⟩
    have hrs : RdSl ⟨L ef2 sC sH eC eH X (Y.set t et), ro⟩ sH (ssH.map svV) := RdSl.of_own (e := eH) (by simp [L]) oH
    refine hrs.idxM (by omega) (by omega) (fun x hx => ?_)
    rw [Int.toNat_natCast, hst] at hx
    cases hx
    refine idxG (xs := G) (RdSl.of_own (e := et) (by simp [L, hYs]) oG) (by omega) (by omega) ?_
    rw [Int.toNat_natCast, gG k hkf, if_neg (by omega)]
    refine ⟨⟨by omega, by omega⟩, ⟨by omega, by omega⟩, wr_at (own ++ bkE r1 sf sc sh :: E3 :: ef2 :: bkE r9 s8 sC sH :: eC :: eH :: (X ++ Y1)) et Y2 (by simp [L, hYs]) oG (by omega) (by omega) (fun et2 oG2 hid2 => ?_)⟩
    have hcat5 : own ++ bkE r1 sf sc sh :: E3 :: ef2 :: bkE r9 s8 sC sH :: eC :: eH :: (X ++ Y1) ++ et2 :: Y2 = L ef2 sC sH eC eH X (Y.set t et2) := by simp [L, hYs]
    rw [hcat5]
    refine ⟨⟨by omega, by omega⟩, b.free.length - (k + 1), by omega, gi ⟨k + 1, ef2, et2, _, _, by omega, by omega, rfl, rfl, hw3.ids (by simp [L, hYs, hid2]), oF2, oG2, by simpa using lF, by simpa using lG, fun j hj => ?_, fun j hj => ?_⟩⟩
    · rw [Int.toNat_natCast, gI_bset (by omega)]
      by_cases he : j = k
      · subst he; rw [if_pos rfl, if_pos (by omega)]; omega
      · rw [if_neg he, gF j hj]
        by_cases hjk : j < k
        · rw [if_pos hjk, if_pos (by omega)]
        · rw [if_neg hjk, if_neg (by omega)]
    · rw [Int.toNat_natCast, gI_bset (by omega)]
      by_cases he : j = k
      · subst he; rw [if_pos rfl, if_pos (by omega)]; omega
      · rw [if_neg he, gG j hj]
        by_cases hjk : j < k
        · rw [if_pos hjk, if_pos (by omega)]
        · rw [if_neg hjk, if_neg (by omega)]
  rintro _ _ ⟨ef, et, rfl, hw2, oF, oG⟩
  have hm9 : bkE r9 s8 sC sH ∈ L ef sC sH eC eH X (Y.set t et) := by simp [L]
  refine ⟨s8, bkE_0 hm9, sC, bkE_1 hm9, sH, bkE_2 hm9, rfl, rfl, ?_⟩
  refine wro (own ++ [bkE r1 sf sc sh]) E3 (ef :: bkE r9 s8 sC sH :: eC :: eH :: (X ++ Y.set t et)) ⟨rfl, rfl, rfl, trivial⟩ (by simp [L]) (by rw [hE3]) (by rw [hE3]; simp) ?_
  have hE33 : (⟨E3.aid, spl E3.cells 0 [.slice s8.a s8.len s8.cap, .slice sC.a sC.len sC.cap, .slice sH.a sH.len sH.cap], E3.cap⟩ : Ent) = bkE r3 s8 sC sH := by rw [hE3]; rfl
  rw [hE33]
  refine ⟨s8, bkE_0 (r := r3) (sc := sC) (sh := sH) (by simp), sC, bkE_1 (r := r3) (sf := s8) (sh := sH) (by simp), sH, bkE_2 (r := r3) (sf := s8) (sc := sC) (by simp), ?_⟩
  have pH2 : OwPar (Y.set t et) ssH (bmv b t want sg).has := pH.set hst oG
  have hwl2 : Wf ⟨own ++ (ef :: eC :: eH :: (X ++ Y.set t et)), ro⟩ := hw2.sub (by
    refine List.Sublist.append_left ?_ _
    refine .cons _ (.cons _ (.cons_cons _ (.cons _ (List.Sublist.refl _)))))
  obtain ⟨ro', g, m, rd⟩ := bk_frz (b := bmv b t want sg) hwl2 oF oC oH pC pH2
  refine ⟨⟨own, ro'⟩, (Gh.drop ?_).trans g, hk s8 sC sH ro' m rd⟩
  rw [List.append_assoc]
  refine List.Sublist.append_left ?_ _
  exact .cons _ (.cons _ (.cons_cons _ (.cons _ (List.Sublist.refl _))))
end Go.Proofs.YtnppmcgmmdcpiaaGreatDoor
namespace Go.Proofs.YtnppmcgmmdcpiaaGreatDoor
open Go.Eng
set_option maxRecDepth 20000
/-! ### the bank, walked: asked, given back -/
open Classical in
noncomputable def basked (b : Bk) (t : Int) (want : List Int) : Int :=
  if bcheck b ≠ 0 then bcheck b else if ¬ (0 ≤ t ∧ t ≤ (b.claim.length : Int) - 1) then 1 else if want.length ≠ b.free.length then 3 else if ∃ k, k < want.length ∧ ¬ (0 ≤ gI want k ∧ gI want k ≤ 1000) then 1 else 0
structure BAsk (b : Bk) (t : Int) (want : List Int) : Prop where
  ok : BOk b
  t0 : 0 ≤ t
  t1 : t < b.claim.length
  l : want.length = b.free.length
  w : ∀ k, k < b.free.length → 0 ≤ gI want k ∧ gI want k ≤ 1000
theorem basked_zero {b : Bk} {t : Int} {want : List Int} (h : basked b t want = 0) : BAsk b t want := by
  unfold basked at h
  split at h
  · rename_i h1; exact absurd h h1
  split at h
  · cases h
  split at h
  · cases h
  split at h
  · cases h
  rename_i h1 h2 h3 h4
  have h1 : bcheck b = 0 := Classical.byContradiction h1
  exact ⟨bcheck_zero.1 h1, by omega, by omega, by omega, fun k hk => Classical.byContradiction fun hc => h4 ⟨k, by omega, hc⟩⟩
theorem basked_of {b : Bk} {t : Int} {want : List Int} (h : BAsk b t want) : basked b t want = 0 := by
  have := h.t0; have := h.t1; have := h.l
  unfold basked
  rw [if_neg (fun hc => hc (bcheck_zero.2 h.ok)), if_neg (fun hc => hc ⟨by omega, by omega⟩), if_neg (by omega), if_neg]
  rintro ⟨k, hk, hc⟩; exact hc (h.w k (by omega))
open Classical in
noncomputable def bask (b : Bk) (t : Int) (want : List Int) : Int :=
  if basked b t want ≠ 0 then basked b t want else if ∃ k, k < want.length ∧ g2 b.has t.toNat k + gI want k > g2 b.claim t.toNat k then 6 else if ∃ k, k < want.length ∧ gI want k > gI b.free k then 5 else if brow (bmv b t.toNat want 1) = none then 7 else 0
open Classical in
noncomputable def bback (b : Bk) (t : Int) (want : List Int) : Int :=
  if basked b t want ≠ 0 then basked b t want else if ∃ k, k < want.length ∧ gI want k > g2 b.has t.toNat k then 5 else 0
theorem bask_mv {b : Bk} {t : Int} {want : List Int} (h : BAsk b t want) (h1 : ∀ k, k < want.length → g2 b.has t.toNat k + gI want k ≤ g2 b.claim t.toNat k) (h2 : ∀ k, k < want.length → gI want k ≤ gI b.free k) : BOk (bmv b t.toNat want 1) := by
  have := h.t0; have := h.t1; have hl := h.l
  refine bmv_ok h.ok (by omega) (fun k hk => ?_) (fun k hk => ?_)
  · have := h.w k hk; have := h.ok.f k hk; have := h2 k (by omega); omega
  · have := h.w k hk; have := (h.ok.c t.toNat k (by omega) hk); have := h1 k (by omega); omega
theorem bank_asked_c {b : Bk} {sf sc sh sw : SV} {want : List Int} {t : Int} {own : List Ent} {ro : Addr → Option Value} {post : Value → H → Prop} (hb : BkRd ⟨own, ro⟩ sf sc sh b) (hw : RdSl ⟨own, ro⟩ sw (ints want))
    (hk : post (errV (eno 57 (basked b t want))) ⟨own, ro⟩) : SemCall Tryz.prog 65 (List.toArray [bkV sf sc sh, .int .i64 t, .slice sw.a sw.len sw.cap]) ⟨own, ro⟩ post := by
  refine f65_call sf sc sh t sw _ post ?_
  intro r1 _
  simp only [add_mk', Nat.zero_add, Nat.add_zero]
  have hup : BkRd ⟨own ++ [bkE r1 sf sc sh], ro⟩ sf sc sh b := hb.mono (fun e he => List.mem_append_left _ he) (fun _ _ h => h)
  have hwu : RdSl ⟨own ++ [bkE r1 sf sc sh], ro⟩ sw (ints want) := hw.mono (fun e he => List.mem_append_left _ he) (fun _ _ h => h)
  have hE : bkE r1 sf sc sh ∈ own ++ [bkE r1 sf sc sh] := by simp
  have done : ∀ {v : Value}, v = errV (eno 57 (basked b t want)) → VRet ⟨own ++ [bkE r1 sf sc sh], ro⟩ v post := fun {v} hv => ⟨⟨own, ro⟩, Gh.drop (by simp), by rw [hv]; exact hk⟩
  have cl := hb.cl
  have fl := hb.fl
  have swl := hw.len
  rw [ints_length] at swl
  refine ⟨sf, bkE_0 hE, sc, bkE_1 hE, sh, bkE_2 hE, bank_check_c hup ⟨_, rfl, VIf_nerr (fun hc => done ?_) (fun hc => ?_)⟩⟩
  · rw [basked, if_pos hc]
  have ho := bcheck_zero.1 hc
  have hm5 := ho.m5
  have hn3 := ho.n3
  refine ⟨sc, bkE_1 hE, ⟨by omega, by omega⟩, within_i (fun ht => ⟨_, rfl, VIf_nb (fun _ => done ?_) (nomatch ·)⟩) (fun t0 t1 => ⟨_, rfl, VIf_nb (nomatch ·) (fun _ => ?_)⟩)⟩
  · rw [basked, if_neg (by simpa using hc), if_pos (by omega)]; rfl
  refine ⟨sf, bkE_0 hE, VIf_ne (fun hl => done ?_) (fun hl => ?_)⟩
  · rw [basked, if_neg (by simpa using hc), if_neg (by omega), if_pos (by omega)]; rfl
  refine ⟨fun h => h = ⟨own ++ [bkE r1 sf sc sh], ro⟩ ∧ ∀ k, k < want.length → 0 ≤ gI want k ∧ gI want k ≤ 1000,
    ⟨fun n i h => ∃ k : Nat, i = (k : Int) ∧ k ≤ want.length ∧ n = want.length - k ∧ h = ⟨own ++ [bkE r1 sf sc sh], ro⟩ ∧ ∀ j, j < k → 0 ≤ gI want j ∧ gI want j ≤ 1000, ⟨_, gi ⟨0, rfl, Nat.zero_le _, rfl, rfl, fun j hj => by omega⟩⟩, ?_⟩, ?_⟩
  · rintro n _ i _ ⟨k, rfl, hk', rfl, rfl, hall⟩
    refine VIf_dec (fun hi => ?_) (fun hi => gi ⟨rfl, fun t ht => hall t (by omega)⟩)
    refine idxG hwu (by omega) (by omega) (within_i (fun hc2 => ⟨_, rfl, VIf_nb (fun _ => done ?_) (nomatch ·)⟩) (fun c0 c1 => ⟨_, rfl, VIf_nb (nomatch ·) (fun _ => ⟨⟨by omega, by omega⟩, want.length - (k + 1), by omega, gi ⟨k + 1, by omega, by omega, rfl, rfl, fun t ht => ?_⟩⟩)⟩))
    · rw [Int.toNat_natCast] at hc2
      rw [basked, if_neg (by simpa using hc), if_neg (by omega), if_neg (by omega), if_pos ⟨k, by omega, hc2⟩]; rfl
    · rw [Int.toNat_natCast] at c0 c1
      by_cases he : t = k
      · subst he; exact ⟨c0, c1⟩
      · exact hall t (by omega)
  rintro _ _ ⟨rfl, hall⟩
  refine done ?_
  rw [basked_of ⟨ho, t0, by omega, by omega, fun k hk => hall k (by omega)⟩]; rfl
theorem bk_out {own : List Ent} {ro : Addr → Option Value} {r3 : Nat} {sf sc sh : SV} {cs : List Value} {K : SV → SV → SV → H → Prop} (A C : List Ent) (hown : own = A ++ ⟨some r3, cs, 3⟩ :: C) (hcs : cs.length = 3) (hK : K sf sc sh ⟨A ++ bkE r3 sf sc sh :: C, ro⟩) :
    H.wr ⟨own, ro⟩ (Addr.mk r3 0 none) [.slice sf.a sf.len sf.cap, .slice sc.a sc.len sc.cap, .slice sh.a sh.len sh.cap] fun h => ∃ x : SV, H.rd h (Addr.mk r3 0 none) (.slice x.a x.len x.cap) ∧ ∃ y : SV, H.rd h (Addr.mk r3 1 none) (.slice y.a y.len y.cap) ∧ ∃ z : SV, H.rd h (Addr.mk r3 2 none) (.slice z.a z.len z.cap) ∧ K x y z h := by
  refine wro A ⟨some r3, cs, 3⟩ C ⟨rfl, rfl, rfl, trivial⟩ hown rfl (by simp [hcs]) ?_
  have e : (⟨some r3, spl cs 0 [.slice sf.a sf.len sf.cap, .slice sc.a sc.len sc.cap, .slice sh.a sh.len sh.cap], 3⟩ : Ent) = bkE r3 sf sc sh := by
    have : cs.drop 3 = [] := List.drop_eq_nil_of_le (by omega)
    simp [spl, bkE, this]
  rw [e]
  exact ⟨sf, bkE_0 (sc := sc) (sh := sh) (by simp), sc, bkE_1 (sf := sf) (sh := sh) (by simp), sh, bkE_2 (sf := sf) (sc := sc) (by simp), hK⟩
def nilV : SV := ⟨none, 0, 0⟩
theorem ha_all {own own2 : List Ent} {ro : Addr → Option Value} {sf sc sh : SV} {b : Bk} (r : BkRd ⟨own, ro⟩ sf sc sh b) (hs : ∀ e ∈ own, e ∈ own2) : BkRd ⟨own2, ro⟩ sf sc sh b := r.mono hs (fun _ _ h => h)
set_option maxHeartbeats 800000 in
theorem bank_ask_c {b : Bk} {sf sc sh sw : SV} {want : List Int} {t : Int} {own : List Ent} {ro : Addr → Option Value} {post : Value → H → Prop} (hb : BkRd ⟨own, ro⟩ sf sc sh b) (hw : RdSl ⟨own, ro⟩ sw (ints want))
    (h0 : bask b t want ≠ 0 → ∀ ro', (∀ a v, ro a = some v → ro' a = some v) → post (.tuple (List.toArray [bkV nilV nilV nilV, errV (eno 57 (bask b t want))])) ⟨own, ro'⟩)
    (h1 : bask b t want = 0 → BAsk b t want → BOk (bmv b t.toNat want 1) → ∀ sf' sc' sh' ro', (∀ a v, ro a = some v → ro' a = some v) → BkRd ⟨[], ro'⟩ sf' sc' sh' (bmv b t.toNat want 1) → post (.tuple (List.toArray [bkV sf' sc' sh', errV none])) ⟨own, ro'⟩) :
    SemCall Tryz.prog 39 (List.toArray [bkV sf sc sh, .int .i64 t, .slice sw.a sw.len sw.cap]) ⟨own, ro⟩ post := by
  refine f39_call sf sc sh t sw _ post ?_
  intro r1 _ r3 _
  simp only [add_mk', Nat.zero_add, Nat.add_zero]
  obtain ⟨E3, hE3⟩ : ∃ E3 : Ent, E3 = ⟨some r3, [Value.slice none 0 0, .slice none 0 0, .slice none 0 0], 3⟩ := ⟨_, rfl⟩
  have hE3' : (⟨some r3, [Value.slice none 0 0, .slice none 0 0, .slice none 0 0], List.length [Value.slice none 0 0, .slice none 0 0, .slice none 0 0]⟩ : Ent) = E3 := by rw [hE3]; rfl
  have hE1' : (⟨some r1, [Value.slice sf.a sf.len sf.cap, .slice sc.a sc.len sc.cap, .slice sh.a sh.len sh.cap], List.length [Value.slice sf.a sf.len sf.cap, .slice sc.a sc.len sc.cap, .slice sh.a sh.len sh.cap]⟩ : Ent) = bkE r1 sf sc sh := rfl
  have hc2 : own ++ [bkE r1 sf sc sh] ++ [E3] = own ++ [bkE r1 sf sc sh, E3] := by simp
  rw [hE1', hE3', hc2]
  have hup : BkRd ⟨own ++ [bkE r1 sf sc sh, E3], ro⟩ sf sc sh b := ha_all hb (fun e he => List.mem_append_left _ he)
  have hwu : RdSl ⟨own ++ [bkE r1 sf sc sh, E3], ro⟩ sw (ints want) := hw.mono (fun e he => List.mem_append_left _ he) (fun _ _ h => h)
  have hE : bkE r1 sf sc sh ∈ own ++ [bkE r1 sf sc sh, E3] := by simp
  have swl := hw.len
  rw [ints_length] at swl
  have cl := hb.cl
  have fl := hb.fl
  have hhl' := hb.hl
  have bad : ∀ {ro' : Addr → Option Value} {X : List Ent} {v : Value}, bask b t want ≠ 0 → (∀ a v, ro a = some v → ro' a = some v) → v = errV (eno 57 (bask b t want)) →
      H.wr ⟨own ++ [bkE r1 sf sc sh, E3] ++ X, ro'⟩ (Addr.mk r3 0 none) [.slice none 0 0, .slice none 0 0, .slice none 0 0] fun h => ∃ x : SV, H.rd h (Addr.mk r3 0 none) (.slice x.a x.len x.cap) ∧ ∃ y : SV, H.rd h (Addr.mk r3 1 none) (.slice y.a y.len y.cap) ∧ ∃ z : SV, H.rd h (Addr.mk r3 2 none) (.slice z.a z.len z.cap) ∧ VRet h (.tuple (List.toArray [.agg (List.toArray [.slice x.a x.len x.cap, .slice y.a y.len y.cap, .slice z.a z.len z.cap]), v])) post := by
    intro ro' X v hne hm hv
    refine bk_out (sf := nilV) (sc := nilV) (sh := nilV) (cs := [Value.slice none 0 0, .slice none 0 0, .slice none 0 0]) (own ++ [bkE r1 sf sc sh]) X (by simp [hE3]) rfl ?_
    rw [hv]
    exact ⟨⟨own, ro'⟩, Gh.drop (by simp), h0 hne ro' hm⟩
  have bad0 := fun {v : Value} (hne : bask b t want ≠ 0) (hv : v = errV (eno 57 (bask b t want))) => by
    have := bad (ro' := ro) (X := []) hne (fun _ _ h => h) hv
    rwa [List.append_nil] at this
  refine ⟨sf, bkE_0 hE, sc, bkE_1 hE, sh, bkE_2 hE, bank_asked_c hup hwu ⟨_, rfl, VIf_nerr (fun hc => ⟨rfl, rfl, bad0 ?_ ?_⟩) (fun hc => ?_)⟩⟩
  · rw [bask, if_pos hc]; exact hc
  · rw [bask, if_pos hc]
  have hA := basked_zero hc
  obtain ⟨ho, t0, t1, hl, hwr⟩ := hA
  have hA : BAsk b t want := ⟨ho, t0, t1, hl, hwr⟩
  have hm5 := ho.m5
  have hn3 := ho.n3
  have hhl := ho.hl
  obtain ⟨cn1, cn2⟩ := ho.cn t.toNat (by omega)
  refine ⟨fun h => h = ⟨own ++ [bkE r1 sf sc sh, E3], ro⟩ ∧ ∀ k, k < want.length → g2 b.has t.toNat k + gI want k ≤ g2 b.claim t.toNat k,
    ⟨fun n i h => ∃ k : Nat, i = (k : Int) ∧ k ≤ want.length ∧ n = want.length - k ∧ h = ⟨own ++ [bkE r1 sf sc sh, E3], ro⟩ ∧ ∀ j, j < k → g2 b.has t.toNat j + gI want j ≤ g2 b.claim t.toNat j, ⟨_, gi ⟨0, rfl, Nat.zero_le _, rfl, rfl, fun j hj => by omega⟩⟩, ?_⟩, ?_⟩
  · rintro n _ i _ ⟨k, rfl, hk', rfl, rfl, hall⟩
    refine VIf_dec (fun hi => ?_) (fun hi => gi ⟨rfl, fun t ht => hall t (by omega)⟩)
    refine idxG hwu (by omega) (by omega) ⟨sh, bkE_2 hE, hup.ha t0 (by omega) fun xh hxh hlh => ?_⟩
    refine idxG hxh (by omega) (by omega) ?_
    have e2 : gI ((b.has[t.toNat]?).getD []) k = g2 b.has t.toNat k := rfl
    have e1 : gI ((b.claim[t.toNat]?).getD []) k = g2 b.claim t.toNat k := rfl
    rw [Int.toNat_natCast, e2]
    have h5 := hwr k (by omega)
    have h6 := ho.c t.toNat k (by omega) (by omega)
    refine ⟨⟨by omega, by omega⟩, sc, bkE_1 hE, hup.ca t0 t1 fun xc hxc hlc => ?_⟩
    refine idxG hxc (by omega) (by omega) ?_
    rw [Int.toNat_natCast, e1]
    refine VIf_dec (fun hgt => ?_) (fun hle => ⟨⟨by omega, by omega⟩, want.length - (k + 1), by omega, gi ⟨k + 1, by omega, by omega, rfl, rfl, fun j hj => ?_⟩⟩)
    · have e6 : bask b t want = 6 := by rw [bask, if_neg (by simpa using hc), if_pos ⟨k, by omega, hgt⟩]
      exact ⟨rfl, rfl, bad0 (by rw [e6]; decide) (by rw [e6]; rfl)⟩
    · by_cases he : j = k
      · subst he; omega
      · exact hall j (by omega)
  rintro _ _ ⟨rfl, hcl⟩
  have n6 : ¬ ∃ k, k < want.length ∧ g2 b.has t.toNat k + gI want k > g2 b.claim t.toNat k := fun ⟨k, h5, h6⟩ => by have := hcl k h5; omega
  refine ⟨fun h => h = ⟨own ++ [bkE r1 sf sc sh, E3], ro⟩ ∧ ∀ k, k < want.length → gI want k ≤ gI b.free k,
    ⟨fun n i h => ∃ k : Nat, i = (k : Int) ∧ k ≤ want.length ∧ n = want.length - k ∧ h = ⟨own ++ [bkE r1 sf sc sh, E3], ro⟩ ∧ ∀ j, j < k → gI want j ≤ gI b.free j, ⟨_, gi ⟨0, rfl, Nat.zero_le _, rfl, rfl, fun j hj => by omega⟩⟩, ?_⟩, ?_⟩
  · rintro n _ i _ ⟨k, rfl, hk', rfl, rfl, hall⟩
    refine VIf_dec (fun hi => ?_) (fun hi => gi ⟨rfl, fun t ht => hall t (by omega)⟩)
    refine idxG hwu (by omega) (by omega) ⟨sf, bkE_0 hE, idxG hup.f (by omega) (by omega) ?_⟩
    rw [Int.toNat_natCast]
    refine VIf_dec (fun hgt => ?_) (fun hle => ⟨⟨by omega, by omega⟩, want.length - (k + 1), by omega, gi ⟨k + 1, by omega, by omega, rfl, rfl, fun j hj => ?_⟩⟩)
    · have e6 : bask b t want = 5 := by rw [bask, if_neg (by simpa using hc), if_neg n6, if_pos ⟨k, by omega, hgt⟩]
      exact ⟨rfl, rfl, bad0 (by rw [e6]; decide) (by rw [e6]; rfl)⟩
    · by_cases he : j = k
      · subst he; omega
      · exact hall j (by omega)
  rintro _ _ ⟨rfl, hfr⟩
  have n5 : ¬ ∃ k, k < want.length ∧ gI want k > gI b.free k := fun ⟨k, h5, h6⟩ => by have := hfr k h5; omega
  have ho2 := bask_mv hA hcl hfr
  refine ⟨sf, bkE_0 hE, sc, bkE_1 hE, sh, bkE_2 hE, bank_moved_c hup hwu ho t0 t1 hl hwr (.inl rfl) (fun sf' sc' sh' ro' hm hb' => ⟨sf', sc', sh', rfl, ?_⟩)⟩
  intro r68 _
  refine ⟨rfl, rfl, ?_⟩
  refine bk_out (own ++ [bkE r1 sf sc sh, E3]) [] rfl rfl ?_
  have hb2 : BkRd ⟨own ++ [bkE r1 sf sc sh, E3] ++ [bkE r68 sf' sc' sh'], ro'⟩ sf' sc' sh' (bmv b t.toNat want 1) := hb'.mono (by simp) (fun _ _ h => h)
  refine bank_row_c hb2 ho2 (fun hr => ⟨⟨none, 0, 0⟩, false, rfl, VIf_nb (fun _ => ?_) (nomatch ·)⟩) (fun r s' e' hr o => ⟨s', true, rfl, VIf_nb (nomatch ·) (fun _ => ?_)⟩)
  · have e6 : bask b t want = 7 := by rw [bask, if_neg (by simpa using hc), if_neg n6, if_neg n5, if_pos hr]
    exact ⟨rfl, rfl, bad (by rw [e6]; decide) hm (by rw [e6]; rfl)⟩
  · have e6 : bask b t want = 0 := by rw [bask, if_neg (by simpa using hc), if_neg n6, if_neg n5, if_neg (by rw [hr]; exact fun h => nomatch h)]
    have hm68 : bkE r68 sf' sc' sh' ∈ own ++ [bkE r1 sf sc sh, E3] ++ [bkE r68 sf' sc' sh'] ++ [e'] := by simp
    refine ⟨sf', bkE_0 hm68, sc', bkE_1 hm68, sh', bkE_2 hm68, rfl, rfl, ?_⟩
    refine bk_out (cs := [Value.slice none 0 0, .slice none 0 0, .slice none 0 0]) (own ++ [bkE r1 sf sc sh]) ([bkE r68 sf' sc' sh'] ++ [e']) (by simp [hE3]) rfl ?_
    exact ⟨⟨own, ro'⟩, Gh.drop (by simp), h1 e6 hA ho2 sf' sc' sh' ro' hm hb'⟩
set_option maxHeartbeats 800000 in
theorem bank_back_c {b : Bk} {sf sc sh sw : SV} {want : List Int} {t : Int} {own : List Ent} {ro : Addr → Option Value} {post : Value → H → Prop} (hb : BkRd ⟨own, ro⟩ sf sc sh b) (hw : RdSl ⟨own, ro⟩ sw (ints want))
    (h0 : bback b t want ≠ 0 → post (.tuple (List.toArray [bkV nilV nilV nilV, errV (eno 57 (bback b t want))])) ⟨own, ro⟩)
    (h1 : bback b t want = 0 → BAsk b t want → ∀ sf' sc' sh' ro', (∀ a v, ro a = some v → ro' a = some v) → BkRd ⟨[], ro'⟩ sf' sc' sh' (bmv b t.toNat want (-1)) → post (.tuple (List.toArray [bkV sf' sc' sh', errV none])) ⟨own, ro'⟩) :
    SemCall Tryz.prog 49 (List.toArray [bkV sf sc sh, .int .i64 t, .slice sw.a sw.len sw.cap]) ⟨own, ro⟩ post := by
  refine f49_call sf sc sh t sw _ post ?_
  intro r1 _ r3 _
  simp only [add_mk', Nat.zero_add, Nat.add_zero]
  obtain ⟨E3, hE3⟩ : ∃ E3 : Ent, E3 = ⟨some r3, [Value.slice none 0 0, .slice none 0 0, .slice none 0 0], 3⟩ := ⟨_, rfl⟩
  have hE3' : (⟨some r3, [Value.slice none 0 0, .slice none 0 0, .slice none 0 0], List.length [Value.slice none 0 0, .slice none 0 0, .slice none 0 0]⟩ : Ent) = E3 := by rw [hE3]; rfl
  have hE1' : (⟨some r1, [Value.slice sf.a sf.len sf.cap, .slice sc.a sc.len sc.cap, .slice sh.a sh.len sh.cap], List.length [Value.slice sf.a sf.len sf.cap, .slice sc.a sc.len sc.cap, .slice sh.a sh.len sh.cap]⟩ : Ent) = bkE r1 sf sc sh := rfl
  have hc2 : own ++ [bkE r1 sf sc sh] ++ [E3] = own ++ [bkE r1 sf sc sh, E3] := by simp
  rw [hE1', hE3', hc2]
  have hup : BkRd ⟨own ++ [bkE r1 sf sc sh, E3], ro⟩ sf sc sh b := ha_all hb (fun e he => List.mem_append_left _ he)
  have hwu : RdSl ⟨own ++ [bkE r1 sf sc sh, E3], ro⟩ sw (ints want) := hw.mono (fun e he => List.mem_append_left _ he) (fun _ _ h => h)
  have hE : bkE r1 sf sc sh ∈ own ++ [bkE r1 sf sc sh, E3] := by simp
  have swl := hw.len
  rw [ints_length] at swl
  have cl := hb.cl
  have fl := hb.fl
  have hhl' := hb.hl
  have bad : ∀ {v : Value}, bback b t want ≠ 0 → v = errV (eno 57 (bback b t want)) →
      H.wr ⟨own ++ [bkE r1 sf sc sh, E3], ro⟩ (Addr.mk r3 0 none) [.slice none 0 0, .slice none 0 0, .slice none 0 0] fun h => ∃ x : SV, H.rd h (Addr.mk r3 0 none) (.slice x.a x.len x.cap) ∧ ∃ y : SV, H.rd h (Addr.mk r3 1 none) (.slice y.a y.len y.cap) ∧ ∃ z : SV, H.rd h (Addr.mk r3 2 none) (.slice z.a z.len z.cap) ∧ VRet h (.tuple (List.toArray [.agg (List.toArray [.slice x.a x.len x.cap, .slice y.a y.len y.cap, .slice z.a z.len z.cap]), v])) post := by
    intro v hne hv
    refine bk_out (sf := nilV) (sc := nilV) (sh := nilV) (cs := [Value.slice none 0 0, .slice none 0 0, .slice none 0 0]) (own ++ [bkE r1 sf sc sh]) [] (by simp [hE3]) rfl ?_
    rw [hv]
    exact ⟨⟨own, ro⟩, Gh.drop (by simp), h0 hne⟩
  refine ⟨sf, bkE_0 hE, sc, bkE_1 hE, sh, bkE_2 hE, bank_asked_c hup hwu ⟨_, rfl, VIf_nerr (fun hc => ⟨rfl, rfl, bad ?_ ?_⟩) (fun hc => ?_)⟩⟩
  · rw [bback, if_pos hc]; exact hc
  · rw [bback, if_pos hc]
  have hA := basked_zero hc
  obtain ⟨ho, t0, t1, hl, hwr⟩ := hA
  have hA : BAsk b t want := ⟨ho, t0, t1, hl, hwr⟩
  have hm5 := ho.m5
  have hn3 := ho.n3
  have hhl := ho.hl
  obtain ⟨cn1, cn2⟩ := ho.cn t.toNat (by omega)
  refine ⟨fun h => h = ⟨own ++ [bkE r1 sf sc sh, E3], ro⟩ ∧ ∀ k, k < want.length → gI want k ≤ g2 b.has t.toNat k,
    ⟨fun n i h => ∃ k : Nat, i = (k : Int) ∧ k ≤ want.length ∧ n = want.length - k ∧ h = ⟨own ++ [bkE r1 sf sc sh, E3], ro⟩ ∧ ∀ j, j < k → gI want j ≤ g2 b.has t.toNat j, ⟨_, gi ⟨0, rfl, Nat.zero_le _, rfl, rfl, fun j hj => by omega⟩⟩, ?_⟩, ?_⟩
  · rintro n _ i _ ⟨k, rfl, hk', rfl, rfl, hall⟩
    refine VIf_dec (fun hi => ?_) (fun hi => gi ⟨rfl, fun t ht => hall t (by omega)⟩)
    refine idxG hwu (by omega) (by omega) ⟨sh, bkE_2 hE, hup.ha t0 (by omega) fun xh hxh hlh => ?_⟩
    refine idxG hxh (by omega) (by omega) ?_
    have e2 : gI ((b.has[t.toNat]?).getD []) k = g2 b.has t.toNat k := rfl
    rw [Int.toNat_natCast, e2]
    refine VIf_dec (fun hgt => ?_) (fun hle => ⟨⟨by omega, by omega⟩, want.length - (k + 1), by omega, gi ⟨k + 1, by omega, by omega, rfl, rfl, fun j hj => ?_⟩⟩)
    · have e6 : bback b t want = 5 := by rw [bback, if_neg (by simpa using hc), if_pos ⟨k, by omega, hgt⟩]
      exact ⟨rfl, rfl, bad (by rw [e6]; decide) (by rw [e6]; rfl)⟩
    · by_cases he : j = k
      · subst he; omega
      · exact hall j (by omega)
  rintro _ _ ⟨rfl, hcl⟩
  have n6 : ¬ ∃ k, k < want.length ∧ gI want k > g2 b.has t.toNat k := fun ⟨k, h5, h6⟩ => by have := hcl k h5; omega
  have e6 : bback b t want = 0 := by rw [bback, if_neg (by simpa using hc), if_neg n6]
  refine ⟨sf, bkE_0 hE, sc, bkE_1 hE, sh, bkE_2 hE, bank_moved_c hup hwu ho t0 t1 hl hwr (.inr rfl) (fun sf' sc' sh' ro' hm hb' => ⟨sf', sc', sh', rfl, rfl, rfl, ?_⟩)⟩
  refine bk_out (cs := [Value.slice none 0 0, .slice none 0 0, .slice none 0 0]) (own ++ [bkE r1 sf sc sh]) [] (by simp [hE3]) rfl ?_
  exact ⟨⟨own, ro'⟩, Gh.drop (by simp), h1 e6 hA sf' sc' sh' ro' hm hb'⟩
end Go.Proofs.YtnppmcgmmdcpiaaGreatDoor
