import Derived.Test.YtogbkgimpkaemaaEngK
namespace Go.Proofs.Ytogbkgimpkaemaa
open Go.Eng
set_option maxRecDepth 20000
/-! ### rows of a history, plainly -/
theorem gI_at {m : List Int} {k : Nat} {x : Int} (h : m[k]? = some x) : gI m k = x := by unfold gI; rw [h]; rfl
structure LOp where
  hand : Int
  kind : Int
  arg : Int
  got : Int
  frm : Int
  too : Int
/-- what an op gets, and what is in then -/
def lget (k : Int) (st : List Int) (kind arg : Int) : List Int × Int :=
  if k = 0 then (if kind = 0 then [gI st 0 + arg] else st, gI st 0)
  else if kind = 0 then (st ++ [arg], -1)
  else if st.length = 0 then (st, -1)
  else if k = 1 then (st.take (st.length - 1), gI st (st.length - 1))
  else (st.drop 1, gI st 0)
def lin0 (k : Int) : List Int := if k = 0 then [0] else []
def lgo (k : Int) (st : List Int) (o : LOp) : List Int := (lget k st o.kind o.arg).1
def lgot (k : Int) (st : List Int) (o : LOp) : Int := (lget k st o.kind o.arg).2
/-- may op i come next, behind those that are out? -/
def lcan (os : List LOp) (out : List Nat) (i : Nat) (o : LOp) : Prop := i ∉ out ∧ ∀ (j : Nat) (p : LOp), os[j]? = some p → p.too ≤ o.frm → j ∈ out
open Classical in
noncomputable def lfind (k : Int) (os : List LOp) : Nat → List Nat → List Int → Option (List Nat)
  | 0, out, _ => some out
  | m + 1, out, st => (List.range os.length).findSome? fun i => match os[i]? with
    | none => none
    | some o => if lcan os out i o ∧ lgot k st o = o.got then lfind k os m (out ++ [i]) (lgo k st o) else none
noncomputable def lrow (k : Int) (os : List LOp) : Option (List Nat) := lfind k os os.length [] (lin0 k)
def lgoes (k : Int) (os : List LOp) : List Nat → List Int → List Nat → Prop
  | _, _, [] => True
  | out, st, i :: l => ∃ o, os[i]? = some o ∧ lcan os out i o ∧ lgot k st o = o.got ∧ lgoes k os (out ++ [i]) (lgo k st o) l
/-- not behind, at the first place where they differ -/
def lle : List Nat → List Nat → Prop
  | [], _ => True
  | _ :: _, [] => False
  | a :: l, b :: m => a < b ∨ (a = b ∧ lle l m)
theorem lle_refl : ∀ l : List Nat, lle l l
  | [] => trivial
  | _ :: l => .inr ⟨rfl, lle_refl l⟩
theorem lle_app : ∀ (o l m : List Nat), lle l m → lle (o ++ l) (o ++ m)
  | [], _, _, h => h
  | _ :: o, l, m, h => .inr ⟨rfl, lle_app o l m h⟩
theorem findSome_range {β : Type} {f : Nat → Option β} {n : Nat} {b : β} (h : (List.range n).findSome? f = some b) : ∃ i, i < n ∧ f i = some b ∧ ∀ j, j < i → f j = none := by
  induction n with
  | zero => simp at h
  | succ n ih =>
    rw [List.range_succ, List.findSome?_append] at h
    cases h1 : (List.range n).findSome? f with
    | some c =>
      rw [h1] at h
      obtain ⟨i, hi, h2, h3⟩ := ih (by rw [h1]; exact h)
      exact ⟨i, by omega, h2, h3⟩
    | none =>
      rw [h1] at h
      simp only [List.findSome?_cons, List.findSome?_nil, Option.none_or] at h
      refine ⟨n, by omega, ?_, fun j hj => List.findSome?_eq_none_iff.1 h1 j (List.mem_range.2 hj)⟩
      cases hc : f n with
      | some c => rw [hc] at h; exact h
      | none => rw [hc] at h; cases h
theorem findSome_range_some {β : Type} {f : Nat → Option β} {n i : Nat} (hi : i < n) (h : (f i).isSome = true) : ∃ b, (List.range n).findSome? f = some b := by
  cases h1 : (List.range n).findSome? f with
  | some b => exact ⟨b, rfl⟩
  | none => rw [List.findSome?_eq_none_iff.1 h1 i (List.mem_range.2 hi)] at h; cases h
open Classical in
theorem lfind_some {k : Int} {os : List LOp} : ∀ {m : Nat} {out : List Nat} {st : List Int} {l : List Nat}, lfind k os m out st = some l → ∃ t, l = out ++ t ∧ t.length = m ∧ lgoes k os out st t
  | 0, out, st, l, h => ⟨[], by rw [lfind] at h; cases h; simp, rfl, trivial⟩
  | m + 1, out, st, l, h => by
    rw [lfind] at h
    obtain ⟨i, hi, h2, _⟩ := findSome_range h
    split at h2
    · cases h2
    · rename_i o ho
      split at h2
      · rename_i hc
        obtain ⟨t, rfl, h3, h4⟩ := lfind_some h2
        exact ⟨i :: t, by simp, by simp [h3], o, ho, hc.1, hc.2, h4⟩
      · cases h2
open Classical in
theorem lfind_least {k : Int} {os : List LOp} : ∀ {m : Nat} {out : List Nat} {st : List Int} {t : List Nat}, lgoes k os out st t → t.length = m → ∃ s, lfind k os m out st = some (out ++ s) ∧ lle s t
  | 0, out, st, t, _, hm => ⟨[], by rw [lfind]; simp, trivial⟩
  | m + 1, out, st, [], _, hm => by simp at hm
  | m + 1, out, st, i :: t, ⟨o, ho, hc, hg, h⟩, hm => by
    obtain ⟨s, hs, hl⟩ := lfind_least (m := m) h (by simpa using hm)
    have hi : i < os.length := (List.getElem?_eq_some_iff.1 ho).1
    rw [lfind]
    obtain ⟨b, hb⟩ := findSome_range_some (f := fun i => match os[i]? with
      | none => none
      | some o => if lcan os out i o ∧ lgot k st o = o.got then lfind k os m (out ++ [i]) (lgo k st o) else none) hi (by rw [ho]; dsimp only; rw [if_pos ⟨hc, hg⟩, hs]; rfl)
    obtain ⟨j, hj, h2, h3⟩ := findSome_range hb
    rw [hb]
    have hji : j ≤ i := by
      by_cases hij : i < j
      · have := h3 i hij
        rw [ho] at this
        dsimp only at this
        rw [if_pos ⟨hc, hg⟩, hs] at this
        cases this
      · omega
    split at h2
    · cases h2
    · rename_i p hp
      split at h2
      · obtain ⟨u, rfl, _, _⟩ := lfind_some h2
        refine ⟨j :: u, by simp, ?_⟩
        by_cases he : j = i
        · subst he
          rw [ho] at hp
          cases hp
          rw [hs] at h2
          have e : s = u := by have := Option.some.inj h2; exact List.append_cancel_left this
          subst e
          exact .inr ⟨rfl, hl⟩
        · exact .inl (by omega)
      · cases h2
theorem lrow_some {k : Int} {os : List LOp} {l : List Nat} (h : lrow k os = some l) : l.length = os.length ∧ lgoes k os [] (lin0 k) l := by
  obtain ⟨t, rfl, h1, h2⟩ := lfind_some h
  exact ⟨h1, h2⟩
theorem lrow_least {k : Int} {os : List LOp} {t : List Nat} (h : lgoes k os [] (lin0 k) t) (hl : t.length = os.length) : ∃ l, lrow k os = some l ∧ lle l t := by
  obtain ⟨s, h1, h2⟩ := lfind_least h hl
  exact ⟨s, h1, h2⟩
/-! what a row of indices is: in range, each once; none behind what was over; each gets what it got -/
def lruns (k : Int) : List Int → List LOp → Prop
  | _, [] => True
  | st, o :: l => lgot k st o = o.got ∧ lruns k (lgo k st o) l
theorem lgoes_iff {k : Int} {os : List LOp} (ht : ∀ o ∈ os, o.frm < o.too) : ∀ {t out : List Nat} {st : List Int}, (out ++ t).length = os.length → out.Nodup → (∀ i ∈ out, i < os.length) →
    (lgoes k os out st t ↔ ((out ++ t).Nodup ∧ (∀ i ∈ t, i < os.length) ∧ (t.Pairwise fun a b => ∀ oa ob, os[a]? = some oa → os[b]? = some ob → ¬ ob.too ≤ oa.frm) ∧
      (∀ i ∈ t, ∀ oi, os[i]? = some oi → ∀ (j : Nat) oj, os[j]? = some oj → oj.too ≤ oi.frm → j ∈ out ∨ j ∈ t) ∧ lruns k st (t.filterMap (os[·]?)))) := by
  intro t
  induction t with
  | nil =>
    intro out st _ hn _
    simp [lgoes, lruns, hn]
  | cons i t ih =>
    intro out st hl hn ho
    have key : ∀ {o}, os[i]? = some o → i ∉ out → (lgoes k os (out ++ [i]) (lgo k st o) t ↔ _) := fun {o} hi hni => ih (out := out ++ [i]) (st := lgo k st o) (by simpa using hl) (by
      rw [List.nodup_append]; exact ⟨hn, by simp, by simp; rintro a ha rfl; exact hni ha⟩) (by
      intro a ha; simp only [List.mem_append, List.mem_singleton] at ha
      rcases ha with ha | rfl
      · exact ho a ha
      · exact (List.getElem?_eq_some_iff.1 hi).1)
    constructor
    · rintro ⟨o, hi, ⟨hni, hall⟩, hg, h⟩
      obtain ⟨a1, a2, a3, a4, a5⟩ := (key hi hni).1 h
      have hil := (List.getElem?_eq_some_iff.1 hi).1
      refine ⟨by simpa using a1, ?_, ?_, ?_, ?_⟩
      · intro x hx
        rcases List.mem_cons.1 hx with rfl | hx
        · exact hil
        · exact a2 x hx
      · refine List.pairwise_cons.2 ⟨fun b hb oa ob h1 h2 h3 => ?_, a3⟩
        rw [hi] at h1; cases h1
        have := hall b ob h2 h3
        rw [List.append_assoc, List.nodup_append] at a1
        exact a1.2.2 b this b (by simp [hb]) rfl
      · intro x hx oi hoi j oj hj hle
        rcases List.mem_cons.1 hx with rfl | hx
        · rw [hi] at hoi; cases hoi
          exact .inl (hall j oj hj hle)
        · rcases a4 x hx oi hoi j oj hj hle with h | h
          · simp only [List.mem_append, List.mem_singleton] at h
            rcases h with h | rfl
            · exact .inl h
            · exact .inr (by simp)
          · exact .inr (by simp [h])
      · rw [List.filterMap_cons, hi]
        exact ⟨hg, a5⟩
    · rintro ⟨a1, a2, a3, a4, a5⟩
      have hil := a2 i (by simp)
      obtain ⟨o, hi⟩ : ∃ o, os[i]? = some o := ⟨_, List.getElem?_eq_getElem hil⟩
      have hni : i ∉ out := by
        rw [List.nodup_append] at a1
        exact fun h => a1.2.2 i h i (by simp) rfl
      rw [List.filterMap_cons, hi] at a5
      refine ⟨o, hi, ⟨hni, fun j p hj hle => ?_⟩, a5.1, (key hi hni).2 ⟨by simpa using a1, fun x hx => a2 x (by simp [hx]), (List.pairwise_cons.1 a3).2, fun x hx oi hoi j oj hj hle => ?_, a5.2⟩⟩
      · rcases a4 i (by simp) o hi j p hj hle with h | h
        · exact h
        · rcases List.mem_cons.1 h with rfl | h
          · rw [hi] at hj; cases hj
            have := ht o (List.mem_of_getElem? hi)
            omega
          · exact absurd hle ((List.pairwise_cons.1 a3).1 j h o p hi hj)
      · rcases a4 x (by simp [hx]) oi hoi j oj hj hle with h | h
        · exact .inl (by simp [h])
        · rcases List.mem_cons.1 h with rfl | h
          · exact .inl (by simp)
          · exact .inr h
/-- a row that is good -/
structure LGood (k : Int) (os : List LOp) (l : List Nat) : Prop where
  len : l.length = os.length
  nd : l.Nodup
  lt : ∀ i ∈ l, i < os.length
  ord : l.Pairwise fun a b => ∀ oa ob, os[a]? = some oa → os[b]? = some ob → ¬ ob.too ≤ oa.frm
  run : lruns k (lin0 k) (l.filterMap (os[·]?))
theorem nodup_le : ∀ {n : Nat} {l : List Nat}, l.Nodup → (∀ i ∈ l, i < n) → l.length ≤ n
  | 0, [], _, _ => Nat.le_refl _
  | 0, a :: _, _, h => absurd (h a (by simp)) (by omega)
  | n + 1, l, hn, h => by
    by_cases hm : n ∈ l
    · have h1 := List.length_erase_of_mem hm
      have := nodup_le (n := n) (List.Nodup.erase n hn) (fun i hi => by
        have := h i (List.mem_of_mem_erase hi)
        have h3 : i ≠ n := fun e => by subst e; exact (List.Nodup.not_mem_erase hn) hi
        omega)
      omega
    · have := nodup_le (n := n) hn (fun i hi => by
        have := h i hi
        have h3 : i ≠ n := fun e => hm (e ▸ hi)
        omega)
      omega
theorem nodup_lt_mem : ∀ {n : Nat} {l : List Nat}, l.Nodup → l.length = n → (∀ i ∈ l, i < n) → ∀ j, j < n → j ∈ l
  | 0, _, _, _, _, j, hj => by omega
  | n + 1, l, hn, hl, hlt, j, hj => by
    by_cases hm : n ∈ l
    · have h1 : (l.erase n).length = n := by rw [List.length_erase_of_mem hm]; omega
      have h2 : ∀ i ∈ l.erase n, i < n := fun i hi => by
        have := hlt i (List.mem_of_mem_erase hi)
        have h3 : i ≠ n := fun h => by subst h; exact (List.Nodup.not_mem_erase hn) hi
        omega
      by_cases hjn : j = n
      · rw [hjn]; exact hm
      · exact List.mem_of_mem_erase (nodup_lt_mem (List.Nodup.erase _ hn) h1 h2 j (by omega))
    · exfalso
      have h2 : ∀ i ∈ l, i < n := fun i hi => by
        have := hlt i hi
        have h3 : i ≠ n := fun h => hm (h ▸ hi)
        omega
      have := nodup_le hn h2
      omega
theorem lgood_iff {k : Int} {os : List LOp} (ht : ∀ o ∈ os, o.frm < o.too) {l : List Nat} : LGood k os l ↔ l.length = os.length ∧ lgoes k os [] (lin0 k) l := by
  constructor
  · rintro ⟨h1, h2, h3, h4, h5⟩
    refine ⟨h1, (lgoes_iff ht (by simpa using h1) (by simp) (by simp)).2 ⟨by simpa using h2, h3, h4, fun i _ oi _ j oj hj _ => .inr (nodup_lt_mem h2 h1 h3 j (List.getElem?_eq_some_iff.1 hj).1), h5⟩⟩
  · rintro ⟨h1, h⟩
    obtain ⟨a1, a2, a3, a4, a5⟩ := (lgoes_iff ht (by simpa using h1) (by simp) (by simp)).1 h
    exact ⟨h1, by simpa using a1, a2, a3, a5⟩
theorem lrow_good {k : Int} {os : List LOp} (ht : ∀ o ∈ os, o.frm < o.too) {l : List Nat} (h : lrow k os = some l) : LGood k os l := (lgood_iff ht).2 (lrow_some h)
theorem lrow_of_good {k : Int} {os : List LOp} (ht : ∀ o ∈ os, o.frm < o.too) {t : List Nat} (h : LGood k os t) : ∃ l, lrow k os = some l ∧ lle l t := by
  obtain ⟨h1, h2⟩ := (lgood_iff ht).1 h
  exact lrow_least h2 h1
end Go.Proofs.Ytogbkgimpkaemaa
