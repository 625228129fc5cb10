
import Derived.Test.YtnppmcgmmdcpiaaGreatDoorPg
namespace Go.Proofs.YtnppmcgmmdcpiaaGreatDoor
open Go.Eng
set_option maxRecDepth 20000
def bk0 : Bk := ⟨[6, 4], [[5, 2], [3, 3], [4, 1]], [[0, 0], [0, 0], [0, 0]]⟩
def sOk : List UInt8 := [111, 107]
def sBad : List UInt8 := [98, 97, 100]
def sAsk : List UInt8 := [97, 115, 107]
def sBack : List UInt8 := [98, 97, 99, 107]
def sFree : List UInt8 := [102, 114, 101, 101]
def sRow : List UInt8 := [114, 111, 119]
def sCrash : List UInt8 := [99, 114, 97, 115, 104]
def sFound : List UInt8 := [102, 111, 117, 110, 100]
/-- the name of what is wrong -/
def enoS (e : Int) : List UInt8 :=
  if e = 0 then [79, 75] else if e = 1 then [69, 114, 114, 82, 97, 110, 103, 101] else if e = 2 then [69, 114, 114, 83, 121, 110, 116, 97, 120] else
  if e = 3 then [69, 114, 114, 83, 104, 97, 112, 101] else if e = 4 then [69, 114, 114, 70, 117, 108, 108] else if e = 5 then [69, 114, 114, 78, 111, 110, 101] else
  if e = 6 then [69, 114, 114, 67, 108, 97, 115, 104] else if e = 7 then [69, 114, 114, 83, 116, 97, 116, 101] else [69, 114, 114, 110, 111]
def codeS (e : Int) : List UInt8 := if e = 0 then sOk else enoS e
/-- a word that is a number of at most seven digits -/
def wordV (l : List UInt8) : Option Nat := if l.length ≤ 7 then numV l else none
def wordsV : List (List UInt8) → Option (List Nat)
  | [] => some []
  | a :: l => match wordV a, wordsV l with
    | some v, some vs => some (v :: vs)
    | _, _ => none
def listB (s : List UInt8) (l : List Int) : List UInt8 := s ++ l.flatMap fun n => 32 :: Lib.decDigits n.toNat
/-- what is done, and what is told, of a word and numbers -/
noncomputable def ddo (x : Bo) (w : List UInt8) (vs : List Nat) : Bo × List UInt8 :=
  if w = sAsk ∧ vs.length = 3 then (bput x false ((vs.headD 0 : Nat) : Int) (vs.tail.map fun v : Nat => (v : Int)), codeS (bcode x false ((vs.headD 0 : Nat) : Int) (vs.tail.map fun v : Nat => (v : Int))))
  else if w = sBack ∧ vs.length = 3 then (bput x true ((vs.headD 0 : Nat) : Int) (vs.tail.map fun v : Nat => (v : Int)), codeS (bcode x true ((vs.headD 0 : Nat) : Int) (vs.tail.map fun v : Nat => (v : Int))))
  else if w = sFree ∧ vs.length = 0 then (x, listB sFree x.b.free)
  else if w = sRow ∧ vs.length = 0 then (x, listB sRow (((brow x.b).getD []).map fun v : Nat => (v : Int)))
  else if w = sCrash ∧ vs.length = 1 then
    match bopen ⟨bk0, [], 0⟩ (x.l.take (vs.headD 0)) with
    | .inl e => (x, codeS e.2)
    | .inr y => (y, listB sFound [(y.n : Int)])
  else (x, sBad)
noncomputable def dans (x : Bo) (s : List UInt8) : Bo × List UInt8 :=
  match wordsV (cutB 32 s).tail with
  | none => (x, sBad)
  | some vs => ddo x ((cutB 32 s).headD []) vs
/-- a line without its end -/
def lineT (t : List UInt8) : List UInt8 := Lib.trimSuffix (lineOf t).1 [10]
noncomputable def dsessF : Nat → Bo → List UInt8 → List UInt8
  | 0, _, _ => []
  | k + 1, x, t => if t = [] then [] else (dans x (lineT t)).2 ++ 10 :: dsessF k (dans x (lineT t)).1 (lineOf t).2
noncomputable def dendF : Nat → Bo → List UInt8 → Bo
  | 0, x, _ => x
  | k + 1, x, t => if t = [] then x else dendF k (dans x (lineT t)).1 (lineOf t).2
theorem lineT_none {t : List UInt8} (h : 10 ∉ t) : lineT t = t ∧ (lineOf t).2 = [] := by
  have hi : Lib.indexByte t 10 < 0 := by
    have hge := Lib.indexByte_ge t 10
    by_cases hn : Lib.indexByte t 10 < 0
    · exact hn
    · obtain ⟨o, ho⟩ : ∃ o : Nat, Lib.indexByte t 10 = o := ⟨(Lib.indexByte t 10).toNat, by omega⟩
      exact absurd (List.mem_of_getElem? (Lib.indexByte_some ho).1) h
  obtain ⟨e, _⟩ := line_none hi
  unfold lineT
  rw [e]
  exact ⟨suf_trim_no h, rfl⟩
theorem lineT_app {s l : List UInt8} (h : 10 ∉ s) : lineT (s ++ 10 :: l) = s ∧ (lineOf (s ++ 10 :: l)).2 = l := by
  have e := line_some (idx_app (l := l) h)
  unfold lineT
  rw [e]
  refine ⟨by simp only [List.take_left]; exact suf_trim s, ?_⟩
  show (s ++ 10 :: l).drop (s.length + 1) = l
  rw [← List.drop_drop, List.drop_left]
  rfl
/-- a text is empty, a line without an end, or a line and more -/
theorem text_cases (t : List UInt8) : t = [] ∨ (t ≠ [] ∧ 10 ∉ t) ∨ ∃ s l, 10 ∉ s ∧ t = s ++ 10 :: l := by
  by_cases h0 : t = []
  · exact .inl h0
  by_cases hm : 10 ∈ t
  · obtain ⟨s, l, e, hs⟩ := List.eq_append_cons_of_mem hm
    exact .inr (.inr ⟨s, l, hs, e⟩)
  · exact .inr (.inl ⟨h0, hm⟩)
theorem dsessF_nil (k : Nat) (x : Bo) : dsessF k x [] = [] := by cases k <;> simp [dsessF]
theorem dendF_nil (k : Nat) (x : Bo) : dendF k x [] = x := by cases k <;> simp [dendF]
theorem dsessF_fuel : ∀ (k k' : Nat) (x : Bo) (t : List UInt8), t.length ≤ k → t.length ≤ k' → dsessF k x t = dsessF k' x t ∧ dendF k x t = dendF k' x t
  | 0, k', x, t, h, _ => by
    have : t = [] := List.eq_nil_of_length_eq_zero (by omega)
    rw [this, dsessF_nil, dsessF_nil, dendF_nil, dendF_nil]; exact ⟨rfl, rfl⟩
  | k + 1, 0, x, t, _, h => by
    have : t = [] := List.eq_nil_of_length_eq_zero (by omega)
    rw [this, dsessF_nil, dsessF_nil, dendF_nil, dendF_nil]; exact ⟨rfl, rfl⟩
  | k + 1, k' + 1, x, t, h, h' => by
    rcases text_cases t with rfl | ⟨h0, hn⟩ | ⟨s, l, hs, rfl⟩
    · rw [dsessF_nil, dsessF_nil, dendF_nil, dendF_nil]; exact ⟨rfl, rfl⟩
    · simp only [dsessF, dendF, if_neg h0, (lineT_none hn).1, (lineT_none hn).2, dsessF_nil, dendF_nil, and_self]
    · simp only [List.length_append, List.length_cons] at h h'
      have := dsessF_fuel k k' (dans x s).1 l (by omega) (by omega)
      have h0 : s ++ 10 :: l ≠ [] := by simp
      simp only [dsessF, dendF, if_neg h0, (lineT_app (l := l) hs).1, (lineT_app (l := l) hs).2, this.1, this.2, and_self]
noncomputable def dsess (x : Bo) (t : List UInt8) : List UInt8 := dsessF t.length x t
noncomputable def dend (x : Bo) (t : List UInt8) : Bo := dendF t.length x t
theorem dsess_nil (x : Bo) : dsess x [] = [] := dsessF_nil _ _
theorem dend_nil (x : Bo) : dend x [] = x := dendF_nil _ _
theorem dsess_last {x : Bo} {s : List UInt8} (h0 : s ≠ []) (h : 10 ∉ s) : dsess x s = (dans x s).2 ++ [10] ∧ dend x s = (dans x s).1 := by
  obtain ⟨k, hk⟩ : ∃ k, s.length = k + 1 := ⟨s.length - 1, by have := List.length_pos_iff.2 h0; omega⟩
  unfold dsess dend
  rw [hk]
  simp only [dsessF, dendF, if_neg h0, (lineT_none h).1, (lineT_none h).2, dsessF_nil, dendF_nil, and_self]
theorem dsess_line {x : Bo} {s l : List UInt8} (h : 10 ∉ s) : dsess x (s ++ 10 :: l) = (dans x s).2 ++ 10 :: dsess (dans x s).1 l ∧ dend x (s ++ 10 :: l) = dend (dans x s).1 l := by
  have h0 : s ++ 10 :: l ≠ [] := by simp
  have := dsessF_fuel (s.length + l.length) l.length (dans x s).1 l (by omega) (Nat.le_refl _)
  unfold dsess dend
  rw [show (s ++ 10 :: l).length = (s.length + l.length) + 1 by simp; omega]
  simp only [dsessF, dendF, if_neg h0, (lineT_app (l := l) h).1, (lineT_app (l := l) h).2, this.1, this.2, and_self]
/-- whole lines -/
inductive Whole : List UInt8 → Prop
  | nil : Whole []
  | cons {s l : List UInt8} : 10 ∉ s → Whole l → Whole (s ++ 10 :: l)
theorem whole_of : ∀ (n : Nat) (t : List UInt8), t.length ≤ n → (t ≠ [] → t.getLast? = some 10) → Whole t
  | 0, t, h, _ => by
    have : t = [] := List.eq_nil_of_length_eq_zero (by omega)
    rw [this]; exact .nil
  | n + 1, t, h, hl => by
    rcases text_cases t with rfl | ⟨h0, hn⟩ | ⟨s, l, hs, rfl⟩
    · exact .nil
    · exact absurd (List.mem_of_getLast? (hl h0)) hn
    · refine .cons hs (whole_of n l (by simp at h; omega) (fun h0 => ?_))
      have := hl (by simp)
      rw [List.getLast?_append, List.getLast?_cons] at this
      cases hg : l.getLast? with
      | none => rw [List.getLast?_eq_none_iff] at hg; exact absurd hg h0
      | some c => rw [hg] at this; simpa using this
theorem Whole.app {a : List UInt8} (h : Whole a) : ∀ (x : Bo) (b : List UInt8), dsess x (a ++ b) = dsess x a ++ dsess (dend x a) b ∧ dend x (a ++ b) = dend (dend x a) b := by
  induction h with
  | nil => intro x b; simp [dsess_nil, dend_nil]
  | @cons s l hs hl ih =>
    intro x b
    have := ih (dans x s).1 b
    rw [List.append_assoc, List.cons_append, (dsess_line (l := l ++ b) hs).1, (dsess_line (l := l ++ b) hs).2, (dsess_line (l := l) hs).1, (dsess_line (l := l) hs).2, this.1, this.2]
    simp
structure DI (x : Bo) : Prop where
  ok : BOk x.b
  rw : ∃ l, BRow x.b l
  br : BR bk0 x
  inn : BIn 2 x
  cl : x.b.claim.length = 3
  bl : ∀ k, k < x.b.free.length → ball x.b k ≤ 1000
theorem BOk.row {b : Bk} (h : BOk b) : (∃ l, BRow b l) ↔ brow b ≠ none := by
  constructor
  · rintro ⟨l, hl⟩
    obtain ⟨r, hr, _⟩ := brow_of h hl
    rw [hr]; simp
  · intro hn
    obtain ⟨r, hr⟩ := Option.ne_none_iff_exists'.1 hn
    exact ⟨r, brow_row hr⟩
theorem bk0_ok : BOk bk0 :=
  ⟨by decide, by decide, by decide, by decide, by decide, by decide, fun t k ht hk => (by decide : ∀ t, t < 3 → ∀ k, k < 2 → (0 ≤ g2 bk0.claim t k ∧ g2 bk0.claim t k ≤ 1000) ∧ (0 ≤ g2 bk0.has t k ∧ g2 bk0.has t k ≤ g2 bk0.claim t k)) t ht k hk,
    fun t k ht hk => (by decide : ∀ t, t < 3 → ∀ k, k < 2 → g2 bk0.claim t k ≤ ball bk0 k) t ht k hk⟩
theorem bk0_row : brow bk0 = some [0, 1, 2] := by decide
theorem DI.first : DI ⟨bk0, [], 0⟩ := ⟨bk0_ok, ⟨_, brow_row bk0_row⟩, BR.nil _, ⟨Nat.zero_le _, Nat.zero_le _, rfl⟩, rfl, fun k hk => (by decide : ∀ k, k < 2 → ball bk0 k ≤ 1000) k hk⟩
theorem bmv_neg {b : Bk} {t : Nat} {want : List Int} : bmv b t want (-1) = bmv b t (want.map fun n => -n) 1 := by
  have e : ∀ k, gI (want.map fun n => -n) k = - gI want k := by
    intro k
    unfold gI
    simp only [List.getElem?_map]
    cases want[k]? <;> simp
  unfold bmv
  simp only [e]
  congr 1
  · refine List.map_congr_left fun k _ => ?_; omega
  · congr 1
    refine List.map_congr_left fun k _ => ?_; omega
theorem bmv_fwd {b : Bk} (ho : BOk b) {t : Nat} {want : List Int} (ht : t < b.claim.length) : bmv (bmv b t want (-1)) t want 1 = b := by
  have := bmv_back ho (want := want.map fun n => -n) ht
  rw [← bmv_neg, bmv_neg (b := bmv b t want (-1))] at this
  rw [List.map_map] at this
  have e : (want.map ((fun n : Int => -n) ∘ fun n => -n)) = want := by
    conv => rhs; rw [← List.map_id want]
    exact List.map_congr_left fun k _ => by simp
  rw [e] at this
  exact this
theorem fold_ge (k : Nat) : ∀ (l : List (List Int)) (x : Int), (∀ h ∈ l, 0 ≤ gI h k) → x ≤ l.foldl (fun s h => s + gI h k) x ∧ ∀ h ∈ l, x + gI h k ≤ l.foldl (fun s h => s + gI h k) x
  | [], x, _ => ⟨Int.le_refl _, by simp⟩
  | a :: l, x, h => by
    have ha := h a (by simp)
    obtain ⟨h1, h2⟩ := fold_ge k l (x + gI a k) (fun b hb => h b (by simp [hb]))
    simp only [List.foldl_cons]
    refine ⟨by omega, fun b hb => ?_⟩
    simp only [List.mem_cons] at hb
    rcases hb with rfl | hb
    · exact h1
    · have := h2 b hb
      omega
theorem ball_ge {b : Bk} (ho : BOk b) {t k : Nat} (ht : t < b.claim.length) (hk : k < b.free.length) : gI b.free k + g2 b.has t k ≤ ball b k := by
  have hl := ho.hl
  refine (fold_ge k b.has (gI b.free k) (fun h hm => ?_)).2 _ ?_
  · obtain ⟨u, hu, rfl⟩ := List.mem_iff_getElem.1 hm
    have := (ho.c u k (by omega) hk).2.1
    unfold g2 at this
    rw [List.getElem?_eq_getElem hu] at this
    exact this
  · rw [List.getElem?_eq_getElem (by omega : t < b.has.length)]
    exact List.getElem_mem _
theorem bback_mv {b : Bk} {t : Int} {want : List Int} (h : BAsk b t want) (h1 : ∀ k, k < want.length → gI want k ≤ g2 b.has t.toNat k) (hb : ∀ k, k < b.free.length → ball b k ≤ 1000) : BOk (bmv b t.toNat want (-1)) := by
  have := h.t0; have := h.t1; have hl := h.l
  refine bmv_ok h.ok (by omega) (fun k hk => ?_) (fun k hk => ?_)
  · have h2 := h.w k hk; have h3 := h.ok.f k hk; have h4 := h1 k (by omega); have h5 := hb k hk; have h6 := ball_ge h.ok (t := t.toNat) (by omega) hk; omega
  · have h2 := h.w k hk; have h3 := (h.ok.c t.toNat k (by omega) hk); have h4 := h1 k (by omega); omega
theorem bask_zero {b : Bk} {t : Int} {want : List Int} (h : bask b t want = 0) : BOk (bmv b t.toNat want 1) ∧ brow (bmv b t.toNat want 1) ≠ none := by
  obtain ⟨r, hr⟩ := bask_nil h
  refine ⟨?_, by rw [hr]; simp⟩
  unfold bask at h
  split at h
  · rename_i h0; exact absurd h h0
  rename_i h0
  have hA := basked_zero (Classical.byContradiction h0)
  split at h
  · cases h
  rename_i h1
  split at h
  · cases h
  rename_i h2
  exact bask_mv hA (fun k hk => Classical.byContradiction fun hc => h1 ⟨k, hk, by omega⟩) (fun k hk => Classical.byContradiction fun hc => h2 ⟨k, hk, by omega⟩)
theorem bback_zero {b : Bk} {t : Int} {want : List Int} (h : bback b t want = 0) : BAsk b t want ∧ ∀ k, k < want.length → gI want k ≤ g2 b.has t.toNat k := by
  unfold bback at h
  split at h
  · rename_i h0; exact absurd h h0
  rename_i h0
  split at h
  · cases h
  rename_i h1
  exact ⟨basked_zero (Classical.byContradiction h0), fun k hk => Classical.byContradiction fun hc => h1 ⟨k, hk, by omega⟩⟩
theorem DI.put {x : Bo} {back : Bool} {t : Int} {want : List Int} (h : DI x) : DI (bput x back t want) := by
  by_cases h0 : bcode x back t want = 0
  · have hb := h.br.put (back := back) (t := t) (want := want)
    have hi := bput_in (back := back) (t := t) (want := want) h.inn
    obtain ⟨hn, hA⟩ := bcode_ask h0
    have t0 := hA.t0; have t1 := hA.t1; have hfl := h.inn.f
    unfold bcode at h0
    rw [if_neg (by omega)] at h0
    have hbl : ∀ s : Int, ∀ k, k < (bmv x.b t.toNat want s).free.length → ball (bmv x.b t.toNat want s) k ≤ 1000 := fun s k hk => by
      rw [bmv_fl] at hk
      rw [bmv_ball (by have := h.ok.hl; omega) hk]
      exact h.bl k hk
    cases back with
    | false =>
      rw [if_neg (by simp)] at h0
      obtain ⟨h1, h2⟩ := bask_zero h0
      rw [bput_ok (by unfold bcode; rw [if_neg (by omega), if_neg (by simp)]; exact h0)] at hb hi ⊢
      exact ⟨h1, (BOk.row h1).2 h2, hb, hi, h.cl, hbl 1⟩
    | true =>
      rw [if_pos rfl] at h0
      obtain ⟨_, h2⟩ := bback_zero h0
      have h1 := bback_mv hA h2 h.bl
      rw [bput_ok (by unfold bcode; rw [if_neg (by omega), if_pos rfl]; exact h0)] at hb hi ⊢
      obtain ⟨l, hl⟩ := h.rw
      refine ⟨h1, ⟨l, bmv_safe h1 (t := t.toNat) (want := want) (by show t.toNat < x.b.claim.length; omega) (fun k hk => ?_) ?_⟩, hb, hi, h.cl, hbl (-1)⟩
      · rw [bmv_fl] at hk
        exact (hA.w k hk).1
      · show BRow (bmv (bmv x.b t.toNat want (-1)) t.toNat want 1) l
        rw [bmv_fwd h.ok (by omega)]
        exact hl
  · rw [bput_err h0]; exact h
theorem DI.line {x : Bo} {l : List UInt8} (h : DI x) : DI (bline x l).1 := by
  unfold bline
  split
  · exact h
  · split
    · exact h.put
    · exact h
theorem DI.opens : ∀ (k : Nat) (x y : Bo) (t : List UInt8), DI x → bopenF k x t = .inr y → DI y
  | 0, x, y, t, h, e => by cases e; exact h
  | k + 1, x, y, t, h, e => by
    by_cases hi : Lib.indexByte t 10 < 0
    · rw [bopenF_none hi] at e; cases e; exact h
    · obtain ⟨i, hi'⟩ : ∃ i : Nat, Lib.indexByte t 10 = i := ⟨(Lib.indexByte t 10).toNat, by omega⟩
      rw [bopenF_some hi'] at e
      split at e
      · cases e
      · exact DI.opens k _ y _ h.line e
theorem DI.does {x : Bo} {w : List UInt8} {vs : List Nat} (h : DI x) : DI (ddo x w vs).1 := by
  unfold ddo
  split
  · exact h.put
  split
  · exact h.put
  split
  · exact h
  split
  · exact h
  split
  · split
    · exact h
    · rename_i y e
      exact DI.opens _ _ y _ DI.first e
  · exact h
theorem DI.ans {x : Bo} {s : List UInt8} (h : DI x) : DI (dans x s).1 := by
  unfold dans
  split
  · exact h
  · exact h.does
theorem DI.endF : ∀ (k : Nat) (x : Bo) (t : List UInt8), DI x → DI (dendF k x t)
  | 0, x, t, h => h
  | k + 1, x, t, h => by
    unfold dendF
    split
    · exact h
    · exact DI.endF k _ _ h.ans
theorem DI.end' {x : Bo} {t : List UInt8} (h : DI x) : DI (dend x t) := DI.endF _ _ _ h
theorem DI.row {x : Bo} (h : DI x) : ∃ r, brow x.b = some r ∧ r.length = 3 ∧ r.Nodup ∧ ∀ t ∈ r, t < 3 := by
  obtain ⟨r, hr⟩ := Option.ne_none_iff_exists'.1 ((BOk.row h.ok).1 h.rw)
  have := brow_row hr
  have hc := h.cl
  exact ⟨r, hr, by rw [this.len, hc], this.nd, fun t ht => by have := this.lt t ht; omega⟩
theorem enoS_ok (e : Int) : (10 ∉ enoS e) ∧ (enoS e).length ≤ 9 := by
  unfold enoS
  repeat' split
  all_goals exact ⟨by decide, by decide⟩
theorem codeS_ok (e : Int) : (10 ∉ codeS e) ∧ (codeS e).length ≤ 9 := by
  unfold codeS
  split
  · exact ⟨by decide, by decide⟩
  · exact enoS_ok e
theorem listB_ok {s : List UInt8} {l : List Int} (hs : 10 ∉ s) (hl : ∀ x ∈ l, 0 ≤ x ∧ x ≤ 1000) : (10 ∉ listB s l) ∧ (listB s l).length ≤ s.length + 5 * l.length := by
  unfold listB
  have := flat_short hl
  refine ⟨by simp only [List.mem_append, not_or]; exact ⟨hs, flat_no10 l⟩, by rw [List.length_append]; omega⟩
theorem DI.frees {x : Bo} (h : DI x) : ∀ n ∈ x.b.free, 0 ≤ n ∧ n ≤ 1000 := by
  intro n hn
  obtain ⟨k, hk, rfl⟩ := List.mem_iff_getElem.1 hn
  have := h.ok.f k hk
  unfold gI at this
  rw [List.getElem?_eq_getElem hk] at this
  exact this
theorem DI.rows {x : Bo} (h : DI x) : ∀ n ∈ ((brow x.b).getD []).map (fun v : Nat => (v : Int)), 0 ≤ n ∧ n ≤ 1000 := by
  obtain ⟨r, hr, _, _, h4⟩ := h.row
  intro n hn
  rw [hr] at hn
  simp only [Option.getD_some, List.mem_map] at hn
  obtain ⟨v, hv, rfl⟩ := hn
  have := h4 v hv
  omega
theorem DI.rowl {x : Bo} (h : DI x) : (((brow x.b).getD []).map (fun v : Nat => (v : Int))).length = 3 := by
  obtain ⟨r, hr, h2, _⟩ := h.row
  rw [hr]; simp [h2]
theorem does_ok {x : Bo} {w : List UInt8} {vs : List Nat} (h : DI x) : (10 ∉ (ddo x w vs).2) ∧ (ddo x w vs).2.length ≤ 20 := by
  unfold ddo
  split
  · exact ⟨(codeS_ok _).1, Nat.le_trans (codeS_ok _).2 (by decide)⟩
  split
  · exact ⟨(codeS_ok _).1, Nat.le_trans (codeS_ok _).2 (by decide)⟩
  split
  · have := listB_ok (s := sFree) (l := x.b.free) (by decide) h.frees
    have hf := h.inn.f
    have hs : sFree.length = 4 := rfl
    exact ⟨this.1, by show (listB sFree x.b.free).length ≤ 20; omega⟩
  split
  · have := listB_ok (s := sRow) (by decide) h.rows
    have hf := h.rowl
    have hs : sRow.length = 3 := rfl
    exact ⟨this.1, by show (listB sRow _).length ≤ 20; omega⟩
  split
  · split
    · exact ⟨(codeS_ok _).1, Nat.le_trans (codeS_ok _).2 (by decide)⟩
    · rename_i y e
      have hy := DI.opens _ _ y _ DI.first e
      have hn := hy.br.n60
      have := listB_ok (s := sFound) (l := [(y.n : Int)]) (by decide) (by simp; omega)
      have hs : sFound.length = 5 := rfl
      exact ⟨this.1, by show (listB sFound [(y.n : Int)]).length ≤ 20; simp only [List.length_cons, List.length_nil] at this; omega⟩
  · exact ⟨by show 10 ∉ sBad; decide, by show sBad.length ≤ 20; decide⟩
theorem ans_ok {x : Bo} {s : List UInt8} (h : DI x) : (10 ∉ (dans x s).2) ∧ (dans x s).2.length ≤ 20 := by
  unfold dans
  split
  · exact ⟨by show 10 ∉ sBad; decide, by show sBad.length ≤ 20; decide⟩
  · exact does_ok h
theorem dsess_short : ∀ (n : Nat) (x : Bo) (t : List UInt8), t.length ≤ n → DI x → (dsess x t).length ≤ 21 * t.length
  | 0, x, t, h, _ => by
    have : t = [] := List.eq_nil_of_length_eq_zero (by omega)
    rw [this, dsess_nil]; simp
  | n + 1, x, t, h, hd => by
    rcases text_cases t with rfl | ⟨h0, hn⟩ | ⟨s, l, hs, rfl⟩
    · rw [dsess_nil]; simp
    · have := (ans_ok (s := t) hd).2
      have := List.length_pos_iff.2 h0
      rw [(dsess_last h0 hn).1, List.length_append, List.length_singleton]
      omega
    · simp only [List.length_append, List.length_cons] at h
      have := (ans_ok (s := s) hd).2
      have := dsess_short n (dans x s).1 l (by omega) hd.ans
      rw [(dsess_line hs).1]
      simp only [List.length_append, List.length_cons]
      omega
end Go.Proofs.YtnppmcgmmdcpiaaGreatDoor
