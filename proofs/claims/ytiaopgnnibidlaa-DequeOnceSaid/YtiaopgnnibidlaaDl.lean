import Derived.Test.YtiaopgnnibidlaaDk
import Derived.Test.YtiaopgnnibidlaaEngJ
namespace Go.Proofs.Ytiaopgnnibidlaa
open Go.Eng
set_option maxRecDepth 20000
def tHap (t : TS) (xs : List Int) : TS :=
  if xs.length = 1 then (tStep t (xs.getD 0 0)).1 else if xs.length = 2 ∧ xs.getD 1 0 = 0 then (tHunger t (xs.getD 0 0)).1 else if xs.length = 2 ∧ xs.getD 1 0 ≠ 0 then (tRest t (xs.getD 0 0)).1 else t
def tHaps (t : TS) (rows : List (SV × List Int)) : TS := ((rows.map (·.2)).take 150).foldl tHap t
theorem happens_c {p : Nat} {t : TS} {st : SV} {rows : List (SV × List Int)} {L own : List Ent} {ro : Addr → Option Value} {post : Value → H → Prop} (A C : List Ent) (hown : own = A ++ (L ++ C)) (hs : TabAt p t L) (hr : RdRowsOf ⟨[], ro⟩ st rows)
    (hk : ∀ L', TabAt p (tHaps t rows) L' → post (.tuple (List.toArray [])) ⟨A ++ (L' ++ C), ro⟩) : SemCall Try.prog 10 (List.toArray [.pointer (some (Addr.mk p 0 none)), .slice st.a st.len st.cap]) ⟨own, ro⟩ post := by
  subst hown
  refine f10_call _ _ _ post ?_
  have hr : ∀ {own}, RdRowsOf ⟨own, ro⟩ st rows := hr.mono (by simp) (fun _ _ h => h)
  have htr : ∀ {own} {i : Nat} {t xs}, rows[i]? = some (t, xs) → RdSl ⟨own, ro⟩ t (ints xs) := fun {own} i t xs ht => hr.2 _ (List.mem_of_getElem? ht)
  have hlen := (hr (own := [])).1.len
  rw [List.length_map] at hlen
  refine ⟨fun h => ∃ L, h = ⟨A ++ (L ++ C), ro⟩ ∧ TabAt p (tHaps t rows) L, ⟨fun m i h => ∃ (k : Nat) (L : List Ent), i = (k : Int) ∧ k ≤ 150 ∧ m = 150 - k ∧ h = ⟨A ++ (L ++ C), ro⟩ ∧ TabAt p (((rows.map (·.2)).take k).foldl tHap t) L, ⟨150, gi ⟨0, L, rfl, by omega, rfl, rfl, hs⟩⟩, ?_⟩, ?_⟩
  · clear hs
    rintro m _ i h ⟨k, L, rfl, hk1, rfl, rfl, hs⟩
    refine join_and (VIf_dec (fun hi => ?_) (fun hi => gi ⟨L, rfl, ?_⟩))
    · refine hr.idx (by omega) hi.1 fun t' xs ht _ => ?_
      rw [Int.toNat_natCast] at ht
      have hxl := (htr (own := []) ht).len
      rw [ints_length] at hxl
      have hfold : ((rows.map (·.2)).take (k + 1)).foldl tHap t = tHap (((rows.map (·.2)).take k).foldl tHap t) xs := by
        rw [List.take_add_one, List.getElem?_map, ht, List.foldl_append]; rfl
      generalize ((rows.map (·.2)).take k).foldl tHap t = t0 at hs hfold
      refine ⟨fun h => ∃ L, h = ⟨A ++ (L ++ C), ro⟩ ∧ TabAt p (if xs.length = 1 then (tStep t0 (xs.getD 0 0)).1 else t0) L, VIf_eq (fun h1 => ?_) (fun h1 => gi ⟨L, rfl, by rw [if_neg (by omega)]; exact hs⟩), ?_⟩
      · refine (htr ht).idx (by omega) (by omega) fun x hx => ?_
        refine tab_step_c A C rfl hs (fun L' h' => ⟨_, _, rfl, gi ⟨L', rfl, ?_⟩⟩)
        have : xs.getD 0 0 = x := by rw [List.getD_eq_getElem?_getD]; simp only [show (0 : Int).toNat = 0 from rfl] at hx; rw [hx]; rfl
        rw [if_pos (by omega), this]; exact h'
      clear hs
      rintro _ h ⟨L, rfl, hs⟩
      refine join_b (h := ⟨A ++ (L ++ C), ro⟩) (decide (xs.length = 2 ∧ xs.getD 1 0 = 0)) (VIf_eq (fun h2 => ?_) (fun h2 => gi ⟨rfl, (decide_eq_false (by omega)).symm⟩)) ?_
      · refine (htr ht).idx (by omega) (by omega) fun y hy => gi ⟨rfl, ?_⟩
        have : xs.getD 1 0 = y := by rw [List.getD_eq_getElem?_getD]; simp only [show (1 : Int).toNat = 1 from rfl] at hy; rw [hy]; rfl
        rw [this]
        by_cases hy0 : y = 0
        · rw [decide_eq_true ⟨by omega, hy0⟩]; simp [hy0]
        · rw [decide_eq_false (fun h => hy0 h.2)]; simp [hy0]
      refine ⟨fun h => ∃ L, h = ⟨A ++ (L ++ C), ro⟩ ∧ TabAt p (if xs.length = 1 then (tStep t0 (xs.getD 0 0)).1 else if xs.length = 2 ∧ xs.getD 1 0 = 0 then (tHunger t0 (xs.getD 0 0)).1 else t0) L, VIf_dec (fun h2 => ?_) (fun h2 => gi ⟨L, rfl, by rw [if_neg h2]; exact hs⟩), ?_⟩
      · refine (htr ht).idx (by omega) (by omega) fun x hx => ?_
        rw [if_neg (by omega)] at hs
        refine tab_hunger_c A C rfl hs (fun L' h' => ⟨_, rfl, gi ⟨L', rfl, ?_⟩⟩)
        have : xs.getD 0 0 = x := by rw [List.getD_eq_getElem?_getD]; simp only [show (0 : Int).toNat = 0 from rfl] at hx; rw [hx]; rfl
        rw [if_neg (by omega), if_pos h2, this]; exact h'
      clear hs
      rintro _ h ⟨L, rfl, hs⟩
      refine join_b (h := ⟨A ++ (L ++ C), ro⟩) (decide (xs.length = 2 ∧ xs.getD 1 0 ≠ 0)) (VIf_eq (fun h2 => ?_) (fun h2 => gi ⟨rfl, (decide_eq_false (by omega)).symm⟩)) ?_
      · refine (htr ht).idx (by omega) (by omega) fun y hy => gi ⟨rfl, ?_⟩
        have : xs.getD 1 0 = y := by rw [List.getD_eq_getElem?_getD]; simp only [show (1 : Int).toNat = 1 from rfl] at hy; rw [hy]; rfl
        rw [this]
        by_cases hy0 : y = 0
        · rw [decide_eq_false (fun h => h.2 hy0)]; simp [hy0]
        · rw [decide_eq_true ⟨by omega, hy0⟩]; simp [hy0]
      have hk' : (k : Int) < 150 := hi.2
      refine VIf_dec (fun h2 => ?_) (fun h2 => ⟨⟨by omega, by omega⟩, _, ?_, gi ⟨k + 1, L, rfl, by omega, rfl, rfl, ?_⟩⟩)
      · refine (htr ht).idx (by omega) (by omega) fun x hx => ?_
        rw [if_neg (by omega), if_neg (fun h => h2.2 h.2)] at hs
        have : xs.getD 0 0 = x := by rw [List.getD_eq_getElem?_getD]; simp only [show (0 : Int).toNat = 0 from rfl] at hx; rw [hx]; rfl
        refine tab_rest_c A C rfl hs (fun L' h' => ⟨_, rfl, ⟨by omega, by omega⟩, _, ?_, gi ⟨k + 1, L', rfl, by omega, rfl, rfl, ?_⟩⟩)
        · omega
        · rw [hfold, tHap, if_neg (by omega), if_neg (fun h => h2.2 h.2), if_pos h2, this]; exact h'
      · omega
      · rw [hfold, tHap]
        by_cases e1 : xs.length = 1
        · rw [if_pos e1] at hs ⊢; exact hs
        · rw [if_neg e1] at hs ⊢
          by_cases e2 : xs.length = 2 ∧ xs.getD 1 0 = 0
          · rw [if_pos e2] at hs ⊢; exact hs
          · rw [if_neg e2] at hs ⊢; rw [if_neg h2]; exact hs
    · unfold tHaps
      by_cases e : k = 150
      · subst e; exact hs
      · rw [List.take_of_length_le (by rw [List.length_map]; omega)] at hs ⊢; exact hs
  · rintro _ h ⟨L, rfl, hs⟩
    exact ret (hk L hs)
theorem dine_fact_c {own : List Ent} {ro : Addr → Option Value} {post : Value → H → Prop} (hk : post (.bool true) ⟨own, ro⟩) : SemCall Try.prog 8 (List.toArray []) ⟨own, ro⟩ post := by
  refine f8_call _ post ?_
  refine tab_new_c (fun hc => absurd ⟨by decide, by decide⟩ hc) (fun p L hs _ _ => ⟨_, none, rfl, ?_⟩)
  have hh : (tHunger (tab0 (3 : Int).toNat) 0).2 = 0 := by decide
  refine ⟨fun b h => b = false ∧ ∃ L, h = ⟨own ++ (L ++ []), ro⟩ ∧ TabAt p (tHunger (tab0 (3 : Int).toNat) 0).1 L, VIf_nnil ?_, ?_⟩
  · refine tab_hunger_c own [] (by simp) hs (fun L1 h1 => ⟨_, rfl, isIfaceV_errV _, gi ⟨?_, L1, rfl, h1⟩⟩)
    rw [hh]; rfl
  rintro _ b h ⟨rfl, L1, rfl, h1⟩
  refine VIf_b (nomatch ·) (fun _ => ?_)
  refine tab_step_c own [] rfl h1 (fun L2 h2 => ⟨_, _, rfl, ?_⟩)
  have s1 : (tStep (tHunger (tab0 (3 : Int).toNat) 0).1 0).2.1 = true := by decide
  have s2 : (tStep (tHunger (tab0 (3 : Int).toNat) 0).1 0).2.2 = 0 := by decide
  have s3 : (if 0 ≤ (0 : Int) ∧ (0 : Int) ≤ (((tStep (tHunger (tab0 (3 : Int).toNat) 0).1 0).1.n : Nat) : Int) - 1 then (tStep (tHunger (tab0 (3 : Int).toNat) 0).1 0).1.g (0 : Int).toNat else -1) = 2 := by decide
  have s4 : (if 0 ≤ (1 : Int) ∧ (1 : Int) ≤ (((tStep (tHunger (tab0 (3 : Int).toNat) 0).1 0).1.n : Nat) : Int) - 1 then (tStep (tHunger (tab0 (3 : Int).toNat) 0).1 0).1.g (1 : Int).toNat else -1) = 0 := by decide
  rw [s1, s2]
  refine join_b (h := ⟨own ++ (L2 ++ []), ro⟩) true (VIf_nil (VIf_b (fun _ => ?_) (nomatch ·))) ⟨⟨own, ro⟩, Gh.drop (by simp), hk⟩
  refine tab_guest_c h2 (fun _ h => by simp [h]) ⟨_, rfl, ?_⟩
  rw [s3]
  refine VIf_eq (fun _ => ?_) (fun h => absurd rfl h)
  refine tab_guest_c h2 (fun _ h => by simp [h]) ⟨_, rfl, gi ⟨rfl, ?_⟩⟩
  rw [s4]; rfl
/-! ### the table's laws, plain -/
theorem ring_facts {n i : Nat} (h3 : 3 ≤ n) (h6 : n ≤ 6) (hi : i < n) : nxt n (prv n i) = i ∧ prv n (nxt n i) = i ∧ nxt n i ≠ i ∧ prv n i ≠ i ∧ nxt n i ≠ prv n i := by
  obtain rfl | rfl | rfl | rfl : n = 3 ∨ n = 4 ∨ n = 5 ∨ n = 6 := by omega
  all_goals
    unfold nxt prv
    omega
def tPr (t : TS) (k : Nat) : Prop := (t.d k = false ∧ t.w k = k) ∨ (t.d k = true ∧ t.w k ≠ k)
structure TI (t : TS) : Prop where
  n3 : 3 ≤ t.n
  n6 : t.n ≤ 6
  g : ∀ k, k < t.n → t.g k = 0 ∨ t.g k = 1 ∨ t.g k = 2
  w : ∀ k, k < t.n → t.w k = k ∨ t.w k = nxt t.n k
  a : ∀ k, k < t.n → t.a k = k ∨ t.a k = nxt t.n k
  e : ∀ k, k < t.n → t.g k = 2 → t.w k = k ∧ t.d k = true ∧ t.w (prv t.n k) = k ∧ t.d (prv t.n k) = true
  c : ∀ k, k < t.n → t.d k = false → t.g (t.w k) = 1
  h : ∀ k, k < t.n → t.w k = t.a k → (t.w k = k → t.g (nxt t.n k) = 1) ∧ (t.w k = nxt t.n k → t.g k = 1)
  p1 : ∃ k, k < t.n ∧ tPr t k
  p2 : ∃ k, k < t.n ∧ ¬ tPr t k
theorem updN_cases {α : Type} {f : Nat → α} {q : Nat} {v : α} (p : Nat) : (p = q ∧ updN f q v p = v) ∨ (p ≠ q ∧ updN f q v p = f p) := by
  by_cases h : p = q
  · subst h; exact .inl ⟨rfl, updN_same _ _ _⟩
  · exact .inr ⟨h, updN_ne h⟩
theorem TI.start {n : Nat} (h3 : 3 ≤ n) (h6 : n ≤ 6) : TI (tab0 n) := by
  have R := fun i (hi : i < n) => ring_facts (i := i) h3 h6 hi
  refine ⟨h3, h6, fun k hk => .inl rfl, fun k hk => ?_, fun k hk => ?_, fun k hk h => by simp [tab0] at h, fun k hk h => by simp [tab0] at h, fun k hk h => ?_, ⟨n - 1, by simp only [tab0]; omega, ?_⟩, ⟨0, by simp only [tab0]; omega, ?_⟩⟩
  · simp only [tab0]; split <;> simp
  · simp only [tab0]; split <;> simp
  · have := (R k hk).2.2.1
    simp only [tab0] at h
    exfalso
    split at h <;> split at h <;> omega
  · refine .inr ⟨rfl, ?_⟩
    have : nxt n (n - 1) = 0 := by unfold nxt; rw [show n - 1 + 1 = n by omega]; exact Nat.mod_self n
    simp only [tab0, this]
    rw [if_pos (by omega)]; omega
  · have : nxt n 0 = 1 := by unfold nxt; exact Nat.mod_eq_of_lt (by omega)
    unfold tPr
    simp only [tab0, this]
    simp
theorem TI.rest {t : TS} (h : TI t) (q : Int) : TI (tRest t q).1 := by
  unfold tRest
  split
  · exact h
  split
  · exact h
  rename_i hq h2
  have hi : q.toNat < t.n := by omega
  generalize q.toNat = i at h2 hi
  have h2 : t.g i = 2 := Classical.byContradiction h2
  have ne : ∀ j, t.g j = 1 → updN t.g i 0 j = 1 := fun j hj => by
    rcases updN_cases (f := t.g) (q := i) (v := 0) j with ⟨rfl, _⟩ | ⟨_, e⟩
    · omega
    · rw [e]; exact hj
  refine { h with g := fun k hk => ?_, e := fun k hk hg => ?_, c := fun k hk hd => ne _ (h.c k hk hd), h := fun k hk hwa => ⟨fun hw => ne _ ((h.h k hk hwa).1 hw), fun hw => ne _ ((h.h k hk hwa).2 hw)⟩ } <;> dsimp only at *
  · rcases updN_cases (f := t.g) (q := i) (v := 0) k with ⟨rfl, e⟩ | ⟨_, e⟩ <;> rw [e]
    · simp
    · exact h.g k hk
  · rcases updN_cases (f := t.g) (q := i) (v := 0) k with ⟨rfl, e⟩ | ⟨_, e⟩ <;> rw [e] at hg
    · omega
    · exact h.e k hk hg
theorem TI.hunger {t : TS} (h : TI t) (q : Int) : TI (tHunger t q).1 := by
  unfold tHunger
  split
  · exact h
  split
  · exact h
  rename_i hq h2
  have hi : q.toNat < t.n := by omega
  generalize q.toNat = i at h2 hi
  have h2 : t.g i = 0 := Classical.byContradiction h2
  have ne : ∀ j, t.g j = 1 → updN t.g i 1 j = 1 := fun j hj => by
    rcases updN_cases (f := t.g) (q := i) (v := 1) j with ⟨rfl, e⟩ | ⟨_, e⟩
    · exact e
    · rw [e]; exact hj
  refine { h with g := fun k hk => ?_, e := fun k hk hg => ?_, c := fun k hk hd => ne _ (h.c k hk hd), h := fun k hk hwa => ⟨fun hw => ne _ ((h.h k hk hwa).1 hw), fun hw => ne _ ((h.h k hk hwa).2 hw)⟩ } <;> dsimp only at *
  · rcases updN_cases (f := t.g) (q := i) (v := 1) k with ⟨rfl, e⟩ | ⟨_, e⟩ <;> rw [e]
    · simp
    · exact h.g k hk
  · rcases updN_cases (f := t.g) (q := i) (v := 1) k with ⟨rfl, e⟩ | ⟨_, e⟩ <;> rw [e] at hg
    · omega
    · exact h.e k hk hg
end Go.Proofs.Ytiaopgnnibidlaa
