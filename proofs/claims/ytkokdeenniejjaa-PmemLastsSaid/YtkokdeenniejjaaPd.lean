import Derived.Test.YtkokdeenniejjaaPc
namespace Go.Proofs.Ytkokdeenniejjaa
open Go.Eng
set_option maxRecDepth 20000
/-! ### a closed fact -/
theorem pmem_fact_list : rm 2 (fun k => ((pCrash 2 (fun k => pF ((pFlush 2 (pWrite 2 (pWrite 2 (fun _ => ⟨0, 0, 0, false⟩) 0 5).1 1 6).1 0).1 k)) 0).1 k).a) = [5, 0] := by decide +kernel
theorem pB_all : ∀ n : Nat, n < 9 → ∀ k : Nat, k < n → pB ((2 : Int) ^ n - 1) k = true := by decide +kernel
theorem pmem_fact_c {own : List Ent} {ro : Addr → Option Value} {post : Value → H → Prop} (hk : post (.bool true) ⟨own, ro⟩) : SemCall Try.prog 10 (List.toArray []) ⟨own, ro⟩ post := by
  refine f10_call _ post ?_
  refine pmem_new_c (fun hc => absurd ⟨by decide, by decide⟩ hc) (fun p L hs _ _ => ⟨_, none, rfl, ?_⟩)
  obtain ⟨F1, hF1⟩ : ∃ F1, F1 = (pWrite 2 (fun _ => ⟨0, 0, 0, false⟩) 0 5).1 := ⟨_, rfl⟩
  obtain ⟨F2, hF2⟩ : ∃ F2, F2 = (pWrite 2 F1 1 6).1 := ⟨_, rfl⟩
  obtain ⟨F3, hF3⟩ : ∃ F3, F3 = (pFlush 2 F2 0).1 := ⟨_, rfl⟩
  have x1 : (pWrite 2 (fun _ => ⟨0, 0, 0, false⟩) 0 5).2 = 0 := by decide
  have x2 : (pWrite 2 F1 1 6).2 = 0 := by simp [pWrite]
  have x3 : (pFlush 2 F2 0).2 = 0 := by simp [pFlush]
  refine ⟨fun b h => b = false ∧ ∃ L, h = ⟨own ++ L, ro⟩ ∧ MemAt p 2 F3 L, VIf_nnil ?_, ?_⟩
  · refine pmem_write_c own [] (by simp) hs (by omega) (fun L1 h1 => ⟨_, rfl, VIf_nerr (fun h => absurd x1 h) (fun _ => ?_)⟩)
    have h1 : MemAt p 2 F1 L1 := by rw [hF1]; exact h1
    refine pmem_write_c own [] rfl h1 (by omega) (fun L2 h2 => ⟨_, rfl, VIf_nerr (fun h => absurd x2 h) (fun _ => ?_)⟩)
    have h2 : MemAt p 2 F2 L2 := by rw [hF2]; exact h2
    refine pmem_flush_c own [] rfl h2 (by omega) (fun L3 h3 => ?_)
    rw [x3]
    exact ⟨none, rfl, rfl, gi ⟨rfl, L3, by simp, by rw [hF3]; exact h3⟩⟩
  rintro _ _ _ ⟨rfl, L3, rfl, h3⟩
  refine VIf_b (nomatch ·) (fun _ => ?_)
  refine pmem_fence_c own [] (by simp) h3 (by omega) (fun L4 h4 => ⟨rfl, ?_⟩)
  refine ⟨fun b h => b = true ∧ ∃ L, h = ⟨own ++ L, ro⟩, ?_, ?_⟩
  · have x4 : (pCrash 2 (fun k => pF (F3 k)) 0).2 = 0 := by unfold pCrash; rw [if_neg (by decide)]
    refine pmem_crash_c own [] rfl h4 (by omega) (fun L5 h5 => ⟨_, rfl, VIf_err (fun _ => ?_) (fun h => absurd x4 h)⟩)
    refine pmem_cells_c h5 (fun e he => by simp [he]) (by omega) (by omega) (fun s' e' o l => ⟨s', rfl, ?_⟩)
    intro r30 _
    refine same_ints_c (xs := _) (ys := [5, 0]) (s2 := ⟨some (Addr.mk r30 0 none), 2, 2⟩) (RdSl.of_own (e := e') (by simp) o) (RdSl.of_own (e := ⟨some r30, [.int .i64 5, .int .i64 0], 2⟩) (by simp) (OwnsSl.at0 1 (by simp [ints]) (by simp) (by simp [maxLen]))) (by omega) ⟨_, rfl, gi ⟨?_, _, by simp; rfl⟩⟩
    rw [hF3, hF2, hF1]
    exact decide_eq_true pmem_fact_list
  rintro _ _ _ ⟨rfl, L5, rfl⟩
  exact ⟨⟨own, ro⟩, Gh.drop (by simp), hk⟩
/-! ### nothing comes from nowhere -/
def PWas (rows : List (SV × List Int)) (k : Nat) (v : Int) : Prop := v = 0 ∨ ∃ (r : Nat) (t : SV) (ys : List Int), r < 60 ∧ rows[r]? = some (t, ys) ∧ ys.length = 3 ∧ gI ys 1 = k ∧ gI ys 2 = v
def PW (n : Nat) (rows : List (SV × List Int)) (F : Nat → PCell) : Prop := ∀ k, k < n → PWas rows k (F k).a ∧ PWas rows k (F k).s ∧ ((F k).f = true → PWas rows k (F k).x)
theorem PW.keep (n : Nat) (rows : List (SV × List Int)) (but : Int) : PKeep n rows but (PW n rows) where
  w := fun F r t ys hr ht hl _ h => by
    unfold pWrite
    split
    · exact h
    · rename_i hc
      intro k hk
      obtain ⟨h1, h2, h3⟩ := h k hk
      by_cases e : k = (gI ys 1).toNat
      · subst e
        simp only [updN_same]
        exact ⟨.inr ⟨r, t, ys, hr, ht, hl, by omega, rfl⟩, h2, h3⟩
      · simp only [updN_ne e]
        exact ⟨h1, h2, h3⟩
  f := fun F i h => by
    unfold pFlush
    split
    · exact h
    · intro k hk
      obtain ⟨h1, h2, h3⟩ := h k hk
      by_cases e : k = i.toNat
      · subst e
        simp only [updN_same]
        exact ⟨h1, h2, fun _ => h1⟩
      · simp only [updN_ne e]
        exact ⟨h1, h2, h3⟩
  c := fun F keep h => by
    unfold pCrash
    split
    · exact h
    · intro k hk
      obtain ⟨h1, h2, h3⟩ := h k hk
      simp only [pC]
      refine ⟨?_, ?_, fun h => nomatch h⟩ <;> split <;> assumption
  n := fun F h k hk => by
    obtain ⟨h1, h2, h3⟩ := h k hk
    simp only [pF]
    split
    · rename_i hf; exact ⟨h1, h3 hf, fun h => nomatch h⟩
    · exact ⟨h1, h2, h3⟩
set_option maxHeartbeats 2000000 in
theorem pmemWas_c {n : Int} {st : SV} {rows : List (SV × List Int)} {ro : Addr → Option Value} {post : Value → H → Prop} (hr : RdRowsOf ⟨[], ro⟩ st rows) (hpost : ∀ h, post (.bool true) h) :
    SemCall Try.prog 3 (List.toArray [.int .i64 n, .slice st.a st.len st.cap]) ⟨[], ro⟩ post := by
  refine f3_call _ _ _ post ?_
  refine pmem_fact_c ⟨_, rfl, VIf_nb (nomatch ·) (fun _ => ?_)⟩
  refine pmem_new_c (fun hc => ⟨_, _, rfl, VIf_nerr (fun _ => ?_) (nomatch ·)⟩) (fun p L hs c0 c1 => ⟨_, none, rfl, VIf_nnil ?_⟩)
  · exact join_or (ret (by rw [decide_eq_true (show n < 1 ∨ n > 8 by omega)]; exact hpost _))
  obtain ⟨N, rfl⟩ : ∃ N : Nat, n = (N : Int) := ⟨n.toNat, by omega⟩
  rw [Int.toNat_natCast] at hs
  have hN : N ≤ 8 := by omega
  refine pmem_done_c [] [] (by simp) hs hN hr (PW.keep N rows (-1)) (fun k _ => ⟨.inl rfl, .inl rfl, fun h => nomatch h⟩) (fun F L' hP hs' => ⟨rfl, ?_⟩)
  simp only [List.nil_append, List.append_nil]
  refine pmem_cells_c hs' (fun _ h => h) (by omega) (by omega) (fun s' e' o l => ⟨s', rfl, VIf_ne (fun h => absurd (by omega) h) (fun _ => ?_)⟩)
  have hrr : ∀ {own}, RdRowsOf ⟨own, ro⟩ st rows := hr.mono (by simp) (fun _ _ h => h)
  have htr : ∀ {own} {i : Nat} {t xs}, rows[i]? = some (t, xs) → RdSl ⟨own, ro⟩ t (ints xs) := fun {own} i t xs ht => hrr.2 _ (List.mem_of_getElem? ht)
  have hlr : st.len = rows.length := by have := hr.1.len; rwa [List.length_map] at this
  have hcs : ∀ (i : Nat), i < N → ∀ {K : Int → Prop}, K (F i).a → ∃ b : Addr, s'.a = some b ∧ 0 ≤ (i : Int) ∧ (i : Int) < ((s'.len : Nat) : Int) ∧ ∃ x : Int, H.rd ⟨L' ++ [e'], ro⟩ (Addr.add (Addr.add b ((i : Int).toNat * 1)) 0) (Value.int .i64 x) ∧ K x := fun i hi K hK => by
    refine RdSl.idx (RdSl.of_own (h := ⟨L' ++ [e'], ro⟩) (e := e') (by simp) o) (by omega) (by omega) (fun x hx => ?_)
    rw [Int.toNat_natCast, rm_get _ hi] at hx
    cases hx; exact hK
  refine ⟨fun h => h = ⟨L' ++ [e'], ro⟩, ⟨fun m i h => h = ⟨L' ++ [e'], ro⟩ ∧ 0 ≤ i ∧ i ≤ N ∧ m = (N - i).toNat, ⟨N, gi ⟨rfl, by omega, by omega, by omega⟩⟩, ?_⟩, ?_⟩
  · rintro m _ i _ ⟨rfl, i0, i1, rfl⟩
    refine VIf_dec (fun hi => ?_) (fun _ => gi rfl)
    obtain ⟨q, rfl⟩ : ∃ q : Nat, i = (q : Int) := ⟨i.toNat, by omega⟩
    have hq : q < N := by omega
    refine ⟨fun h => h = ⟨L' ++ [e'], ro⟩, hcs q hq ?_, fun _ h hh => by subst hh; exact ⟨⟨by omega, by omega⟩, _, by omega, gi ⟨rfl, by omega, by omega, rfl⟩⟩⟩
    refine ⟨fun b h => b = true ∧ h = ⟨L' ++ [e'], ro⟩, ⟨fun m was k h => h = ⟨L' ++ [e'], ro⟩ ∧ 0 ≤ k ∧ k ≤ 60 ∧ m = (60 - k).toNat ∧ (was = true ∨ ∃ (r : Nat) (t : SV) (ys : List Int), r < 60 ∧ k ≤ r ∧ rows[r]? = some (t, ys) ∧ ys.length = 3 ∧ gI ys 1 = q ∧ gI ys 2 = (F q).a), ⟨60, gi ⟨rfl, by omega, by omega, rfl, ?_⟩⟩, ?_⟩, ?_⟩
    · rcases (hP q hq).1 with h | ⟨r, t, ys, h1, h2, h3, h4, h5⟩
      · exact .inl (by simpa using h)
      · exact .inr ⟨r, t, ys, h1, by omega, h2, h3, h4, h5⟩
    · rintro m _ was k _ ⟨rfl, k0, k1, rfl, hw⟩
      refine join_and (VIf_dec (fun hk => ?_) (fun hk => gi ⟨?_, rfl⟩))
      rotate_left
      · rcases hw with hw | ⟨r, t, ys, h1, h2, h3, _⟩
        · exact hw
        · have := (List.getElem?_eq_some_iff.1 h3).1
          omega
      refine ⟨fun b h => h = ⟨L' ++ [e'], ro⟩ ∧ (b = true ∨ ∃ (r : Nat) (t : SV) (ys : List Int), r < 60 ∧ k + 1 ≤ r ∧ rows[r]? = some (t, ys) ∧ ys.length = 3 ∧ gI ys 1 = q ∧ gI ys 2 = (F q).a), VIf_b (fun _ => gi ⟨rfl, .inl rfl⟩) (fun hwf => ?_), fun _ b h ⟨e, hb⟩ => by subst e; exact ⟨⟨by omega, by omega⟩, _, by omega, gi ⟨rfl, by omega, by omega, rfl, hb⟩⟩⟩
      obtain ⟨r, t0, ys0, g1, g2, g3, g4, g5, g6⟩ := hw.resolve_left (by rw [hwf]; decide)
      have later : ∀ {P : Prop}, (∀ (e : r = k.toNat), P) → P ∨ ∃ (r : Nat) (t : SV) (ys : List Int), r < 60 ∧ k + 1 ≤ r ∧ rows[r]? = some (t, ys) ∧ ys.length = 3 ∧ gI ys 1 = q ∧ gI ys 2 = (F q).a := fun h => by
        by_cases e : r = k.toNat
        · exact .inl (h e)
        · exact .inr ⟨r, t0, ys0, g1, by omega, g3, g4, g5, g6⟩
      have here : ∀ {t : SV} {ys : List Int}, rows[k.toNat]? = some (t, ys) → r = k.toNat → t0 = t ∧ ys0 = ys := fun ht e => by
        rw [e, ht] at g3
        cases g3
        exact ⟨rfl, rfl⟩
      refine RdRowsOf.idx hrr k0 hk.1 (fun t ys ht hrt => VIf_eq (fun h3 => ?_) (fun h3 => gi ⟨rfl, later fun e => absurd ?_ h3⟩))
      rotate_left
      · obtain ⟨rfl, rfl⟩ := here ht e
        have := (htr (own := []) ht).len
        rw [ints_length] at this
        omega
      have hl3 : ∀ {t : SV} {ys : List Int}, rows[k.toNat]? = some (t, ys) → t.len = ys.length := fun ht => by have := (htr (own := []) ht).len; rwa [ints_length] at this
      refine RdRowsOf.idx hrr k0 hk.1 (fun t1 ys1 ht1 hrt1 => ?_)
      obtain ⟨rfl, rfl⟩ : t1 = t ∧ ys1 = ys := by rw [ht] at ht1; cases ht1; exact ⟨rfl, rfl⟩
      have hyl := hl3 ht
      refine idx1 hrt1 (by omega) (VIf_eq (fun h1 => ?_) (fun h1 => gi ⟨rfl, later fun e => absurd ?_ h1⟩))
      rotate_left
      · obtain ⟨_, rfl⟩ := here ht e
        exact g5
      refine RdRowsOf.idx hrr k0 hk.1 (fun t2 ys2 ht2 hrt2 => ?_)
      obtain ⟨rfl, rfl⟩ : t2 = t1 ∧ ys2 = ys1 := by rw [ht] at ht2; cases ht2; exact ⟨rfl, rfl⟩
      refine idx2 hrt2 (by omega) (hcs q hq (gi ⟨rfl, later fun e => ?_⟩))
      obtain ⟨_, rfl⟩ := here ht e
      rw [g6]; simp
    · rintro _ b _ ⟨rfl, rfl⟩
      exact VIf_nb (nomatch ·) (fun _ => gi rfl)
  rintro _ _ rfl
  refine ⟨fun all h => all = 2 ^ N ∧ h = ⟨L' ++ [e'], ro⟩, ⟨fun m all i h => ∃ k : Nat, i = k ∧ k ≤ N ∧ m = N - k ∧ all = 2 ^ k ∧ h = ⟨L' ++ [e'], ro⟩, ⟨N, gi ⟨0, rfl, Nat.zero_le _, rfl, rfl, rfl⟩⟩, ?_⟩, ?_⟩
  · rintro m _ all i _ ⟨k, rfl, hk, rfl, rfl, rfl⟩
    refine VIf_dec (fun hlt => ?_) (fun hge => ?_)
    · have h2 := pow2_le (n := k + 1) (by omega)
      have h3 : (2 : Int) ^ k * 2 = 2 ^ (k + 1) := (Int.pow_succ _ _).symm
      rw [h3]
      exact ⟨⟨by omega, by omega⟩, ⟨by omega, by omega⟩, N - (k + 1), by omega, gi ⟨k + 1, by omega, by omega, rfl, rfl, rfl⟩⟩
    · obtain rfl : k = N := by omega
      exact gi ⟨rfl, rfl⟩
  rintro _ all _ ⟨rfl, rfl⟩
  have h2 := pow2_le hN
  refine ⟨fun b h => b = true, ⟨⟨by omega, by omega⟩, ?_⟩, fun _ b h hb => by rw [hb]; exact ret (hpost _)⟩
  have x1 : (pCrash N F (2 ^ N - 1)).2 = 0 := by unfold pCrash; rw [if_neg (by omega)]
  refine pmem_crash_c [] [e'] rfl hs' hN (fun L1 h1 => ⟨_, rfl, VIf_err (fun _ => ?_) (fun h => absurd x1 h)⟩)
  have h1 : MemAt p N (fun k => ⟨(F k).a, (F k).a, 0, false⟩) L1 := h1.congr fun k hk => by
    unfold pCrash
    rw [if_neg (by omega)]
    simp only [pC, pB_all N (by omega) k hk, if_true]
  have hl : s'.len ≤ 1000000000 := by omega
  refine pmem_cells_c h1 (fun e he => by simp [he]) (by omega) (by omega) (fun s1 e1 o1 l1 => ⟨s1, rfl, ?_⟩)
  refine same_ints_c (RdSl.of_own (e := e1) (by simp) o1) (RdSl.of_own (e := e') (by simp) o) (by omega) ⟨_, rfl, VIf_dec (fun _ => ?_) (fun h => absurd rfl h)⟩
  have x2 : (pCrash N (fun k => ⟨(F k).a, (F k).a, 0, false⟩) 0).2 = 0 := by unfold pCrash; rw [if_neg (by omega)]
  refine pmem_crash_c [] [e', e1] (by simp) h1 hN (fun L2 h2 => ⟨_, rfl, VIf_err (fun _ => ?_) (fun h => absurd x2 h)⟩)
  have h2 : MemAt p N (fun k => ⟨(F k).a, (F k).a, 0, false⟩) L2 := h2.congr fun k hk => by
    unfold pCrash
    rw [if_neg (by omega)]
    simp only [pC, ite_self]
  refine pmem_cells_c h2 (fun e he => by simp [he]) (by omega) (by omega) (fun s2 e2 o2 l2 => ⟨s2, rfl, ?_⟩)
  exact same_ints_c (RdSl.of_own (e := e2) (by simp) o2) (RdSl.of_own (e := e') (by simp) o) (by omega) ⟨_, rfl, gi (decide_eq_true rfl)⟩
/-! ### what was flushed and fenced lasts -/
def PL (k : Nat) (v : Int) (F : Nat → PCell) : Prop := (F k).a = v ∧ (F k).s = v ∧ ((F k).f = true → (F k).x = v)
theorem PL.keep (n : Nat) (rows : List (SV × List Int)) (k : Nat) (v : Int) : PKeep n rows k (PL k v) where
  w := fun F r t ys _ _ _ hb h => by
    unfold pWrite
    split
    · exact h
    · rename_i hc
      have e : k ≠ (gI ys 1).toNat := by omega
      unfold PL
      simp only [updN_ne e]
      exact h
  f := fun F i h => by
    unfold pFlush
    split
    · exact h
    · unfold PL
      by_cases e : k = i.toNat
      · subst e
        simp only [updN_same]
        exact ⟨h.1, h.2.1, fun _ => h.1⟩
      · simp only [updN_ne e]
        exact h
  c := fun F keep h => by
    unfold pCrash
    split
    · exact h
    · unfold PL
      simp only [pC]
      refine ⟨?_, ?_, fun h => nomatch h⟩ <;> split <;> first | exact h.1 | exact h.2.1
  n := fun F h => by
    unfold PL
    simp only [pF]
    split
    · rename_i hf; exact ⟨h.1, h.2.2 hf, fun h => nomatch h⟩
    · exact h
theorem PTrue.keep (n : Nat) (rows : List (SV × List Int)) (but : Int) : PKeep n rows but (fun _ => True) := ⟨fun _ _ _ _ _ _ _ _ _ => trivial, fun _ _ _ => trivial, fun _ _ _ => trivial, fun _ _ => trivial⟩
set_option maxHeartbeats 1000000 in
theorem pmemLasts_c {n i value : Int} {st st2 : SV} {rows rows2 : List (SV × List Int)} {ro : Addr → Option Value} {post : Value → H → Prop} (hr : RdRowsOf ⟨[], ro⟩ st rows) (hr2 : RdRowsOf ⟨[], ro⟩ st2 rows2) (hpost : ∀ h, post (.bool true) h) :
    SemCall Try.prog 6 (List.toArray [.int .i64 n, .slice st.a st.len st.cap, .int .i64 i, .int .i64 value, .slice st2.a st2.len st2.cap]) ⟨[], ro⟩ post := by
  refine f6_call _ _ _ _ _ _ post ?_
  refine pmem_fact_c ⟨_, rfl, VIf_nb (nomatch ·) (fun _ => ?_)⟩
  refine pmem_new_c (fun hc => ⟨_, _, rfl, VIf_nerr (fun _ => ?_) (nomatch ·)⟩) (fun p L hs c0 c1 => ⟨_, none, rfl, VIf_nnil ?_⟩)
  · exact join_or (ret (by rw [decide_eq_true (show n < 1 ∨ n > 8 by omega)]; exact hpost _))
  obtain ⟨N, rfl⟩ : ∃ N : Nat, n = (N : Int) := ⟨n.toNat, by omega⟩
  rw [Int.toNat_natCast] at hs
  have hN : N ≤ 8 := by omega
  refine pmem_done_c [] [] (by simp) hs hN hr (PTrue.keep N rows (-1)) trivial (fun F L1 _ h1 => ⟨rfl, ?_⟩)
  refine pmem_write_c [] [] rfl h1 (by omega) (fun L2 h2 => ⟨_, rfl, VIf_nerr (fun he => ?_) (fun he => ?_)⟩)
  · have hc : ¬ (0 ≤ i ∧ i ≤ (N : Int) - 1) ∨ ¬ (0 ≤ value ∧ value ≤ 1000) := by
      by_cases hc : ¬ (0 ≤ i ∧ i ≤ (N : Int) - 1) ∨ ¬ (0 ≤ value ∧ value ≤ 1000)
      · exact hc
      · exact absurd (by unfold pWrite; rw [if_neg hc]) he
    refine ⟨fun b h => b = true, ⟨⟨by omega, by omega⟩, in_c ⟨_, rfl, VIf_not (fun h => gi rfl) (fun h => in_c ⟨_, rfl, gi ?_⟩)⟩⟩, fun _ b h hb => by rw [hb]; exact ret (hpost _)⟩
    rw [decide_eq_false (by omega)]; rfl
  have hc : ¬ (¬ (0 ≤ i ∧ i ≤ (N : Int) - 1) ∨ ¬ (0 ≤ value ∧ value ≤ 1000)) := fun hc => by
    unfold pWrite at he
    rw [if_pos hc] at he
    exact absurd he (by simp)
  obtain ⟨k, rfl⟩ : ∃ k : Nat, i = (k : Int) := ⟨i.toNat, by omega⟩
  have hk : k < N := by omega
  obtain ⟨F2, hF2⟩ : ∃ F2, F2 = (pWrite N F k value).1 := ⟨_, rfl⟩
  rw [← hF2] at h2
  have a2 : (F2 k).a = value := by rw [hF2, pWrite, if_neg hc]; simp only [Int.toNat_natCast, updN_same]
  have x3 : (pFlush N F2 k).2 = 0 := by unfold pFlush; rw [if_neg (by omega)]
  refine pmem_flush_c [] [] rfl h2 (by omega) (fun L3 h3 => ⟨_, rfl, VIf_nerr (fun he => absurd x3 he) (fun _ => ?_)⟩)
  refine pmem_fence_c [] [] rfl h3 (by omega) (fun L4 h4 => ⟨rfl, ?_⟩)
  refine pmem_done_c [] [] rfl h4 hN hr2 (PL.keep N rows2 k value) ?_ (fun F5 L5 hP h5 => ⟨rfl, ?_⟩)
  · unfold PL pFlush
    rw [if_neg (by omega)]
    simp only [Int.toNat_natCast, updN_same, pF, if_true]
    exact ⟨a2, a2, fun h => nomatch h⟩
  have x6 : (pCrash N F5 0).2 = 0 := by have := pow2_le hN; unfold pCrash; rw [if_neg (by omega)]
  refine pmem_crash_c [] [] rfl h5 hN (fun L6 h6 => ⟨_, rfl, VIf_nerr (fun he => absurd x6 he) (fun _ => ?_)⟩)
  have h7 := (PL.keep N rows2 k value).c F5 0 hP
  refine pmem_read_c [] [] rfl h6 (by omega) ⟨_, rfl, ?_⟩
  rw [if_pos (by omega), Int.toNat_natCast, h7.1]
  refine ret ?_
  rw [show (value == value) = true by simp]
  exact hpost _
end Go.Proofs.Ytkokdeenniejjaa
