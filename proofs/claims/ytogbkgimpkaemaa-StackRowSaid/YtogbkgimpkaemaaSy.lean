import Derived.Test.YtogbkgimpkaemaaSx
namespace Go.Proofs.Ytogbkgimpkaemaa
open Go.Eng
set_option maxRecDepth 20000
theorem new1a {A B : List Ent} {ro : Addr → Option Value} {c : List Value} {n : Nat} {K : Nat → H → Prop} (hn : c.length = n) (h : ∀ r, K r ⟨A ++ (B ++ [⟨some r, c, n⟩]), ro⟩) : H.new ⟨A ++ B, ro⟩ c K := by
  intro r _
  subst hn
  show K r ⟨A ++ B ++ [⟨some r, c, c.length⟩], ro⟩
  rw [List.append_assoc]
  exact h r
def rowZ (p : Nat × List Int) : Ent := ⟨some p.1, ints p.2, p.2.length⟩
def svZ (p : Nat × List Int) : SV := ⟨some (Addr.mk p.1 0 none), p.2.length, p.2.length⟩
def rowZs (ps : List (Nat × List Int)) (r : Nat) : List Ent := ps.map rowZ ++ [⟨some r, ps.map fun p => svV (svZ p), ps.length⟩]
theorem rowZs_get {ps : List (Nat × List Int)} {r k : Nat} {h : H} (hL : ∀ e ∈ rowZs ps r, e ∈ h.own) (hk : k < ps.length) : ∃ p, ps[k]? = some p ∧ H.rd h (Addr.add (Addr.add (Addr.mk r 0 none) (k * 1)) 0) (svV (svZ p)) ∧ RdSl h (svZ p) (ints p.2) := by
  refine ⟨ps[k], List.getElem?_eq_getElem hk, ?_, ?_⟩
  · rw [add_mk', add_mk', show 0 + k * 1 + 0 = k by omega]
    exact rdo ⟨some r, ps.map fun p => svV (svZ p), ps.length⟩ (hL _ (List.mem_append_right _ (.head _))) rfl (by show (ps.map fun p => svV (svZ p))[k]? = _; rw [List.getElem?_map, List.getElem?_eq_getElem hk]; rfl)
  · have hm : rowZ ps[k] ∈ h.own := hL _ (List.mem_append_left _ (List.mem_map_of_mem (List.getElem_mem hk)))
    refine ⟨by simp [svZ, ints_length], (nomatch ·), fun b hb i v hv => ?_⟩
    cases hb
    rw [add_mk', Nat.zero_add]
    exact rdo _ hm rfl hv
def SpSt (p : Nat) (tg : Bool) (Y own : List Ent) (ro : Addr → Option Value) (k : Nat) (s : SV) (h : H) : Prop :=
  ∃ L' eo, KAt p 3 (spo tg k).1 L' ∧ OwnsSl 1 s eo (ints (spo tg k).2) ∧ h = ⟨own ++ (L' ++ (Y ++ [eo])), ro⟩
theorem spo_len (tg : Bool) : ∀ k, (spo tg k).2.length ≤ k
  | 0 => Nat.le_refl _
  | k + 1 => by
    have ih := spo_len tg k
    have key : ∀ {s2 s3 : SK} {c1 c2 c3 : Prop} [Decidable c1] [Decidable c2] [Decidable c3] {v : Int}, (if c1 then (if c2 then (s2, (spo tg k).2) else (s3, if c3 then (spo tg k).2 ++ [v] else (spo tg k).2)) else (s2, (spo tg k).2)).2.length ≤ k + 1 := by
      intro s2 s3 c1 c2 c3 _ _ _ v
      by_cases h1 : c1
      · rw [if_pos h1]
        by_cases h2 : c2
        · rw [if_pos h2]; show (spo tg k).2.length ≤ k + 1; omega
        · rw [if_neg h2]
          show (if c3 then (spo tg k).2 ++ [v] else (spo tg k).2).length ≤ k + 1
          by_cases h3 : c3
          · rw [if_pos h3, List.length_append]; show (spo tg k).2.length + 1 ≤ k + 1; omega
          · rw [if_neg h3]; omega
      · rw [if_neg h1]; show (spo tg k).2.length ≤ k + 1; omega
    exact key
set_option maxHeartbeats 4000000 in
theorem spoilt_c {tg : Bool} {own : List Ent} {ro : Addr → Option Value} {post : Value → H → Prop} (hk : ∀ X s, RdSl ⟨own ++ X, ro⟩ s (ints (spo tg 28).2) → post (.slice s.a s.len s.cap) ⟨own ++ X, ro⟩) :
    SemCall Try.prog 18 (List.toArray [.bool tg]) ⟨own, ro⟩ post := by
  refine f18_call _ _ post (stk_new_c (fun h => absurd (by omega) h) (fun p L hs _ _ => ⟨_, none, rfl, VIf_nnil ?_⟩))
  refine new1a (A := own) rfl (fun r5 => new1a (A := own) rfl (fun r7 => new1a (A := own) rfl (fun r9 => new1a (A := own) rfl (fun r11 => new1a (A := own) rfl (fun r13 => new1a (A := own) rfl (fun r15 => new1a (A := own) rfl (fun r17 => new1a (A := own) rfl (fun r19 => new1a (A := own) rfl (fun r21 => new1a (A := own) rfl (fun r23 => new1a (A := own) rfl (fun r25 => new1a (A := own) rfl (fun r27 => new1a (A := own) rfl (fun r29 => new1a (A := own) rfl (fun r31 => new1a (A := own) rfl (fun r33 => new1a (A := own) rfl (fun r35 => new1a (A := own) rfl (fun r37 => new1a (A := own) rfl (fun r39 => new1a (A := own) rfl (fun r41 => new1a (A := own) rfl (fun r43 => new1a (A := own) rfl (fun r45 => new1a (A := own) rfl (fun r47 => new1a (A := own) rfl (fun r49 => new1a (A := own) rfl (fun r51 => new1a (A := own) rfl (fun r53 => new1a (A := own) rfl (fun r55 => new1a (A := own) rfl (fun r57 => new1a (A := own) rfl (fun r59 => new1a (A := own) rfl (fun r61 => ?_)))))))))))))))))))))))))))))
  obtain ⟨ps, hps⟩ : ∃ ps : List (Nat × List Int), ps = [(r5, [1, 7]), (r7, [1]), (r9, [1]), (r11, [1, 8]), (r13, [1]), (r15, [1]), (r17, [0, (-1)]), (r19, [0]), (r21, [0]), (r23, [1, (-1)]), (r25, [1]), (r27, [1]), (r29, [1]), (r31, [2, 9]), (r33, [1, (-1)]), (r35, [1]), (r37, [1]), (r39, [1]), (r41, [2]), (r43, [2]), (r45, [0]), (r47, [0]), (r49, [0]), (r51, [0]), (r53, [0, (-1)]), (r55, [0]), (r57, [0]), (r59, [0])] := ⟨_, rfl⟩
  have hlen : ps.length = 28 := by rw [hps]; rfl
  have hscr : ∀ (k : Nat) (q : Nat × List Int), ps[k]? = some q → spoScript[k]? = some q.2 := by
    intro k q hq
    have : ps.map Prod.snd = spoScript := by rw [hps]; rfl
    rw [← this, List.getElem?_map, hq]; rfl
  refine ⟨fun s h => SpSt p tg (rowZs ps r61) own ro 28 s h, ⟨fun m s i h => ∃ k : Nat, i = (k : Int) ∧ k ≤ 28 ∧ m = 28 - k ∧ SpSt p tg (rowZs ps r61) own ro k s h, ⟨28, ⟨own ++ (L ++ (rowZs ps r61 ++ [⟨none, [], 0⟩])), ro⟩, ?_, 0, rfl, by omega, rfl, L, _, hs, OwnsSl.nil 1, rfl⟩, ?_⟩, ?_⟩
  · have g := Gh.phantom (own ++ (L ++ rowZs ps r61)) [] ro 0
    rw [hps] at g ⊢
    simpa [rowZs, rowZ, svZ, svV, ints, intV] using g
  rotate_left
  · rintro _ s _ ⟨L', eo, hs', ho, rfl⟩
    exact ret (hk _ s (RdSl.of_own (e := eo) (by simp) ho))
  clear hs
  rintro m _ s _ _ ⟨k, rfl, hk28, rfl, L', eo, hs', ho, rfl⟩
  refine VIf_dec (fun hlt => ?_) (fun hge => gi (by
    obtain rfl : k = 28 := by omega
    exact ⟨L', eo, hs', ho, rfl⟩))
  have hY : ∀ {L' : List Ent} {eo : Ent}, ∀ e ∈ rowZs ps r61, e ∈ (⟨own ++ (L' ++ (rowZs ps r61 ++ [eo])), ro⟩ : H).own := fun e he => by simp [he]
  obtain ⟨q, hq, hrd, _⟩ := rowZs_get (h := ⟨own ++ (L' ++ (rowZs ps r61 ++ [eo])), ro⟩) (k := k) hY (by omega)
  have rl : ∀ {L' : List Ent} {eo : Ent}, RdSl ⟨own ++ (L' ++ (rowZs ps r61 ++ [eo])), ro⟩ (svZ q) (ints q.2) := fun {L' eo} => by
    obtain ⟨q2, hq2, _, h2⟩ := rowZs_get (h := ⟨own ++ (L' ++ (rowZs ps r61 ++ [eo])), ro⟩) (k := k) hY (by omega)
    rw [hq] at hq2; cases hq2; exact h2
  have hsk := hscr k q hq
  have hspo : spo tg (k + 1) = spoOne (spo tg k) q.2 := by show spoOne (spo tg k) ((spoScript[k]?).getD []) = _; rw [hsk]; rfl
  obtain ⟨l0, l1⟩ := spoScript_ok _ (List.mem_of_getElem? hsk)
  have K := spo_inv tg k hk28
  have Km := spo_mid (l := q.2) K
  have ol := spo_len tg k
  obtain ⟨xs, hxs⟩ : ∃ xs, xs = q.2 := ⟨_, rfl⟩
  have tl : (svZ q).len = xs.length := by rw [hxs]; rfl
  obtain ⟨sl, hsl⟩ : ∃ sl, sl = svZ q := ⟨_, rfl⟩
  rw [← hxs] at rl hspo Km l0 l1
  rw [← hsl] at rl hrd tl
  refine ⟨_, rfl, by omega, hlt, sl, by rw [Int.toNat_natCast]; exact hrd, ?_⟩
  refine join_b (h := ⟨own ++ (L' ++ (rowZs ps r61 ++ [eo])), ro⟩) (decide (xs.length = 2 ∧ gI xs 1 ≥ 0)) (VIf_eq (fun h2 => idx1 rl (by omega) (gi ⟨rfl, decide_eq_decide.2 ⟨fun h => ⟨by omega, h⟩, fun h => h.2⟩⟩)) (fun h2 => gi ⟨rfl, (decide_eq_false (fun h => h2 (by omega))).symm⟩)) ?_
  obtain ⟨s1, hs1⟩ : ∃ s1, s1 = (if xs.length = 2 ∧ gI xs 1 ≥ 0 then (kPush 3 (spo tg k).1 (gI xs 0) (gI xs 1)).1 else (spo tg k).1) := ⟨_, rfl⟩
  obtain ⟨s2, hs2⟩ : ∃ s2, s2 = (if xs.length = 2 ∧ gI xs 1 < 0 then (kPop 3 s1 (gI xs 0)).1 else s1) := ⟨_, rfl⟩
  rw [← hs1, ← hs2] at Km
  have hspo2 : spo tg (k + 1) = if xs.length = 1 then (if s2.h ((gI xs 0).toNat * 5 + 0) = 0 then (s2, (spo tg k).2) else ((kStep s2 (gI xs 0).toNat).1, if (kStep s2 (gI xs 0).toNat).2.1 = true ∧ gI xs 0 = 0 then (spo tg k).2 ++ [(kStep s2 (gI xs 0).toNat).2.2] else (spo tg k).2)) else (s2, (spo tg k).2) := by
    rw [hspo, hs2, hs1]; rfl
  refine ⟨fun h => ∃ L1, KAt p 3 s1 L1 ∧ h = ⟨own ++ (L1 ++ (rowZs ps r61 ++ [eo])), ro⟩, VIf_dec (fun hc => ?_) (fun hc => gi ⟨L', by rw [hs1, if_neg hc]; exact hs', rfl⟩), ?_⟩
  · refine idx0 rl (by omega) (idx1 rl (by omega) (stk_push_c own _ rfl hs' (fun L1 h1 => ⟨_, rfl, gi ⟨L1, by rw [hs1, if_pos hc]; exact h1, rfl⟩⟩)))
  rintro _ _ ⟨L1, h1, rfl⟩
  refine join_b (h := ⟨own ++ (L1 ++ (rowZs ps r61 ++ [eo])), ro⟩) (decide (xs.length = 2 ∧ gI xs 1 < 0)) (VIf_eq (fun h2 => idx1 rl (by omega) (gi ⟨rfl, decide_eq_decide.2 ⟨fun h => ⟨by omega, h⟩, fun h => h.2⟩⟩)) (fun h2 => gi ⟨rfl, (decide_eq_false (fun h => h2 (by omega))).symm⟩)) ?_
  refine ⟨fun h => ∃ L2, KAt p 3 s2 L2 ∧ h = ⟨own ++ (L2 ++ (rowZs ps r61 ++ [eo])), ro⟩, VIf_dec (fun hc => ?_) (fun hc => gi ⟨L1, by rw [hs2, if_neg hc]; exact h1, rfl⟩), ?_⟩
  · refine idx0 rl (by omega) (stk_pop_c own _ rfl h1 (fun L2 h2 => ⟨_, rfl, gi ⟨L2, by rw [hs2, if_pos hc]; exact h2, rfl⟩⟩))
  rintro _ _ ⟨L2, h2, rfl⟩
  have next : ∀ {L3 : List Ent} {s' : SV} {e' : Ent} {out : List Int} {s3 : SK} {h : H}, spo tg (k + 1) = (s3, out) → KAt p 3 s3 L3 → OwnsSl 1 s' e' (ints out) → Gh h ⟨own ++ (L3 ++ (rowZs ps r61 ++ [e'])), ro⟩ → In64 ((k : Int) + 1) ∧ ∃ m66, m66 < 28 - k ∧ ∃ h2, Gh h h2 ∧ ∃ k' : Nat, (k : Int) + 1 = (k' : Int) ∧ k' ≤ 28 ∧ m66 = 28 - k' ∧ SpSt p tg (rowZs ps r61) own ro k' s' h2 := by
    intro L3 s' e' out s3 h he a b g
    exact ⟨⟨by omega, by omega⟩, 28 - (k + 1), by omega, _, g, k + 1, by omega, by omega, rfl, L3, e', by rw [he]; exact a, by rw [he]; exact b, rfl⟩
  refine VIf_eq (fun hl1 => ?_) (fun hl1 => next (by rw [hspo2, if_neg (by omega)]) h2 ho (Gh.refl _))
  refine idx0 rl (by omega) ?_
  obtain ⟨a, ha⟩ : ∃ a : Nat, gI xs 0 = (a : Int) := ⟨(gI xs 0).toNat, by omega⟩
  rw [ha] at hspo2 ⊢
  rw [Int.toNat_natCast] at hspo2
  refine stk_step_c own _ rfl h2 Km (by omega) (by omega) (fun L3 h3 => ?_)
  by_cases hz : s2.h (a * 5 + 0) = 0
  · simp only [if_pos hz] at h3 hspo2 ⊢
    refine ⟨false, 0, _, rfl, join_b (h := ⟨own ++ (L3 ++ (rowZs ps r61 ++ [eo])), ro⟩) false (VIf_b (nomatch ·) (fun _ => gi ⟨rfl, rfl⟩)) (VIf_b (nomatch ·) (fun _ => next (by rw [hspo2, if_pos (by omega)]) h3 ho (Gh.refl _)))⟩
  · simp only [if_neg hz] at h3 hspo2 ⊢
    refine ⟨_, _, _, rfl, join_b (h := ⟨own ++ (L3 ++ (rowZs ps r61 ++ [eo])), ro⟩) (decide ((kStep s2 a).2.1 = true ∧ (a : Int) = 0)) (VIf_b (fun hd => idx0 rl (by omega) (gi ⟨rfl, ?_⟩)) (fun hd => gi ⟨rfl, (decide_eq_false (fun h => by rw [hd] at h; cases h.1)).symm⟩)) (VIf_dec (fun hc => ?_) (fun hc => next (by rw [hspo2, if_pos (by omega), if_neg hc]) h3 ho (Gh.refl _)))⟩
    · rw [ha]
      by_cases h0 : (a : Int) = 0
      · rw [decide_eq_true ⟨hd, h0⟩]; exact beq_iff_eq.2 h0
      · rw [decide_eq_false (fun h => h0 h.2)]; exact beq_eq_false_iff_ne.2 h0
    · have hol := ho.sl_len
      rw [ints_length] at hol
      refine app_row grows_ints (vs := [.int .i64 (kStep s2 a).2.2]) rfl ⟨rfl, trivial⟩ (own ++ (L3 ++ rowZs ps r61)) eo [] (by simp) ho (by omega) (fun s' e' o' _ => ?_)
      refine next (L3 := L3) (e' := e') (s' := s') (by rw [hspo2, if_pos (by omega), if_pos hc]) h3 (by simpa [ints, intV] using o') (by simpa using Gh.refl _)
end Go.Proofs.Ytogbkgimpkaemaa
