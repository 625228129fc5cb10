import Derived.Test.YtnecppjgcbhnaaaUl
import Derived.Test.YtnecppjgcbhnaaaEngJ
namespace Go.Proofs.Ytnecppjgcbhnaaa
open Go.Eng
/-! ### the laws of the row, walked -/
theorem univ_fact_c {own : List Ent} {ro : Addr → Option Value} {post : Value → H → Prop} (hk : post (.bool true) ⟨own, ro⟩) : SemCall Try.prog 14 (List.toArray []) ⟨own, ro⟩ post := by
  refine f14_call _ post ?_
  refine univ_new_c (fun hc => absurd ⟨by decide, by decide⟩ hc) (fun p L hs _ _ => ⟨_, none, rfl, VIf_nnil ?_⟩)
  have i0 := UInv.start (n := 1) (by decide)
  have e1 : univBegin ⟨List.replicate 41 0, [], List.replicate (1 : Int).toNat ⟨0, 0, 0, 0⟩⟩ 0 7 = (⟨List.replicate 41 0, [(0, 7)], [⟨1, 1, 0, 0⟩]⟩, 0) := rfl
  refine univ_begin_c own [] (by simp) hs i0.ok (fun L1 h1 => ?_)
  rcases i0.begin 0 7 with ⟨k, hk', e⟩ | ⟨_, _, _, _, _, _, e, i1⟩
  · exact absurd (congrArg Prod.snd (e.symm.trans e1)) hk'
  rw [e1] at h1 ⊢
  have i1 : UInv ⟨List.replicate 41 0, [(0, 7)], [⟨1, 1, 0, 0⟩]⟩ 0 := i1
  refine ⟨none, rfl, ?_⟩
  have e2 : univStep ⟨List.replicate 41 0, [(0, 7)], [⟨1, 1, 0, 0⟩]⟩ 0 = (⟨1 :: List.replicate 40 0, [(0, 7)], [⟨2, 1, 0, 0⟩]⟩, false, 0, 0) := rfl
  refine univ_step_c own [] (by simp) h1 i1.ok (fun L2 h2 => ?_)
  have i2 : ∃ m, UInv ⟨1 :: List.replicate 40 0, [(0, 7)], [⟨2, 1, 0, 0⟩]⟩ m := by
    rcases i1.step 0 with ⟨k, hk', _, e⟩ | ⟨_, _, h, hh, _, _, e, i⟩ | ⟨_, _, h, hh, _, hc, e, i⟩ | ⟨_, _, h, g, hh, hl, _⟩ | ⟨_, _, h, hh, hl, _⟩
    · exact absurd (congrArg (fun x => x.2.2.2) (e.symm.trans e2)) hk'
    · cases hh; exact ⟨_, i⟩
    · cases hh; simp at hc
    · cases hh; simp at hl
    · cases hh; simp at hl
  obtain ⟨m, i2⟩ := i2
  rw [e2] at h2 ⊢
  refine ⟨_, _, none, rfl, ?_⟩
  have e3 : univStep ⟨1 :: List.replicate 40 0, [(0, 7)], [⟨2, 1, 0, 0⟩]⟩ 0 = (⟨1 :: List.replicate 40 0, [(0, 7)], [⟨0, 0, 0, 0⟩]⟩, true, 0, 0) := rfl
  refine univ_step_c own [] (by simp) h2 i2.ok (fun L3 h3 => ?_)
  rw [e3] at h3 ⊢
  refine ⟨_, _, none, rfl, ?_⟩
  refine ⟨fun b h => b = true ∧ h = ⟨own, ro⟩, VIf_nil (VIf_nil (VIf_nil (VIf_nb (fun _ => VIf_b (fun _ => VIf_eq (fun _ => ?_) (fun h => absurd rfl h)) (nomatch ·)) (nomatch ·)))), ?_⟩
  · have hc : ∀ x ∈ (1 :: List.replicate 40 (0 : Int)), 0 ≤ x ∧ x ≤ 1000 := by decide
    refine univ_order_c h3 (by intro e he; simp [he]) hc (fun s e ho => ⟨s, rfl, ?_⟩)
    have eo : univOrder (1 :: List.replicate 40 0) = [0] := rfl
    dsimp only at ho
    rw [eo] at ho
    intro r _
    have g1 : RdSl ⟨own ++ (L3 ++ []) ++ [e] ++ [⟨some r, [.int .i64 0], [Value.int .i64 0].length⟩], ro⟩ s (ints [0]) := RdSl.of_own (e := e) (by simp) ho
    have g2 : RdSl ⟨own ++ (L3 ++ []) ++ [e] ++ [⟨some r, [.int .i64 0], [Value.int .i64 0].length⟩], ro⟩ ⟨some (Addr.mk r 0 none), 1, 1⟩ (ints [0]) := RdSl.row (n := 1) (vs := ints [0]) (e := ⟨some r, [.int .i64 0], 1⟩) (by simp) rfl rfl
    have hlen := ho.sl_len
    simp at hlen
    refine same_ints_c (s2 := ⟨some (Addr.mk r 0 none), 1, 1⟩) g1 g2 (by omega) ⟨_, rfl, ?_⟩
    exact ⟨⟨own, ro⟩, Gh.drop (by simp), by simp, rfl⟩
  · rintro _ b h ⟨rfl, rfl⟩; exact ret hk
def UnSt (p : Nat) (ro : Addr → Option Value) (n : Int) (h : H) : Prop := ∃ L u m, h = ⟨L, ro⟩ ∧ UnivAt p u L ∧ UInv u m ∧ (u.hands.length : Int) = n
/-- what is left for a hand to do -/
def urem (u : Univ) (m : Nat) (g : UHand) : Int := if g.ln = 1 then 2 * (m - g.cell) + 2 else if u.cells[g.cell.toNat]? = some g.deed then 1 else 2 * (m - g.cell) + 1
theorem univGoes_c {n : Int} {st : SV} {rows : List (SV × List Int)} {q : Int} {ro : Addr → Option Value} {post : Value → H → Prop} (hr : RdRowsOf ⟨[], ro⟩ st rows) (hpost : ∀ h, post (.bool true) h) :
    SemCall Try.prog 5 (List.toArray [.int .i64 n, .slice st.a st.len st.cap, .int .i64 q]) ⟨[], ro⟩ post := by
  refine f5_call _ _ _ _ post ?_
  refine univ_fact_c ⟨_, rfl, VIf_nb (nomatch ·) (fun _ => ?_)⟩
  refine univ_new_c (fun hc => ⟨_, _, rfl, VIf_nerr (fun _ => ?_) (nomatch ·)⟩) (fun p L hs c0 c1 => ⟨_, none, rfl, VIf_nnil ?_⟩)
  · exact join_or (ret (by rw [decide_eq_true (show n < 1 ∨ n > 4 by omega)]; exact hpost _))
  refine ⟨fun h => UnSt p ro n h, ⟨fun k i h => UnSt p ro n h ∧ 0 ≤ i ∧ i ≤ 150 ∧ k = (150 - i).toNat, ⟨150, gi ⟨⟨L, _, 0, rfl, hs, UInv.start (by omega), by simp; omega⟩, by omega, by omega, rfl⟩⟩, ?_⟩, ?_⟩
  · rintro k _ i h ⟨⟨L, u, m, rfl, hs, hI, hn⟩, hi0, hi1, rfl⟩
    have hr : ∀ {own}, RdRowsOf ⟨own, ro⟩ st rows := hr.mono (by simp) (fun _ _ h => h)
    refine join_and (VIf_dec (fun hi => ?_) (fun _ => gi ⟨L, u, m, rfl, hs, hI, hn⟩))
    refine hr.idx hi0 hi.1 fun t xs ht htr => ?_
    have htr : ∀ {own}, RdSl ⟨own, ro⟩ t (ints xs) := fun {own} => (hr (own := own)).2 _ (List.mem_of_getElem? ht)
    refine ⟨fun h => UnSt p ro n h, VIf_eq (fun h2 => ?_) (fun _ => gi ⟨L, u, m, rfl, hs, hI, hn⟩), ?_⟩
    · refine htr.idx (by omega) (by omega) fun x0 _ => htr.idx (by omega) (by omega) fun x1 _ => ?_
      refine univ_begin_c [] [] (by simp) hs hI.ok (fun L1 h1 => ⟨_, rfl, ?_⟩)
      rcases hI.begin x0 x1 with ⟨k, hk', e⟩ | ⟨_, _, _, _, _, _, e, i1⟩
      · rw [e] at h1; exact gi ⟨L1, u, m, by simp, h1, hI, hn⟩
      · rw [e] at h1; exact gi ⟨L1, _, m, by simp, h1, i1, by simpa using hn⟩
    clear hs hI hn
    rintro _ h ⟨L, u, m, rfl, hs, hI, hn⟩
    have fin : ∀ h, UnSt p ro n h → (In64 (i + 1) ∧ ∃ m16, m16 < (150 - i).toNat ∧ ∃ h45, Gh h h45 ∧ UnSt p ro n h45 ∧ 0 ≤ i + 1 ∧ i + 1 ≤ 150 ∧ m16 = (150 - (i + 1)).toNat) := fun h hU => ⟨⟨by omega, by omega⟩, _, by omega, gi ⟨hU, by omega, by omega, rfl⟩⟩
    refine VIf_eq (fun h1 => ?_) (fun _ => fin _ ⟨L, u, m, rfl, hs, hI, hn⟩)
    refine htr.idx (by omega) (by omega) fun x0 _ => ?_
    refine univ_step_c [] [] (by simp) hs hI.ok (fun L1 h1 => ⟨_, _, _, rfl, fin _ ?_⟩)
    rcases hI.step x0 with ⟨k, hk', _, e⟩ | ⟨_, _, h, hh, _, _, e, i⟩ | ⟨_, _, h, hh, _, hc, e, i⟩ | ⟨_, _, h, g, hh, hl, _, _, _, e, i⟩ | ⟨_, _, h, hh, hl, _, _, _, e, i⟩ <;> rw [e] at h1
    · exact ⟨L1, u, m, by simp, h1, hI, hn⟩
    all_goals exact ⟨L1, _, _, by simp, h1, i, by simpa using hn⟩
  rintro _ h ⟨L, u, m, rfl, hs, hI, hn⟩
  have hd40 := hI.d
  refine ⟨fun b h => h = ⟨L, ro⟩ ∧ (b = false → 0 ≤ q ∧ q ≤ (u.hands.length : Int) - 1 ∧ ∃ g, u.hands[q.toNat]? = some g ∧ g.ln ≠ 0), ⟨⟨by omega, by omega⟩, in_i (fun hc => ⟨_, rfl, VIf_nb (fun _ => gi ⟨rfl, (nomatch ·)⟩) (nomatch ·)⟩) (fun q0 q1 => ⟨_, rfl, VIf_nb (nomatch ·) (fun _ => ?_)⟩)⟩, ?_⟩
  · refine univ_at_c hs (fun _ h => h) hI.n ⟨_, rfl, gi ⟨rfl, fun hb => ⟨q0, by omega, ?_⟩⟩⟩
    have hq : q.toNat < u.hands.length := by omega
    rw [if_pos (by omega), List.getElem?_eq_getElem hq] at hb
    exact ⟨_, List.getElem?_eq_getElem hq, by simpa using hb⟩
  rintro _ b h ⟨rfl, hb⟩
  refine VIf_b (fun _ => ret (hpost _)) (fun hbf => ?_)
  obtain ⟨q0, q1, g, hg, hgl⟩ := hb hbf
  have hrem : urem u m g ≤ 80 := by
    obtain ⟨d0, d1, c0, c1, ln, s, l1, l2⟩ := hI.ha g (List.mem_of_getElem? hg) hgl
    unfold urem
    split
    · rename_i h1
      have := hI.lt d0 d1 (l1 h1)
      omega
    · split
      · omega
      · rename_i h1 h2
        have := hI.lt d0 d1 (fun i hi => by have := (l2 (by omega)).2 i hi; subst this; exact h2 hi)
        omega
  refine ⟨fun _ => False, ⟨fun k i h => (∃ L u m g, h = ⟨L, ro⟩ ∧ UnivAt p u L ∧ UInv u m ∧ (u.hands.length : Int) = n ∧ u.hands[q.toNat]? = some g ∧ g.ln ≠ 0 ∧ i + urem u m g ≤ 80) ∧ 0 ≤ i ∧ i ≤ 80 ∧ k = (80 - i).toNat, ⟨80, gi ⟨⟨L, u, m, g, rfl, hs, hI, hn, hg, hgl, by omega⟩, by omega, by omega, rfl⟩⟩, ?_⟩, fun _ _ h => h.elim⟩
  clear hrem hg hgl hb hs hI hd40
  rintro k _ i h ⟨⟨L, u, m, g, rfl, hs, hI, hn', hg, hgl, hrem⟩, hi0, hi1, rfl⟩
  obtain ⟨d0, d1, c0, c1, ln, s, l1, l2⟩ := hI.ha g (List.mem_of_getElem? hg) hgl
  refine VIf_dec (fun hi => ?_) (fun hi => ?_)
  · refine univ_step_c [] [] (by simp) hs hI.ok (fun L1 h1 => ⟨_, _, _, rfl, ?_⟩)
    have hql : q.toNat < u.hands.length := by omega
    rcases hI.step q with ⟨k, hk', hw, e⟩ | ⟨_, _, h, hh, hl, hc, e, iv⟩ | ⟨_, _, h, hh, hl, hc, e, iv⟩ | ⟨_, _, h, g', hh, hl, hc, hne, hg', e, iv⟩ | ⟨_, _, h, hh, hl, _, _, _, e, iv⟩ <;> rw [e] at h1 ⊢
    · rcases hw with hw | ⟨g', hg', hl'⟩
      · omega
      · rw [hg] at hg'; cases hg'; exact absurd hl' hgl
    · rw [hg] at hh; cases hh
      refine VIf_nnil (VIf_b (nomatch ·) (fun _ => ⟨⟨by omega, by omega⟩, _, ?_, gi ⟨⟨L1, _, _, _, by simp, h1, iv, by simpa using hn', List.getElem?_set_self hql, by simp, ?_⟩, by omega, by omega, rfl⟩⟩))
      · omega
      · have hcm : g.cell.toNat = m := by omega
        unfold urem at hrem ⊢
        rw [if_pos hl] at hrem
        have hcl := hI.c
        have hlt := hI.lt d0 d1 (l1 hl)
        have hdd := hI.d
        rw [if_neg (by simp), if_pos (by dsimp only; rw [hcm, List.getElem?_set_self (by omega)])]
        omega
    · rw [hg] at hh; cases hh
      refine VIf_nnil (VIf_b (nomatch ·) (fun _ => ⟨⟨by omega, by omega⟩, _, ?_, gi ⟨⟨L1, _, _, _, by simp, h1, iv, by simpa using hn', List.getElem?_set_self hql, by simp, ?_⟩, by omega, by omega, rfl⟩⟩))
      · omega
      · unfold urem at hrem ⊢
        rw [if_pos hl] at hrem
        rw [if_neg (by simp), if_neg (l1 hl _)]
        dsimp only
        omega
    · rw [hg] at hh; cases hh
      refine VIf_nnil (VIf_b (nomatch ·) (fun _ => ⟨⟨by omega, by omega⟩, _, ?_, gi ⟨⟨L1, _, _, _, by simp, h1, iv, by simpa using hn', List.getElem?_set_self hql, by omega, ?_⟩, by omega, by omega, rfl⟩⟩))
      · omega
      · unfold urem at hrem ⊢
        rw [if_neg (by omega), if_neg hne] at hrem
        rw [if_pos hg'.1]
        omega
    · refine VIf_nnil (VIf_b (fun _ => ?_) (nomatch ·))
      refine univ_at_c h1 (by intro e he; simp [he]) iv.n ⟨_, rfl, ret ?_⟩
      rw [if_pos (by simp; omega), List.getElem?_set_self hql]
      exact hpost _
  · exfalso
    unfold urem at hrem
    split at hrem
    · omega
    · split at hrem <;> omega
end Go.Proofs.Ytnecppjgcbhnaaa
