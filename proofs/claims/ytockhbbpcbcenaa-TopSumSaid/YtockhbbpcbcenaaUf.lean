import Derived.Test.YtockhbbpcbcenaaUl
import Derived.Test.YtockhbbpcbcenaaEngJ
namespace Go.Proofs.Ytockhbbpcbcenaa
open Go.Eng
set_option maxRecDepth 20000
/-! ### the laws of the row, walked -/
theorem univ_fact_c {own : List Ent} {ro : Addr → Option Value} {post : Value → H → Prop} (hk : post (.bool true) ⟨own, ro⟩) : SemCall Try.prog 24 (List.toArray []) ⟨own, ro⟩ post := by
  refine f24_call _ post ?_
  refine univ_new_c (fun hc => absurd ⟨by decide, by decide⟩ hc) (fun p L hs _ _ => ⟨_, none, rfl, VIf_nnil ?_⟩)
  have i0 := UInv.start (n := 1) (by decide)
  have e1 : univBegin ⟨List.replicate 41 0, [], List.replicate (1 : Int).toNat ⟨0, 0, 0, 0⟩⟩ 0 7 = (⟨List.replicate 41 0, [(0, 7)], [⟨1, 1, 0, 0⟩]⟩, 0) := rfl
  refine univ_begin_c own [] (by simp) hs i0.ok (fun L1 h1 => ?_)
  rcases i0.begin 0 7 with ⟨k, hk', e⟩ | ⟨_, _, _, _, _, _, e, i1⟩
  · exact absurd (congrArg Prod.snd (e.symm.trans e1)) hk'
  rw [e1] at h1 ⊢
  have i1 : UInv ⟨List.replicate 41 0, [(0, 7)], [⟨1, 1, 0, 0⟩]⟩ 0 := i1
  refine ⟨none, rfl, ?_⟩
  have e2 : univStep ⟨List.replicate 41 0, [(0, 7)], [⟨1, 1, 0, 0⟩]⟩ 0 = (⟨1 :: List.replicate 40 0, [(0, 7)], [⟨2, 1, 0, 0⟩]⟩, false, 0, 0) := rfl
  refine univ_step_c own [] (by simp) h1 i1.ok (fun L2 h2 => ?_)
  have i2 : ∃ m, UInv ⟨1 :: List.replicate 40 0, [(0, 7)], [⟨2, 1, 0, 0⟩]⟩ m := by
    rcases i1.step 0 with ⟨k, hk', _, e⟩ | ⟨_, _, h, hh, _, _, e, i⟩ | ⟨_, _, h, hh, _, hc, e, i⟩ | ⟨_, _, h, g, hh, hl, _⟩ | ⟨_, _, h, hh, hl, _⟩
    · exact absurd (congrArg (fun x => x.2.2.2) (e.symm.trans e2)) hk'
    · cases hh; exact ⟨_, i⟩
    · cases hh; simp at hc
    · cases hh; simp at hl
    · cases hh; simp at hl
  obtain ⟨m, i2⟩ := i2
  rw [e2] at h2 ⊢
  refine ⟨_, _, none, rfl, ?_⟩
  have e3 : univStep ⟨1 :: List.replicate 40 0, [(0, 7)], [⟨2, 1, 0, 0⟩]⟩ 0 = (⟨1 :: List.replicate 40 0, [(0, 7)], [⟨0, 0, 0, 0⟩]⟩, true, 0, 0) := rfl
  refine univ_step_c own [] (by simp) h2 i2.ok (fun L3 h3 => ?_)
  rw [e3] at h3 ⊢
  refine ⟨_, _, none, rfl, ?_⟩
  refine ⟨fun b h => b = true ∧ h = ⟨own, ro⟩, VIf_nil (VIf_nil (VIf_nil (VIf_nb (fun _ => VIf_b (fun _ => VIf_eq (fun _ => ?_) (fun h => absurd rfl h)) (nomatch ·)) (nomatch ·)))), ?_⟩
  · have hc : ∀ x ∈ (1 :: List.replicate 40 (0 : Int)), 0 ≤ x ∧ x ≤ 1000 := by decide
    refine univ_order_c h3 (by intro e he; simp [he]) hc (fun s e ho => ⟨s, rfl, ?_⟩)
    have eo : univOrder (1 :: List.replicate 40 0) = [0] := rfl
    dsimp only at ho
    rw [eo] at ho
    intro r _
    have g1 : RdSl ⟨own ++ (L3 ++ []) ++ [e] ++ [⟨some r, [.int .i64 0], [Value.int .i64 0].length⟩], ro⟩ s (ints [0]) := RdSl.of_own (e := e) (by simp) ho
    have g2 : RdSl ⟨own ++ (L3 ++ []) ++ [e] ++ [⟨some r, [.int .i64 0], [Value.int .i64 0].length⟩], ro⟩ ⟨some (Addr.mk r 0 none), 1, 1⟩ (ints [0]) := RdSl.row (n := 1) (vs := ints [0]) (e := ⟨some r, [.int .i64 0], 1⟩) (by simp) rfl rfl
    have hlen := ho.sl_len
    simp at hlen
    refine same_ints_c (s2 := ⟨some (Addr.mk r 0 none), 1, 1⟩) g1 g2 (by omega) ⟨_, rfl, ?_⟩
    exact ⟨⟨own, ro⟩, Gh.drop (by simp), by simp, rfl⟩
  · rintro _ b h ⟨rfl, rfl⟩; exact ret hk
end Go.Proofs.Ytockhbbpcbcenaa
