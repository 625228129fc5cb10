import Derived.Test.YtockhbbpcbcenaaDoorDa
namespace Go.Proofs.YtockhbbpcbcenaaDoor
open Go.Eng
set_option maxRecDepth 20000
/-! ### the document's comb begun -/
theorem CcR.bg {ro ro' : Addr → Option Value} {n : Nat} {c : CS} {Nw Su As At Ad Nu At' Ad' Nu' : SV} (h : CcR ro n c Nw Su As At Ad Nu) (m : ∀ a v, ro a = some v → ro' a = some v) {k : Nat} {add : Int} {f g : Nat → Int}
    (h1 : RdSl ⟨[], ro'⟩ At' (ints (rm n (updN c.hL k 1)))) (h2 : RdSl ⟨[], ro'⟩ Ad' (ints (rm n (updN f k add)))) (h3 : RdSl ⟨[], ro'⟩ Nu' (ints (rm n (updN g k (c.D c.W k + 1))))) (hf : ∀ p, p < n → c.hL p ≠ 0 → f p = c.hA p) (hg : ∀ p, p < n → c.hL p ≠ 0 → g p = c.hN p) : CcR ro' n (cBg c k add) Nw Su As At' Ad' Nu' := by
  have h' := h.up m
  refine ⟨h'.nw, h'.su, h'.ak, h1, ⟨_, h2, fun p hp hl => ?_⟩, ⟨_, h3, fun p hp hl => ?_⟩⟩
  · show updN f k add p = upd1 c.hA k add p
    by_cases e : p = k
    · subst e; rw [updN_same, upd1_same]
    · rw [updN_ne e, upd1_ne e]
      have hl : upd1 c.hL k 1 p ≠ 0 := hl
      rw [upd1_ne e] at hl
      exact hf p hp hl
  · show updN g k _ p = upd1 c.hN k _ p
    by_cases e : p = k
    · subst e; rw [updN_same, upd1_same]
    · rw [updN_ne e, upd1_ne e]
      have hl : upd1 c.hL k 1 p ≠ 0 := hl
      rw [upd1_ne e] at hl
      exact hg p hp hl
set_option maxHeartbeats 1000000 in
theorem ref4_begin_c {n : Nat} {c : CS} {i q add : Int} {Nw Su As At Ad Nu : SV} {own : List Ent} {ro : Addr → Option Value} {post : Value → H → Prop} (hr : CcR ro n c Nw Su As At Ad Nu) (hc : CI c i) (hi : i ≤ 1000) (hn : c.n = n)
    (h1 : ¬ (0 ≤ q ∧ q ≤ (n : Int) - 1) ∨ ¬ (0 ≤ add ∧ add ≤ 1000) → post (ccP 1 n Nw Su c.W c.K As At Ad Nu) ⟨own, ro⟩)
    (h7 : ∀ k : Nat, q = k → k < n → 0 ≤ add ∧ add ≤ 1000 → c.hL k ≠ 0 → post (ccP 7 n Nw Su c.W c.K As At Ad Nu) ⟨own, ro⟩)
    (h0 : ∀ k : Nat, q = k → k < n → 0 ≤ add ∧ add ≤ 1000 → c.hL k = 0 → ∀ At' Ad' Nu' ro', (∀ a v, ro a = some v → ro' a = some v) → CcR ro' n (cBg c k add) Nw Su As At' Ad' Nu' → post (ccP 0 n Nw Su c.W c.K As At' Ad' Nu') ⟨own, ro'⟩) :
    SemCall Tryd.prog 7 (List.toArray [.agg (List.toArray (ccC n Nw Su c.W c.K As At Ad Nu)), .int .i64 q, .int .i64 add]) ⟨own, ro⟩ post := by
  have n4 := hc.n4
  have hW := hc.w
  refine f7_call _ _ _ _ _ _ _ _ _ _ _ _ post ?_
  refine new2 (n1 := 9) (n2 := 9) rfl rfl (fun r1 r3 => ?_)
  have m1 : ∀ {x0 : Int} {x1 x2 : SV} {x3 x4 : Int} {x5 x6 x7 x8 : SV} {Z : List Ent}, ccE r1 x0 x1 x2 x3 x4 x5 x6 x7 x8 ∈ own ++ ccE r1 x0 x1 x2 x3 x4 x5 x6 x7 x8 :: Z := by simp
  have fin : ∀ {ro : Addr → Option Value} {e : Int} {a1 a2 : SV} {a3 a4 : Int} {a5 a6 a7 a8 : SV}, post (ccP e n a1 a2 a3 a4 a5 a6 a7 a8) ⟨own, ro⟩ → _ := fun {ro e a1 a2 a3 a4 a5 a6 a7 a8} h =>
    cc_fin (own := own) (Y := []) (ro := ro) (r1 := r1) (r3 := r3) (a0 := n) (a1 := a1) (a2 := a2) (a3 := a3) (a4 := a4) (a5 := a5) (a6 := a6) (a7 := a7) (a8 := a8) (z0 := 0) (z1 := ⟨none, 0, 0⟩) (z2 := ⟨none, 0, 0⟩) (z3 := 0) (z4 := 0) (z5 := ⟨none, 0, 0⟩) (z6 := ⟨none, 0, 0⟩) (z7 := ⟨none, 0, 0⟩) (z8 := ⟨none, 0, 0⟩) (Q := ccP e) (post := post) h
  refine join_b (h := ⟨own ++ [ccE r1 n Nw Su c.W c.K As At Ad Nu, ccE r3 0 ⟨none, 0, 0⟩ ⟨none, 0, 0⟩ 0 0 ⟨none, 0, 0⟩ ⟨none, 0, 0⟩ ⟨none, 0, 0⟩ ⟨none, 0, 0⟩], ro⟩) (decide (¬ (0 ≤ q ∧ q ≤ (n : Int) - 1) ∨ ¬ (0 ≤ add ∧ add ≤ 1000))) ?_ ?_
  · refine rI0 (ccE r1 n Nw Su c.W c.K As At Ad Nu) m1 rfl rfl ⟨⟨by omega, by omega⟩, ref4_in_c ⟨_, rfl, VIf_not (fun hx => gi ⟨rfl, (decide_eq_true (.inl hx)).symm⟩) (fun hx => ref4_in_c ⟨_, rfl, gi ⟨rfl, ?_⟩⟩)⟩⟩
    by_cases ha : 0 ≤ add ∧ add ≤ 1000
    · rw [decide_eq_true ha, decide_eq_false (by omega)]; rfl
    · rw [decide_eq_false ha, decide_eq_true (.inr ha)]; rfl
  refine VIf_dec (fun hx => fin (h1 hx)) (fun hx => ?_)
  obtain ⟨k, rfl⟩ : ∃ k : Nat, q = (k : Int) := ⟨q.toNat, by omega⟩
  have hk : k < n := by omega
  have ha : 0 ≤ add ∧ add ≤ 1000 := by omega
  refine rS0 (ccE r1 n Nw Su c.W c.K As At Ad Nu) m1 rfl rfl (rm_ati hr.ln hk rfl (VIf_ne (fun hz => fin (h7 k rfl hk ha hz)) (fun hz => ?_)))
  obtain ⟨f, f1, f2⟩ := hr.ad
  obtain ⟨g, g1, g2⟩ := hr.nu
  refine rS0 (ccE r1 n Nw Su c.W c.K As At Ad Nu) m1 rfl rfl (ref4_upd_c hr.ln (by omega) hk rfl (fun At' ro1 q1 ha' => ⟨At', rfl, cc_w n Nw Su c.W c.K As At' Ad Nu rfl (by decide) rfl ?_⟩))
  refine rS0 (ccE r1 n Nw Su c.W c.K As At' Ad Nu) m1 rfl rfl (ref4_upd_c (f1.mono (by simp) q1) (by omega) hk rfl (fun Ad' ro2 q2 hd' => ⟨Ad', rfl, cc_w n Nw Su c.W c.K As At' Ad' Nu rfl (by decide) rfl ?_⟩))
  have q12 : ∀ a v, ro a = some v → ro2 a = some v := fun a v h => q2 a v (q1 a v h)
  refine rS0 (ccE r1 n Nw Su c.W c.K As At' Ad' Nu) m1 rfl rfl (rS0 (ccE r1 n Nw Su c.W c.K As At' Ad' Nu) m1 rfl rfl (rI0 (ccE r1 n Nw Su c.W c.K As At' Ad' Nu) m1 rfl rfl ?_))
  refine two_at (hr.nw.up q12) hW rfl (fun x hx => ⟨⟨by omega, by omega⟩, ⟨by omega, by omega⟩, rm_ati hx (k := 1 + 2 * k) (by omega) (by omega) ?_⟩)
  rw [cF_d]
  have bD := hc.bD c.W k hW (by omega)
  refine ⟨⟨by omega, by omega⟩, ref4_upd_c (g1.mono (by simp) q12) (by omega) hk rfl (fun Nu' ro3 q3 hn' => ⟨Nu', rfl, cc_w n Nw Su c.W c.K As At' Ad' Nu' rfl (by decide) rfl ?_⟩)⟩
  have q13 : ∀ a v, ro a = some v → ro3 a = some v := fun a v h => q3 a v (q12 a v h)
  exact fin (h0 k rfl hk ha hz At' Ad' Nu' ro3 q13 (hr.bg q13 (ha'.mono (by simp) (fun a v h => q3 a v (q2 a v h))) (hd'.mono (by simp) q3) hn' f2 g2))
end Go.Proofs.YtockhbbpcbcenaaDoor
