import Derived.Test.YtogbkgimpkaemaaDoorFs
namespace Go.Proofs.YtogbkgimpkaemaaDoor
open Go.Eng
set_option maxRecDepth 20000
/-! ### the document's queue begun -/
theorem rm_more {M : Nat} {f : Nat → Int} {v : Int} : rm (M + 1) (updN f M v) = rm M f ++ [v] := by
  rw [rm_succ, updN_same]
  congr 1
  refine List.map_congr_left fun k hk => ?_
  have := List.mem_range.1 hk
  exact updN_ne (by omega)
def ffP (e : Int) (y0 y1 : Int) (y2 y3 y4 y5 y6 y7 y8 : SV) : Value := .tuple (List.toArray [.agg (List.toArray (ffC y0 y1 y2 y3 y4 y5 y6 y7 y8)), .int .i64 e])
set_option maxHeartbeats 2000000 in
theorem ref_fbegin_c {n M : Nat} {q value hd tl : Int} {V N A Mi T Hs X : SV} {v w a mi t h x : Nat → Int} {own : List Ent} {ro : Addr → Option Value} {post : Value → H → Prop} (hr : FfR ro n M V N A Mi T Hs X v w a mi t h x) (hn : n ≤ 4) (hM : M ≤ 40)
    (h1 : ¬ (0 ≤ q ∧ q ≤ (n : Int) - 1) → post (ffP 1 hd tl V N A Mi T Hs X) ⟨own, ro⟩)
    (h7 : ∀ k : Nat, q = k → k < n → a k ≠ 0 → post (ffP 7 hd tl V N A Mi T Hs X) ⟨own, ro⟩)
    (h6 : ∀ k : Nat, q = k → k < n → a k = 0 → value < 0 → ∀ A' ro', (∀ a v, ro a = some v → ro' a = some v) → FfR ro' n M V N A' Mi T Hs X v w (updN a k 6) mi t h x → post (ffP 0 hd tl V N A' Mi T Hs X) ⟨own, ro'⟩)
    (h4 : ∀ k : Nat, q = k → k < n → a k = 0 → 0 ≤ value → M = 40 → post (ffP 4 hd tl V N A Mi T Hs X) ⟨own, ro⟩)
    (h0 : ∀ k : Nat, q = k → k < n → a k = 0 → 0 ≤ value → M < 40 → ∀ V' N' A' Mi' ro', (∀ a v, ro a = some v → ro' a = some v) → FfR ro' n (M + 1) V' N' A' Mi' T Hs X (updN v M value) (updN w M (-1)) (updN a k 1) (updN mi k M) t h x → post (ffP 0 hd tl V' N' A' Mi' T Hs X) ⟨own, ro'⟩) :
    SemCall Tryd.prog 18 (List.toArray [.agg (List.toArray (ffC hd tl V N A Mi T Hs X)), .int .i64 q, .int .i64 value]) ⟨own, ro⟩ post := by
  have hr0 := hr
  obtain ⟨hV, hN, hA, hMi, hT, hH, hX⟩ := hr
  have la := hA.len
  have lv := hV.len
  have lw := hN.len
  rw [ints_length, rm_len] at la lv lw
  refine f18_call _ _ _ _ _ _ _ _ _ _ _ _ post ?_
  refine new2 (n1 := 9) (n2 := 9) rfl rfl (fun r1 r3 => ?_)
  have m1 : ∀ {x0 x1 : Int} {x2 x3 x4 x5 x6 x7 x8 : SV} {Z : List Ent}, ffE r1 x0 x1 x2 x3 x4 x5 x6 x7 x8 ∈ own ++ ffE r1 x0 x1 x2 x3 x4 x5 x6 x7 x8 :: Z := by simp
  refine rS0 (ffE r1 hd tl V N A Mi T Hs X) m1 rfl rfl ⟨⟨by omega, by omega⟩, ref3_in_c ⟨_, rfl, VIf_not (fun hc => ?_) (fun hc => ?_)⟩⟩
  · exact ff_fin (Y := []) (z0 := 0) (z1 := 0) (z2 := ⟨none, 0, 0⟩) (z3 := ⟨none, 0, 0⟩) (z4 := ⟨none, 0, 0⟩) (z5 := ⟨none, 0, 0⟩) (z6 := ⟨none, 0, 0⟩) (z7 := ⟨none, 0, 0⟩) (z8 := ⟨none, 0, 0⟩) (Q := ffP _) (h1 (fun h => hc ⟨h.1, by omega⟩))
  obtain ⟨k, rfl⟩ : ∃ k : Nat, q = (k : Int) := ⟨q.toNat, by omega⟩
  have hkn : k < n := by omega
  refine rS0 (ffE r1 hd tl V N A Mi T Hs X) m1 rfl rfl (rm_at hA hkn (VIf_ne (fun hc => ?_) (fun hc => VIf_dec (fun hneg => ?_) (fun hpos => ?_))))
  · exact ff_fin (Y := []) (z0 := 0) (z1 := 0) (z2 := ⟨none, 0, 0⟩) (z3 := ⟨none, 0, 0⟩) (z4 := ⟨none, 0, 0⟩) (z5 := ⟨none, 0, 0⟩) (z6 := ⟨none, 0, 0⟩) (z7 := ⟨none, 0, 0⟩) (z8 := ⟨none, 0, 0⟩) (Q := ffP _) (h7 k rfl hkn hc)
  · refine rS0 (ffE r1 hd tl V N A Mi T Hs X) m1 rfl rfl (ref3_upd_c hA (by omega) hkn (fun A' ro2 q2 ha' => ⟨A', rfl, ff_w hd tl V N A' Mi T Hs X rfl (by decide) rfl ?_⟩))
    have r2 := hr0.up q2
    exact ff_fin (Y := []) (z0 := 0) (z1 := 0) (z2 := ⟨none, 0, 0⟩) (z3 := ⟨none, 0, 0⟩) (z4 := ⟨none, 0, 0⟩) (z5 := ⟨none, 0, 0⟩) (z6 := ⟨none, 0, 0⟩) (z7 := ⟨none, 0, 0⟩) (z8 := ⟨none, 0, 0⟩) (Q := ffP _) (h6 k rfl hkn hc hneg A' ro2 q2 { r2 with a := ha' })
  refine rS0 (ffE r1 hd tl V N A Mi T Hs X) m1 rfl rfl (VIf_dec (fun h40 => ?_) (fun h40 => ?_))
  · exact ff_fin (Y := []) (z0 := 0) (z1 := 0) (z2 := ⟨none, 0, 0⟩) (z3 := ⟨none, 0, 0⟩) (z4 := ⟨none, 0, 0⟩) (z5 := ⟨none, 0, 0⟩) (z6 := ⟨none, 0, 0⟩) (z7 := ⟨none, 0, 0⟩) (z8 := ⟨none, 0, 0⟩) (Q := ffP _) (h4 k rfl hkn hc (by omega) (by omega))
  refine rS0 (ffE r1 hd tl V N A Mi T Hs X) m1 rfl rfl (rS0 (ffE r1 hd tl V N A Mi T Hs X) m1 rfl rfl ?_)
  rw [show ((V.len : Nat) : Int) = (M : Int) by omega]
  refine ref3_upd_c hMi (by omega) hkn (fun Mi' ro1 q1 hm' => ⟨Mi', rfl, ff_w hd tl V N A Mi' T Hs X rfl (by decide) rfl ?_⟩)
  refine rS0 (ffE r1 hd tl V N A Mi' T Hs X) m1 rfl rfl (ref3_more_c (xs := rm M v) (hV.mono (by simp) q1) (by omega) (fun V' ro2 q2 hv' _ => ⟨V', rfl, ff_w hd tl V' N A Mi' T Hs X rfl (by decide) rfl ?_⟩))
  have q12 : ∀ a v, ro a = some v → ro2 a = some v := fun a v h => q2 a v (q1 a v h)
  refine rS0 (ffE r1 hd tl V' N A Mi' T Hs X) m1 rfl rfl (ref3_more_c (xs := rm M w) (hN.mono (by simp) q12) (by omega) (fun N' ro3 q3 hn' _ => ⟨N', rfl, ff_w hd tl V' N' A Mi' T Hs X rfl (by decide) rfl ?_⟩))
  have q13 : ∀ a v, ro a = some v → ro3 a = some v := fun a v h => q3 a v (q12 a v h)
  refine rS0 (ffE r1 hd tl V' N' A Mi' T Hs X) m1 rfl rfl (ref3_upd_c (hA.mono (by simp) q13) (by omega) hkn (fun A' ro4 q4 ha' => ⟨A', rfl, ff_w hd tl V' N' A' Mi' T Hs X rfl (by decide) rfl ?_⟩))
  have q14 : ∀ a v, ro a = some v → ro4 a = some v := fun a v h => q4 a v (q13 a v h)
  have r4 := hr0.up q14
  refine ff_fin (Y := []) (z0 := 0) (z1 := 0) (z2 := ⟨none, 0, 0⟩) (z3 := ⟨none, 0, 0⟩) (z4 := ⟨none, 0, 0⟩) (z5 := ⟨none, 0, 0⟩) (z6 := ⟨none, 0, 0⟩) (z7 := ⟨none, 0, 0⟩) (z8 := ⟨none, 0, 0⟩) (Q := ffP _) (h0 k rfl hkn hc (by omega) (by omega) V' N' A' Mi' ro4 q14 ⟨?_, ?_, ha', ?_, r4.t, r4.h, r4.x⟩)
  · rw [rm_more]; exact hv'.mono (by simp) (fun a v h => q4 a v (q3 a v h))
  · rw [rm_more]; exact hn'.mono (by simp) q4
  · exact hm'.mono (by simp) (fun a v h => q4 a v (q3 a v (q2 a v h)))
/-! ### a new one -/
theorem mkn {own l : List Ent} {ro : Addr → Option Value} {N : Int} {K : Nat → H → Prop} (hw : Wf ⟨own ++ l, ro⟩) (h : ∀ r, Wf ⟨own ++ (l ++ [⟨some r, ints (List.replicate N.toNat 0), N.toNat⟩]), ro⟩ → K r ⟨own ++ (l ++ [⟨some r, ints (List.replicate N.toNat 0), N.toNat⟩]), ro⟩) :
    H.new ⟨own ++ l, ro⟩ (repl N.toNat [Value.int .i64 0]) K := by
  intro r f
  have e : (⟨some r, repl N.toNat [Value.int .i64 0], (repl N.toNat [Value.int .i64 0]).length⟩ : Ent) = ⟨some r, ints (List.replicate N.toNat 0), N.toNat⟩ := by rw [repl_ints, ints_length, List.length_replicate]
  show K r ⟨own ++ l ++ [⟨some r, repl N.toNat [Value.int .i64 0], (repl N.toNat [Value.int .i64 0]).length⟩], ro⟩
  rw [e, List.append_assoc]
  refine h r ?_
  rw [← List.append_assoc]
  exact hw.add f rfl
theorem rm_rep (n : Nat) : rm n (fun _ => (0 : Int)) = List.replicate n 0 := by
  refine List.ext_getElem? fun k => ?_
  by_cases hk : k < n
  · rw [rm_get _ hk, List.getElem?_replicate, if_pos hk]
  · rw [List.getElem?_eq_none (by rw [rm_len]; omega), List.getElem?_eq_none (by simp; omega)]
set_option maxHeartbeats 2000000 in
theorem ref_fnew_c {n : Nat} {own : List Ent} {ro : Addr → Option Value} {post : Value → H → Prop} (hn : n ≤ 4) (hk : ∀ V N A Mi T Hs X ro', (∀ a v, ro a = some v → ro' a = some v) → FfR ro' n 1 V N A Mi T Hs X (fun _ => 0) (fun _ => -1) (fun _ => 0) (fun _ => 0) (fun _ => 0) (fun _ => 0) (fun _ => 0) → post (.agg (List.toArray (ffC 0 0 V N A Mi T Hs X))) ⟨own, ro'⟩) :
    SemCall Tryd.prog 16 (List.toArray [.int .i64 (n : Int)]) ⟨own, ro⟩ post := by
  refine SemCall.wf (fun hw => ?_)
  refine f16_call _ _ post ?_
  intro r1 f1
  have hw1 : Wf ⟨own ++ [ffE r1 0 0 ⟨none, 0, 0⟩ ⟨none, 0, 0⟩ ⟨none, 0, 0⟩ ⟨none, 0, 0⟩ ⟨none, 0, 0⟩ ⟨none, 0, 0⟩ ⟨none, 0, 0⟩], ro⟩ := hw.add f1 rfl
  intro r2 f2
  have hw2 := hw1.add (e := ⟨some r2, [.int .i64 0], 1⟩) f2 rfl
  intro r3 f3
  have hw3 := hw2.add (e := ⟨some r3, [.int .i64 (-1)], 1⟩) f3 rfl
  have e3 : own ++ [ffE r1 0 0 ⟨none, 0, 0⟩ ⟨none, 0, 0⟩ ⟨none, 0, 0⟩ ⟨none, 0, 0⟩ ⟨none, 0, 0⟩ ⟨none, 0, 0⟩ ⟨none, 0, 0⟩] ++ [⟨some r2, [.int .i64 0], 1⟩] ++ [⟨some r3, [.int .i64 (-1)], 1⟩] = own ++ [ffE r1 0 0 ⟨none, 0, 0⟩ ⟨none, 0, 0⟩ ⟨none, 0, 0⟩ ⟨none, 0, 0⟩ ⟨none, 0, 0⟩ ⟨none, 0, 0⟩ ⟨none, 0, 0⟩, ⟨some r2, [.int .i64 0], 1⟩, ⟨some r3, [.int .i64 (-1)], 1⟩] := by simp
  rw [e3] at hw3
  have cn : 0 ≤ (n : Int) ∧ (n : Int) ≤ (n : Int) ∧ ((8 : Nat) : Int) * (n : Int) ≤ 140737488355328 ∧ (n : Int) ≤ 1000000000 := ⟨by omega, Int.le_refl _, by omega, by omega⟩
  show 0 ≤ (n : Int) ∧ _
  refine ⟨cn.1, cn.2.1, cn.2.2.1, cn.2.2.2, ?_⟩
  have go : ∀ {K : Nat → H → Prop}, H.new ⟨own ++ [ffE r1 0 0 ⟨none, 0, 0⟩ ⟨none, 0, 0⟩ ⟨none, 0, 0⟩ ⟨none, 0, 0⟩ ⟨none, 0, 0⟩ ⟨none, 0, 0⟩ ⟨none, 0, 0⟩, ⟨some r2, [.int .i64 0], 1⟩, ⟨some r3, [.int .i64 (-1)], 1⟩], ro⟩ (repl (n : Int).toNat [Value.int .i64 0]) K → H.new ⟨own ++ [ffE r1 0 0 ⟨none, 0, 0⟩ ⟨none, 0, 0⟩ ⟨none, 0, 0⟩ ⟨none, 0, 0⟩ ⟨none, 0, 0⟩ ⟨none, 0, 0⟩ ⟨none, 0, 0⟩] ++ [⟨some r2, [.int .i64 0], 1⟩] ++ [⟨some r3, [.int .i64 (-1)], 1⟩], ro⟩ (repl (n : Int).toNat [Value.int .i64 0]) K := fun {K} h => by rw [e3]; exact h
  refine go (mkn (own := own) hw3 (fun ra hwa => ⟨cn.1, cn.2.1, cn.2.2.1, cn.2.2.2, mkn (own := own) hwa (fun rb hwb => ⟨cn.1, cn.2.1, cn.2.2.1, cn.2.2.2, mkn (own := own) hwb (fun rc hwc => ⟨cn.1, cn.2.1, cn.2.2.1, cn.2.2.2, mkn (own := own) hwc (fun rd hwd => ⟨cn.1, cn.2.1, cn.2.2.1, cn.2.2.2, mkn (own := own) hwd (fun re hwe => ?_)⟩)⟩)⟩)⟩))
  simp only [List.cons_append, List.nil_append] at hwe ⊢
  simp only [Int.toNat_natCast] at hwe ⊢
  refine ff_put (a0 := 0) (a1 := 0) (a2 := ⟨some (Addr.mk r2 0 none), 1, 1⟩) (a3 := ⟨some (Addr.mk r3 0 none), 1, 1⟩) (a4 := ⟨some (Addr.mk ra 0 none), n, n⟩) (a5 := ⟨some (Addr.mk rb 0 none), n, n⟩) (a6 := ⟨some (Addr.mk rc 0 none), n, n⟩) (a7 := ⟨some (Addr.mk rd 0 none), n, n⟩) (a8 := ⟨some (Addr.mk re 0 none), n, n⟩) (z0 := 0) (z1 := 0) (z2 := ⟨none, 0, 0⟩) (z3 := ⟨none, 0, 0⟩) (z4 := ⟨none, 0, 0⟩) (z5 := ⟨none, 0, 0⟩) (z6 := ⟨none, 0, 0⟩) (z7 := ⟨none, 0, 0⟩) (z8 := ⟨none, 0, 0⟩) own _ rfl ?_
  refine ff_get (a0 := 0) (a1 := 0) (a2 := ⟨some (Addr.mk r2 0 none), 1, 1⟩) (a3 := ⟨some (Addr.mk r3 0 none), 1, 1⟩) (a4 := ⟨some (Addr.mk ra 0 none), n, n⟩) (a5 := ⟨some (Addr.mk rb 0 none), n, n⟩) (a6 := ⟨some (Addr.mk rc 0 none), n, n⟩) (a7 := ⟨some (Addr.mk rd 0 none), n, n⟩) (a8 := ⟨some (Addr.mk re 0 none), n, n⟩) (by simp) ?_
  obtain ⟨ro', g, m, r⟩ := frzE (own := own) _ ro (hwe.sub (List.Sublist.append_left (List.sublist_cons_self _ _) _))
  have z : ∀ {x N : Nat} {xs : List Int}, xs.length = N → N ≤ 8 → (⟨some x, ints xs, N⟩ : Ent) ∈ ([⟨some r2, [.int .i64 0], 1⟩, ⟨some r3, [.int .i64 (-1)], 1⟩, ⟨some ra, ints (List.replicate n 0), n⟩, ⟨some rb, ints (List.replicate n 0), n⟩, ⟨some rc, ints (List.replicate n 0), n⟩, ⟨some rd, ints (List.replicate n 0), n⟩, ⟨some re, ints (List.replicate n 0), n⟩] : List Ent) → RdSl ⟨[], ro'⟩ ⟨some (Addr.mk x 0 none), N, N⟩ (ints xs) := by
    intro x N xs hl hN hm
    exact r _ hm _ _ (OwnsSl.at0 1 (by simp [hl]) (by omega) (by simp only [maxLen]; omega))
  refine ⟨⟨own, ro'⟩, (Gh.drop (List.Sublist.append_left (List.sublist_cons_self _ _) _)).trans g, hk _ _ _ _ _ _ _ ro' m ⟨z (xs := [0]) rfl (by omega) (.head _), z (xs := [-1]) rfl (by omega) (.tail _ (.head _)), ?_, ?_, ?_, ?_, ?_⟩⟩
  all_goals rw [rm_rep]; exact z (by simp) (by omega) (by simp)
end Go.Proofs.YtogbkgimpkaemaaDoor
