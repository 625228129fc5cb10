import Derived.Test.YtockhbbpcbcenaaDoorDc
namespace Go.Proofs.YtockhbbpcbcenaaDoor
open Go.Eng
set_option maxRecDepth 20000
theorem app_newW {t e : TypeId} (g : Grows Tryd.prog t e 1) {s : SV} {vs : List Value} {own : List Ent} {ro : Addr → Option Value} {K : SV → H → Prop} (hr : RdSl ⟨own, ro⟩ s vs) (h1 : allOne vs) (hw : Wf ⟨own, ro⟩) (hb : s.len ≤ 1000000000)
    (hk : ∀ (s' : SV) (e' : Ent), OwnsSl 1 s' e' vs → s'.len = s.len → Wf ⟨own ++ [e'], ro⟩ → K s' ⟨own ++ [e'], ro⟩) :
    appVC Tryd.prog t (.slice none 0 0) (.slice s.a s.len s.cap) ⟨own, ro⟩ K := by
  refine appVC_of (s := ⟨none, 0, 0⟩) (s2 := s) g (ys := vs) (by have := hr.len; omega) hr.rows.rdS h1 hr.2.1 (A := own) (C := []) (en := ⟨none, [], 0⟩) (xs := []) (by simpa using Gh.phantom own [] ro 0) (OwnsSl.nil 1) (by simp only; omega) (fun s' e' o l _ _ hf => hk s' e' (by simpa using o) (by simpa using l) ?_)
  have hw2 : Wf ⟨own ++ ⟨none, [], 0⟩ :: [], ro⟩ := Wf.ph (by simpa using hw)
  exact hw2.swap hf
/-! ### the document's comb steps -/
def ccS (d : Bool) (g e : Int) (y0 : Int) (y1 y2 : SV) (y3 y4 : Int) (y5 y6 y7 y8 : SV) : Value := .tuple (List.toArray [.agg (List.toArray (ccC y0 y1 y2 y3 y4 y5 y6 y7 y8)), .bool d, .int .i64 g, .int .i64 e])
theorem ask_at {ro : Addr → Option Value} {own : List Ent} {n : Nat} {c : CS} {As : SV} (h : ∃ rc, RdRowsOf ⟨[], ro⟩ As rc ∧ rc.map Prod.snd = askL n c) {q : Nat} (hq : q < n) {K : SV → Prop} (hK : ∀ x, RdSl ⟨[], ro⟩ x (ints [c.aA q, c.aN q]) → K x) :
    ∃ b : Addr, As.a = some b ∧ 0 ≤ (q : Int) ∧ (q : Int) < ((As.len : Nat) : Int) ∧ ∃ x : SV, H.rd ⟨own, ro⟩ (Addr.add (Addr.add b ((q : Int).toNat * 1)) 0) (Value.slice x.a x.len x.cap) ∧ K x := by
  obtain ⟨rc, h1, h2⟩ := h
  have hl : As.len = n := by
    have := h1.1.len
    rw [List.length_map] at this
    have e := congrArg List.length h2
    rw [List.length_map] at e
    rw [this, e]; simp [askL]
  refine (h1.mono (h2 := ⟨own, ro⟩) (by simp) (fun _ _ h => h)).idx (by omega) (by omega) fun t xs hx _ => hK t ?_
  rw [Int.toNat_natCast] at hx
  have e : (rc.map Prod.snd)[q]? = some xs := by rw [List.getElem?_map, hx]; rfl
  rw [h2, askL, List.getElem?_map, List.getElem?_range hq] at e
  have ex : xs = [c.aA q, c.aN q] := (Option.some.inj e).symm
  rw [← ex]
  exact h1.2 _ (List.mem_of_getElem? hx)
theorem askL_set (n : Nat) (c : CS) (k : Nat) (x y : Int) : (askL n c).set k [x, y] = askL n { c with aA := upd1 c.aA k x, aN := upd1 c.aN k y } := by
  have h := rm_set n k (fun p => [c.aA p, c.aN p]) [x, y]
  show (rm n fun p => [c.aA p, c.aN p]).set k [x, y] = rm n fun p => [upd1 c.aA k x p, upd1 c.aN k y p]
  rw [h]
  refine List.map_congr_left fun p _ => ?_
  by_cases e : p = k
  · subst e; rw [updN_same, upd1_same, upd1_same]
  · rw [updN_ne e, upd1_ne e, upd1_ne e]
theorem CcR.lnn {ro ro' : Addr → Option Value} {n : Nat} {c : CS} {Nw Su As At Ad Nu At' : SV} (h : CcR ro n c Nw Su As At Ad Nu) (m : ∀ a v, ro a = some v → ro' a = some v) {k : Nat} {v : Int} (h0 : c.hL k ≠ 0) (h1 : RdSl ⟨[], ro'⟩ At' (ints (rm n (updN c.hL k v)))) : CcR ro' n (cLn c k v) Nw Su As At' Ad Nu := by
  have h' := h.up m
  obtain ⟨f, f1, f2⟩ := h'.ad
  obtain ⟨g, g1, g2⟩ := h'.nu
  have key : ∀ p, upd1 c.hL k v p ≠ 0 → c.hL p ≠ 0 := fun p hl => by
    by_cases e : p = k
    · subst e; exact h0
    · rwa [upd1_ne e] at hl
  exact ⟨h'.nw, h'.su, h'.ak, h1, ⟨f, f1, fun p hp hl => f2 p hp (key p hl)⟩, ⟨g, g1, fun p hp hl => g2 p hp (key p hl)⟩⟩
theorem CcR.dn {ro ro' : Addr → Option Value} {n : Nat} {c : CS} {Nw Su As At Ad Nu At' : SV} (h : CcR ro n c Nw Su As At Ad Nu) (m : ∀ a v, ro a = some v → ro' a = some v) {k : Nat} (h1 : RdSl ⟨[], ro'⟩ At' (ints (rm n (updN c.hL k 0)))) : CcR ro' n { c with hL := upd1 c.hL k 0, hA := upd1 c.hA k 0, hN := upd1 c.hN k 0 } Nw Su As At' Ad Nu := by
  have h' := h.up m
  obtain ⟨f, f1, f2⟩ := h'.ad
  obtain ⟨g, g1, g2⟩ := h'.nu
  refine ⟨h'.nw, h'.su, h'.ak, h1, ⟨f, f1, fun p hp hl => ?_⟩, ⟨g, g1, fun p hp hl => ?_⟩⟩
  · have hl : upd1 c.hL k 0 p ≠ 0 := hl
    show f p = upd1 c.hA k 0 p
    by_cases e : p = k
    · subst e; exact absurd (upd1_same _ _ _) hl
    · rw [upd1_ne e] at hl ⊢; exact f2 p hp hl
  · have hl : upd1 c.hL k 0 p ≠ 0 := hl
    show g p = upd1 c.hN k 0 p
    by_cases e : p = k
    · subst e; exact absurd (upd1_same _ _ _) hl
    · rw [upd1_ne e] at hl ⊢; exact g2 p hp hl
/-- what is summed up to a hand -/
def sD (c : CS) (k : Nat) : Nat → Int := fun p => if p < k ∧ c.aN p = c.D c.W p + 1 then c.D c.W p + 1 else c.D c.W p
def sG (c : CS) (k : Nat) : Nat → Int := fun p => if p < k ∧ c.aN p = c.D c.W p + 1 then c.S c.W + dsum (c.D c.W) c.aN c.aA p else c.G c.W p
def sF (c : CS) (k : Nat) : Nat → Int := cF (c.S c.W + dsum (c.D c.W) c.aN c.aA k) (sD c k) (sG c k)
theorem sF_yes {c : CS} {k : Nat} (h : c.aN k = c.D c.W k + 1) : updN (updN (updN (sF c k) (2 + 2 * k) (c.S c.W + dsum (c.D c.W) c.aN c.aA k)) (1 + 2 * k) (c.D c.W k + 1)) 0 (c.S c.W + dsum (c.D c.W) c.aN c.aA k + c.aA k) = sF c (k + 1) := by
  unfold sF
  rw [cF_set]
  have e1 : c.S c.W + dsum (c.D c.W) c.aN c.aA k + c.aA k = c.S c.W + dsum (c.D c.W) c.aN c.aA (k + 1) := by simp only [dsum]; rw [if_pos h]; omega
  have e2 : updN (sD c k) k (c.D c.W k + 1) = sD c (k + 1) := by
    funext p
    by_cases e : p = k
    · subst e; rw [updN_same]; unfold sD; rw [if_pos ⟨by omega, h⟩]
    · rw [updN_ne e]; unfold sD
      by_cases hp : p < k ∧ c.aN p = c.D c.W p + 1
      · rw [if_pos hp, if_pos ⟨by omega, hp.2⟩]
      · rw [if_neg hp, if_neg (fun h => hp ⟨by omega, h.2⟩)]
  have e3 : updN (sG c k) k (c.S c.W + dsum (c.D c.W) c.aN c.aA k) = sG c (k + 1) := by
    funext p
    by_cases e : p = k
    · subst e; rw [updN_same]; unfold sG; rw [if_pos ⟨by omega, h⟩]
    · rw [updN_ne e]; unfold sG
      by_cases hp : p < k ∧ c.aN p = c.D c.W p + 1
      · rw [if_pos hp, if_pos ⟨by omega, hp.2⟩]
      · rw [if_neg hp, if_neg (fun h => hp ⟨by omega, h.2⟩)]
  rw [e1, e2, e3]
theorem sF_no {c : CS} {k : Nat} (h : ¬ c.aN k = c.D c.W k + 1) : sF c k = sF c (k + 1) := by
  unfold sF
  have e1 : dsum (c.D c.W) c.aN c.aA (k + 1) = dsum (c.D c.W) c.aN c.aA k := by simp only [dsum]; rw [if_neg h]; omega
  have e2 : sD c k = sD c (k + 1) := by
    funext p; unfold sD
    by_cases hp : p < k ∧ c.aN p = c.D c.W p + 1
    · rw [if_pos hp, if_pos ⟨by omega, hp.2⟩]
    · rw [if_neg hp, if_neg (fun h2 => by
        by_cases e : p = k
        · subst e; exact h h2.2
        · exact hp ⟨by omega, h2.2⟩)]
  have e3 : sG c k = sG c (k + 1) := by
    funext p; unfold sG
    by_cases hp : p < k ∧ c.aN p = c.D c.W p + 1
    · rw [if_pos hp, if_pos ⟨by omega, hp.2⟩]
    · rw [if_neg hp, if_neg (fun h2 => by
        by_cases e : p = k
        · subst e; exact h h2.2
        · exact hp ⟨by omega, h2.2⟩)]
  rw [e1, e2, e3]
theorem sF_zero (c : CS) : sF c 0 = cF (c.S c.W) (c.D c.W) (c.G c.W) := by
  unfold sF
  have e2 : sD c 0 = c.D c.W := by funext p; unfold sD; rw [if_neg (by omega)]
  have e3 : sG c 0 = c.G c.W := by funext p; unfold sG; rw [if_neg (by omega)]
  rw [e2, e3]; simp [dsum]
theorem sF_top {n : Nat} {c : CS} {i : Int} (hc : CI c i) (hn : c.n = n) : ∀ k, n ≤ k → k ≤ 4 → sF c k = sF c n := by
  intro k h1 h2
  induction k with
  | zero => rw [show n = 0 by omega]
  | succ k ih =>
    by_cases e : n = k + 1
    · rw [e]
    · rw [← ih (by omega) (by omega)]
      refine (sF_no fun h => ?_).symm
      have h3 := hc.out k (by omega) (by omega)
      rcases hc.aq k (by omega) with h4 | ⟨_, h4⟩ <;> omega
theorem sF_new {n : Nat} {c : CS} {i : Int} (hc : CI c i) (hn : c.n = n) : rm (1 + 2 * n) (sF c n) = rm (1 + 2 * n) (cF (gI (cNew c) 0) (fun p => gI (cNew c) (1 + p)) (fun p => gI (cNew c) (5 + p))) := by
  have n4 := hc.n4
  rw [← sF_top hc hn 4 (by omega) (by omega)]
  refine cF_congr rfl (fun p hp => ?_) (fun p hp => ?_)
  · exact (cRowS_d _ _ _ (show p < 4 by omega)).symm
  · exact (cRowS_g _ _ _ (show p < 4 by omega)).symm
theorem cOth_row {n : Nat} {c : CS} (n4 : n ≤ 4) : rm (1 + 2 * n) (cF (c.S (1 - c.W)) (c.D (1 - c.W)) (c.G (1 - c.W))) = rm (1 + 2 * n) (cF (gI (cOth c) 0) (fun p => gI (cOth c) (1 + p)) (fun p => gI (cOth c) (5 + p))) :=
  cF_congr rfl (fun p hp => (cRowS_d _ _ _ (show p < 4 by omega)).symm) (fun p hp => (cRowS_g _ _ _ (show p < 4 by omega)).symm)
theorem ref4_step1_c {n : Nat} {c : CS} {q : Int} {Nw Su As At Ad Nu : SV} {own : List Ent} {ro : Addr → Option Value} {post : Value → H → Prop} (hn : n ≤ 4) (hq : ¬ (0 ≤ q ∧ q ≤ (n : Int) - 1))
    (hk : post (ccS false 0 1 n Nw Su c.W c.K As At Ad Nu) ⟨own, ro⟩) :
    SemCall Tryd.prog 9 (List.toArray [.agg (List.toArray (ccC n Nw Su c.W c.K As At Ad Nu)), .int .i64 q]) ⟨own, ro⟩ post := by
  refine f9_call _ _ _ _ _ _ _ _ _ _ _ post ?_
  refine new2 (n1 := 9) (n2 := 9) rfl rfl (fun r1 r3 => ?_)
  refine rI0 (ccE r1 n Nw Su c.W c.K As At Ad Nu) (by simp [ccE, ccC]) rfl rfl ⟨⟨by omega, by omega⟩, ref4_in_c ⟨_, rfl, VIf_not (fun _ => ?_) (fun h => absurd h hq)⟩⟩
  exact cc_fin (own := own) (Y := []) (ro := ro) (r1 := r1) (r3 := r3) (a0 := n) (a1 := Nw) (a2 := Su) (a3 := c.W) (a4 := c.K) (a5 := As) (a6 := At) (a7 := Ad) (a8 := Nu) (z0 := 0) (z1 := ⟨none, 0, 0⟩) (z2 := ⟨none, 0, 0⟩) (z3 := 0) (z4 := 0) (z5 := ⟨none, 0, 0⟩) (z6 := ⟨none, 0, 0⟩) (z7 := ⟨none, 0, 0⟩) (z8 := ⟨none, 0, 0⟩) (Q := ccS false 0 1) (post := post) hk
theorem ref4_step7_c {n : Nat} {c : CS} {k : Nat} {Nw Su As At Ad Nu : SV} {own : List Ent} {ro : Addr → Option Value} {post : Value → H → Prop} (hr : CcR ro n c Nw Su As At Ad Nu) (hn : n ≤ 4) (hq : k < n) (h0 : c.hL k = 0)
    (hk : post (ccS false 0 7 n Nw Su c.W c.K As At Ad Nu) ⟨own, ro⟩) :
    SemCall Tryd.prog 9 (List.toArray [.agg (List.toArray (ccC n Nw Su c.W c.K As At Ad Nu)), .int .i64 (k : Int)]) ⟨own, ro⟩ post := by
  refine f9_call _ _ _ _ _ _ _ _ _ _ _ post ?_
  refine new2 (n1 := 9) (n2 := 9) rfl rfl (fun r1 r3 => ?_)
  have m1 : ∀ {x0 : Int} {x1 x2 : SV} {x3 x4 : Int} {x5 x6 x7 x8 : SV} {Z : List Ent}, ccE r1 x0 x1 x2 x3 x4 x5 x6 x7 x8 ∈ own ++ ccE r1 x0 x1 x2 x3 x4 x5 x6 x7 x8 :: Z := by simp
  refine rI0 (ccE r1 n Nw Su c.W c.K As At Ad Nu) m1 rfl rfl ⟨⟨by omega, by omega⟩, ref4_in_c ⟨_, rfl, VIf_not (fun h => absurd ⟨by omega, by omega⟩ h) (fun _ => ?_)⟩⟩
  refine rS0 (ccE r1 n Nw Su c.W c.K As At Ad Nu) m1 rfl rfl (rm_ati hr.ln hq rfl ⟨⟨by omega, by omega⟩, fun _ _ => False, VIf_eq (fun _ => ?_) (fun z => absurd h0 z), fun _ _ _ h => h.elim⟩)
  exact cc_fin (own := own) (Y := []) (ro := ro) (r1 := r1) (r3 := r3) (a0 := n) (a1 := Nw) (a2 := Su) (a3 := c.W) (a4 := c.K) (a5 := As) (a6 := At) (a7 := Ad) (a8 := Nu) (z0 := 0) (z1 := ⟨none, 0, 0⟩) (z2 := ⟨none, 0, 0⟩) (z3 := 0) (z4 := 0) (z5 := ⟨none, 0, 0⟩) (z6 := ⟨none, 0, 0⟩) (z7 := ⟨none, 0, 0⟩) (z8 := ⟨none, 0, 0⟩) (Q := ccS false 0 7) (post := post) hk
end Go.Proofs.YtockhbbpcbcenaaDoor
