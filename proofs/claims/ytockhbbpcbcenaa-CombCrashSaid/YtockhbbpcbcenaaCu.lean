import Derived.Test.YtockhbbpcbcenaaCq
namespace Go.Proofs.Ytockhbbpcbcenaa
open Go.Eng
set_option maxRecDepth 20000
theorem at_rd {r : Nat} {N x : Int} {own : List Ent} {ro : Addr → Option Value} {m : List Int} {k : Nat} {K : Int → Prop} (hm : ⟨some r, ints m, k⟩ ∈ own) (hl : m.length = N.toNat) (h0 : 0 ≤ x) (h1 : x < N) (hK : K (gI m x.toNat)) :
    ∃ b : Addr, some (Addr.mk r 0 none) = some b ∧ 0 ≤ x ∧ x < ((N.toNat : Nat) : Int) ∧ ∃ y : Int, H.rd ⟨own, ro⟩ (Addr.add (Addr.add b (x.toNat * 1)) 0) (Value.int .i64 y) ∧ K y := by
  refine ⟨_, rfl, h0, by omega, gI m x.toNat, ?_, hK⟩
  rw [add_mk', add_mk', show 0 + x.toNat * 1 + 0 = x.toNat by omega]
  exact rd_gI _ hm rfl rfl (by omega)
theorem at_wr {r : Nat} {N x v : Int} {own : List Ent} {ro : Addr → Option Value} {m : List Int} {k : Nat} {K : H → Prop} (A C : List Ent) (hm : own = A ++ ⟨some r, ints m, k⟩ :: C) (hl : m.length = N.toNat) (h0 : 0 ≤ x) (h1 : x < N) (hK : K ⟨A ++ ⟨some r, ints (m.set x.toNat v), k⟩ :: C, ro⟩) :
    ∃ b : Addr, some (Addr.mk r 0 none) = some b ∧ 0 ≤ x ∧ x < ((N.toNat : Nat) : Int) ∧ H.wr ⟨own, ro⟩ (Addr.add b (x.toNat * 1)) [Value.int .i64 v] K := by
  refine ⟨_, rfl, h0, by omega, ?_⟩
  rw [add_mk', show 0 + x.toNat * 1 = x.toNat by omega]
  exact wr_ints A _ C hm rfl rfl (by omega) hK
theorem gI_set {m : List Int} {i k : Nat} {v : Int} (h : i < m.length) : gI (m.set i v) k = if k = i then v else gI m k := by
  unfold gI
  split
  · rename_i e; subst e; rw [List.getElem?_set_self h]; rfl
  · rename_i e; rw [List.getElem?_set_ne (Ne.symm e)]
/-! ### each deed is done once, plain -/
theorem CLine.grow {c c' : CS} {i : Int} {q : Nat} {b : Bool} {g : Int} (h : CI c i) (hq : q < 4) (hl : CLine c q c' b g) :
    c'.n = c.n ∧ (∀ p, p < 4 → c'.D c'.W p = c.D c.W p ∨ c'.D c'.W p = c.D c.W p + 1 ∧ c.hL p ≠ 0 ∧ c.hN p = c'.D c'.W p) ∧ c'.S c'.W = c.S c.W + dsum (c.D c.W) (c'.D c'.W) c.hA 4 ∧
    (∀ p, p < 4 → c'.hL p ≠ 0 → c.hL p ≠ 0 ∧ c'.hN p = c.hN p ∧ c'.hA p = c.hA p) ∧
    (b = true → c.hL q ≠ 0 ∧ c'.D c'.W q = c.hN q ∧ g = c'.G c'.W q ∧ g + c.hA q ≤ c'.S c'.W) := by
  have hw := h.w
  have hne : ¬ c.W = 1 - c.W := by omega
  have same : ∀ {x : Int}, x = c.S c.W → x = c.S c.W + dsum (c.D c.W) (c.D c.W) c.hA 4 := fun h => by rw [dsum_same 4 (fun _ _ => rfl)]; omega
  have up : ∀ {v : Int}, (∀ p, p < 4 → upd1 c.hL q v p ≠ 0 → c.hL q ≠ 0 → c.hL p ≠ 0) := fun {v} p _ hp h0 => by
    rcases upd1_cases (f := c.hL) (q := q) (v := v) p with ⟨rfl, _⟩ | ⟨_, e⟩
    · exact h0
    · rw [e] at hp; exact hp
  cases hl with
  | ask h1 => exact ⟨rfl, fun p hp => .inl rfl, same rfl, fun p hp hn => ⟨up p hp hn (by omega), rfl, rfl⟩, nofun⟩
  | lock h1 h2 => exact ⟨rfl, fun p hp => .inl rfl, same rfl, fun p hp hn => ⟨up p hp hn (by omega), rfl, rfl⟩, nofun⟩
  | two h1 h2 => exact ⟨rfl, fun p hp => .inl rfl, same rfl, fun p hp hn => ⟨up p hp hn (by omega), rfl, rfl⟩, nofun⟩
  | wait h1 h2 => exact ⟨rfl, fun p hp => .inl rfl, same rfl, fun p hp hn => ⟨up p hp hn (by omega), rfl, rfl⟩, nofun⟩
  | three h1 h2 => exact ⟨rfl, fun p hp => .inl rfl, same rfl, fun p hp hn => ⟨up p hp hn (by omega), rfl, rfl⟩, nofun⟩
  | again h1 h2 => exact ⟨rfl, fun p hp => .inl rfl, same rfl, fun p hp hn => ⟨up p hp hn (by omega), rfl, rfl⟩, nofun⟩
  | fin h1 h2 =>
    refine ⟨rfl, fun p hp => .inl rfl, same rfl, fun p hp hn => ?_, fun _ => ⟨by omega, h2.symm, rfl, h.gs q hq (by omega) h2⟩⟩
    dsimp only at hn ⊢
    rcases upd1_cases (f := c.hL) (q := q) (v := 0) p with ⟨rfl, e⟩ | ⟨hne, e⟩
    · exact absurd e hn
    · exact ⟨by rw [e] at hn; exact hn, upd1_ne hne, upd1_ne hne⟩
  | add s h1 =>
    have e : (fun w p => if w = 1 - c.W then gI s (1 + p) else c.D w p) c.W = c.D c.W := by funext p; dsimp only; rw [if_neg hne]
    refine ⟨rfl, fun p hp => .inl (by dsimp only; rw [if_neg hne]), ?_, fun p hp hn => ⟨up p hp hn (by omega), rfl, rfl⟩, nofun⟩
    dsimp only at e ⊢
    rw [e, if_neg hne]
    exact same rfl
  | copy s h1 => exact ⟨rfl, fun p hp => .inl rfl, same rfl, fun p hp hn => ⟨up p hp hn (by omega), rfl, rfl⟩, nofun⟩
  | flip h1 =>
    have md := h.mid q hq (.inr h1)
    have key : ∀ p, p < 4 → c.D (1 - c.W) p = c.D c.W p ∨ c.D (1 - c.W) p = c.D c.W p + 1 ∧ c.hL p ≠ 0 ∧ c.hN p = c.D (1 - c.W) p ∧ c.aA p = c.hA p := fun p hp => by
      rcases md.1.d p hp with ⟨a1, a2, a3⟩ | ⟨a1, a2⟩
      · rcases h.aq p hp with b1 | ⟨b1, b2⟩
        · omega
        · obtain ⟨e1, e2⟩ := h.ask p hp b2
          exact .inr ⟨a1, by omega, by omega, e2⟩
      · exact .inl a1
    refine ⟨rfl, fun p hp => ?_, ?_, fun p hp hn => ⟨up p hp hn (by omega), rfl, rfl⟩, nofun⟩
    · rcases key p hp with k | ⟨k1, k2, k3, _⟩
      · exact .inl k
      · exact .inr ⟨k1, k2, k3⟩
    · dsimp only
      rw [md.1.s]
      congr 1
      refine dsum_congr 4 (fun p _ => Iff.rfl) (fun p hp he => ?_)
      rcases key p hp with k | ⟨k1, k2, k3, k4⟩
      · omega
      · exact k4
  | free h1 => exact ⟨rfl, fun p hp => .inl rfl, same rfl, fun p hp hn => ⟨up p hp hn (by omega), rfl, rfl⟩, nofun⟩
theorem dsum_ext {D D' a : Nat → Int} {k : Nat} (h : ∀ p, k ≤ p → p < 4 → D' p = D p) : ∀ l, k ≤ l → l ≤ 4 → dsum D D' a l = dsum D D' a k
  | 0, h1, _ => by rw [show k = 0 by omega]
  | l + 1, h1, h2 => by
    by_cases hk : k = l + 1
    · rw [hk]
    · simp only [dsum]
      rw [dsum_ext h l (by omega) (by omega), if_neg (by have := h l (by omega) (by omega); omega)]
      omega
/-- what is known between two orders -/
structure OMain (c : CS) (ad wa nu : List Int) (sum : Int) : Prop where
  la : ad.length = c.n.toNat
  lw : wa.length = c.n.toNat
  ln : nu.length = c.n.toNat
  w : ∀ p : Nat, p < 4 → (p : Int) < c.n → gI wa p = c.D c.W p
  s : sum = c.S c.W
  b : ∀ p, 0 ≤ gI ad p ∧ gI ad p ≤ 1000
  h : ∀ p : Nat, p < 4 → (p : Int) < c.n → c.hL p ≠ 0 → gI nu p = c.hN p ∧ gI ad p = c.hA p
structure OMid (c : CS) (ad wa nu : List Int) (sum told got : Int) : Prop where
  la : ad.length = c.n.toNat
  lw : wa.length = c.n.toNat
  ln : nu.length = c.n.toNat
  w : ∀ p : Nat, p < 4 → (p : Int) < c.n → c.D c.W p = gI wa p ∨ c.D c.W p = gI wa p + 1 ∧ gI nu p = c.D c.W p ∧ 0 ≤ gI ad p ∧ gI ad p ≤ 1000
  s : c.S c.W = sum + dsum (gI wa) (c.D c.W) (gI ad) c.n.toNat
  b : ∀ p, 0 ≤ gI ad p ∧ gI ad p ≤ 1000
  h : ∀ p : Nat, p < 4 → (p : Int) < c.n → c.hL p ≠ 0 → gI nu p = c.hN p ∧ gI ad p = c.hA p
  t : told = -1 ∨ ∃ q : Nat, q < 4 ∧ (q : Int) < c.n ∧ told = (q : Int) ∧ c.D c.W q = gI nu q ∧ c.G c.W q = got ∧ got + gI ad q ≤ c.S c.W ∧ 0 ≤ gI ad q ∧ gI ad q ≤ 1000
theorem OMain.start {n : Int} (h0 : 1 ≤ n) : OMain (cs0 n) (List.replicate n.toNat 0) (List.replicate n.toNat 0) (List.replicate n.toNat 0) 0 :=
  ⟨by simp [cs0], by simp [cs0], by simp [cs0], fun p _ _ => gI_zeros, rfl, fun p => by rw [gI_zeros]; omega, fun p _ _ h => absurd rfl h⟩
theorem OMain.begin {c : CS} {ad wa nu : List Int} {sum : Int} (h : OMain c ad wa nu sum) {k : Nat} (hk : k < 4) (hn : (k : Int) < c.n) {add : Int} (a0 : 0 ≤ add) (a1 : add ≤ 1000) :
    OMain { c with hL := upd1 c.hL k 1, hA := upd1 c.hA k add, hN := upd1 c.hN k (c.D c.W k + 1) } (ad.set k add) wa (nu.set k (gI wa k + 1)) sum := by
  refine ⟨by rw [List.length_set]; exact h.la, h.lw, by rw [List.length_set]; exact h.ln, h.w, h.s, fun p => by rw [gI_set (by have := h.la; omega)]; have := h.b p; split <;> omega, fun p hp hpn hl => ?_⟩
  dsimp only at *
  rw [gI_set (by have := h.ln; omega), gI_set (by have := h.la; omega)]
  by_cases e : p = k
  · subst e; rw [if_pos rfl, if_pos rfl, upd1_same, upd1_same, h.w p hk hn]; exact ⟨rfl, rfl⟩
  · rw [if_neg e, if_neg e, upd1_ne e, upd1_ne e]
    rw [upd1_ne e] at hl
    exact h.h p hp hpn hl
theorem OMain.mid {c : CS} {ad wa nu : List Int} {sum : Int} (h : OMain c ad wa nu sum) (h4 : c.n ≤ 4) : OMid c ad wa nu sum (-1) 0 :=
  ⟨h.la, h.lw, h.ln, fun p hp hn => .inl (h.w p hp hn).symm, by rw [dsum_same _ (fun p hp => (h.w p (by omega) (by omega)).symm), h.s]; omega, h.b, h.h, .inl rfl⟩
theorem OMain.line {c c' : CS} {i : Int} {ad wa nu : List Int} {sum : Int} (hm : OMain c ad wa nu sum) (h : CI c i) {q : Nat} (hq : q < 4) (hqn : (q : Int) < c.n) {b : Bool} {g : Int} (hl : CLine c q c' b g) :
    OMid c' ad wa nu sum (if b then (q : Int) else -1) (if b then g else 0) := by
  obtain ⟨g1, g2, g3, g4, g5⟩ := hl.grow h hq
  have h4 := h.n4
  refine ⟨by rw [g1]; exact hm.la, by rw [g1]; exact hm.lw, by rw [g1]; exact hm.ln, fun p hp hn => ?_, ?_, hm.b, fun p hp hn h0 => ?_, ?_⟩
  · rw [g1] at hn
    rw [hm.w p hp hn]
    rcases g2 p hp with a | ⟨a, b, d⟩
    · exact .inl a
    · obtain ⟨n1, n2⟩ := hm.h p hp hn b
      have := h.a p hp
      exact .inr ⟨a, by omega, by omega, by omega⟩
  · rw [g3, hm.s, g1]
    congr 1
    rw [dsum_ext (k := c.n.toNat) (fun p h1 h2 => ?_) 4 (by omega) (by omega)]
    · refine dsum_congr _ (fun p hp => ?_) (fun p hp he => ?_)
      · rw [hm.w p (by omega) (by omega)]
      · rcases g2 p (by omega) with a | ⟨a, b, d⟩
        · omega
        · exact (hm.h p (by omega) (by omega) b).2.symm
    · rcases g2 p h2 with a | ⟨a, b, d⟩
      · exact a
      · exact absurd (h.out p h2 (by omega)) b
  · rw [g1] at hn
    obtain ⟨a1, a2, a3⟩ := g4 p hp h0
    rw [a2, a3]; exact hm.h p hp hn a1
  · cases b with
    | false => exact .inl rfl
    | true =>
      obtain ⟨a1, a2, a3, a4⟩ := g5 rfl
      obtain ⟨n1, n2⟩ := hm.h q hq hqn a1
      have := h.a q hq
      refine .inr ⟨q, hq, by rw [g1]; exact hqn, rfl, by omega, a3.symm, ?_, by omega, by omega⟩
      rw [n2]; exact a4
theorem csCrash_same {c : CS} {i : Int} (h : CI c i) (keep : Bool) : (csCrash c keep).S c.W = c.S c.W ∧ ∀ p, p < 4 → (csCrash c keep).D c.W p = c.D c.W p ∧ (csCrash c keep).G c.W p = c.G c.W p := by
  cases keep
  · exact ⟨h.eS, fun p hp => ⟨h.eD p hp, h.eG p hp⟩⟩
  · exact ⟨rfl, fun p hp => ⟨rfl, rfl⟩⟩
theorem OMid.crash {c : CS} {i : Int} {ad wa nu : List Int} {sum told got : Int} (hm : OMid c ad wa nu sum told got) (h : CI c i) (keep : Bool) : OMid (csCrash c keep) ad wa nu sum told got := by
  obtain ⟨s1, s2⟩ := csCrash_same h keep
  have h4 := h.n4
  refine ⟨hm.la, hm.lw, hm.ln, fun p hp hn => ?_, ?_, hm.b, fun p hp hn h0 => absurd rfl h0, ?_⟩
  · show (csCrash c keep).D c.W p = _ ∨ (csCrash c keep).D c.W p = _ ∧ _ = (csCrash c keep).D c.W p ∧ _
    rw [(s2 p hp).1]; exact hm.w p hp hn
  · show (csCrash c keep).S c.W = sum + dsum (gI wa) ((csCrash c keep).D c.W) (gI ad) c.n.toNat
    rw [s1, hm.s]
    congr 1
    exact dsum_congr _ (fun p hp => by rw [(s2 p (by omega)).1]) (fun p hp _ => rfl)
  · rcases hm.t with t | ⟨q, q1, q2, q3, q4, q5, q6, q7⟩
    · exact .inl t
    · refine .inr ⟨q, q1, q2, q3, ?_, ?_, ?_, q7⟩
      · show (csCrash c keep).D c.W q = _; rw [(s2 q q1).1]; exact q4
      · show (csCrash c keep).G c.W q = _; rw [(s2 q q1).2]; exact q5
      · show _ ≤ (csCrash c keep).S c.W; rw [s1]; exact q6
/-- while the counts are looked at -/
structure OLoop (c : CS) (ad wa nu wa' : List Int) (sum sum' : Int) (k : Nat) : Prop where
  l : wa'.length = c.n.toNat
  s : sum' = sum + dsum (gI wa) (c.D c.W) (gI ad) k
  w : ∀ p : Nat, gI wa' p = if p < k then c.D c.W p else gI wa p
theorem OLoop.next {c : CS} {ad wa nu wa' : List Int} {sum sum' told got : Int} {k : Nat} (h : OLoop c ad wa nu wa' sum sum' k) (hm : OMid c ad wa nu sum told got) (hk : k < 4) (hn : (k : Int) < c.n) :
    (¬ (c.D c.W k ≠ gI wa' k ∧ (c.D c.W k ≠ gI wa' k + 1 ∨ c.D c.W k ≠ gI nu k))) ∧ (c.D c.W k > gI wa' k → 0 ≤ gI ad k ∧ gI ad k ≤ 1000 ∧ OLoop c ad wa nu (wa'.set k (c.D c.W k)) sum (sum' + gI ad k) (k + 1)) ∧ (¬ c.D c.W k > gI wa' k → OLoop c ad wa nu wa' sum sum' (k + 1)) := by
  have e := h.w k
  rw [if_neg (by omega)] at e
  have hl := h.l
  rcases hm.w k hk hn with a | ⟨a, b, d⟩
  · refine ⟨by omega, by omega, fun _ => ⟨h.l, ?_, fun p => ?_⟩⟩
    · rw [h.s]; simp only [dsum]; rw [if_neg (by omega)]; omega
    · rw [h.w p]
      by_cases ep : p = k
      · subst ep; rw [if_neg (by omega), if_pos (by omega)]; exact a.symm
      · by_cases hlt : p < k
        · rw [if_pos hlt, if_pos (by omega)]
        · rw [if_neg hlt, if_neg (by omega)]
  · refine ⟨by omega, fun _ => ⟨d.1, d.2, by rw [List.length_set]; exact h.l, ?_, fun p => ?_⟩, by omega⟩
    · rw [h.s]; simp only [dsum]; rw [if_pos a]; omega
    · rw [gI_set (by omega), h.w p]
      by_cases ep : p = k
      · subst ep; rw [if_pos rfl, if_pos (by omega)]
      · by_cases hlt : p < k
        · rw [if_neg ep, if_pos hlt, if_pos (by omega)]
        · rw [if_neg ep, if_neg hlt, if_neg (by omega)]
theorem OLoop.main {c : CS} {ad wa nu wa' : List Int} {sum sum' told got : Int} (h : OLoop c ad wa nu wa' sum sum' c.n.toNat) (hm : OMid c ad wa nu sum told got) : OMain c ad wa' nu sum' :=
  ⟨hm.la, h.l, hm.ln, fun p hp hn => by rw [h.w p, if_pos (by omega)], by rw [h.s, hm.s], hm.b, hm.h⟩
end Go.Proofs.Ytockhbbpcbcenaa
