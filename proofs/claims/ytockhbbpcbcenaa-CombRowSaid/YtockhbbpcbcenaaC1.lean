import Derived.Test.YtockhbbpcbcenaaC0
import Derived.Test.YtockhbbpcbcenaaHS
namespace Go.Proofs.Ytockhbbpcbcenaa
open Go.Eng
set_option maxRecDepth 20000
/-! ### what CombRow keeps, plain -/
def CXr (c : CS) : Prop := ∀ p, p < 4 → (c.hL p = 6 ∨ c.hL p = 7) → ∀ q, q < 4 → c.D (1 - c.W) q = c.D c.W q + 1 → c.G (1 - c.W) q = c.S c.W + dsum (c.D c.W) (c.D (1 - c.W)) c.aA q
structure CW (N k : Nat) (c : CS) (os : List LOp) (lin : List Nat) (G : Nat → Int) (mine : Nat → Nat) : Prop where
  n : c.n = N
  H : HI 0 N k os lin G mine (fun p => c.hL p ≠ 0)
  sum : hst 0 os lin = [c.S c.W]
  r : ∀ p, p < N → c.hL p ≠ 0 → ∃ o, os[mine p]? = some o ∧ o.hand = p ∧ o.kind = 0 ∧ o.too = 0 ∧ o.arg = c.hA p ∧ (c.hN p = c.D c.W p + 1 → mine p ∉ lin) ∧ (c.hN p = c.D c.W p → mine p ∈ lin ∧ G (mine p) = c.G c.W p)
  x : CXr c
theorem CW.start {N : Nat} (hN : N ≤ 4) (mine : Nat → Nat) : CW N 0 (cs0 N) [] [] (fun _ => 0) mine where
  n := rfl
  H := (HI.start hN _ mine).ext (fun p _ => ⟨fun h => False.elim h, fun h => absurd rfl h⟩) (fun _ _ h => False.elim h)
  sum := rfl
  r := fun p _ h => absurd rfl h
  x := fun p _ h => by simp [cs0] at h
theorem CW.later {N k : Nat} {c os lin G mine} (S : CW N k c os lin G mine) : CW N (k + 1) c os lin G mine := ⟨S.n, S.H.later (by omega), S.sum, S.r, S.x⟩
theorem CW.mne {N k : Nat} {c os lin G mine} (S : CW N k c os lin G mine) {p q : Nat} (hp : p < N) (hq : q < N) (hne : p ≠ q) (bp : c.hL p ≠ 0) (bq : c.hL q ≠ 0) : mine p ≠ mine q := by
  obtain ⟨o, o1, o2, _⟩ := S.H.b p hp bp
  obtain ⟨o', o1', o2', _⟩ := S.H.b q hq bq
  intro he
  rw [he, o1'] at o1
  cases o1
  omega
theorem CW.quiet {N k : Nat} {c c' : CS} {os lin G mine} (S : CW N k c os lin G mine) (e1 : c'.n = c.n) (e2 : c'.W = c.W) (e3 : c'.S c.W = c.S c.W) (e4 : c'.D c.W = c.D c.W) (e5 : c'.G c.W = c.G c.W) (e6 : c'.hA = c.hA) (e7 : c'.hN = c.hN) (e8 : ∀ p, c'.hL p ≠ 0 ↔ c.hL p ≠ 0) (x : CXr c') : CW N (k + 1) c' os lin G mine := by
  refine ⟨e1.trans S.n, (S.H.later (by omega)).ext (fun p _ => (e8 p).symm) (fun _ _ _ => rfl), by rw [S.sum, e2, e3], fun p hp h0 => ?_, x⟩
  rw [e2, e4, e5, e6, e7]
  exact S.r p hp ((e8 p).1 h0)
theorem CW.begin {N k : Nat} {c : CS} {i : Int} {os lin G mine} (S : CW N k c os lin G mine) (h : CI c i) {q : Nat} {add : Int} (hq : q < N) (h8 : os.length < 8) (h0 : c.hL q = 0) (a0 : 0 ≤ add ∧ add ≤ 1000) {mine' : Nat → Nat} (e1 : mine' q = os.length) (e2 : ∀ p, p < N → p ≠ q → mine' p = mine p) :
    CW N (k + 1) { c with hL := upd1 c.hL q 1, hA := upd1 c.hA q add, hN := upd1 c.hN q (c.D c.W q + 1) } (os ++ [⟨q, 0, add, 0, 2 * k, 0⟩]) lin G mine' := by
  obtain ⟨H1, H2⟩ := S.H.begin (kind := 0) (arg := add) hq h8 (fun hh => hh h0) ⟨by omega, by omega⟩ a0 e1 e2
  refine ⟨S.n, H1.ext (fun p hp => ?_) (fun _ _ _ => rfl), H2.trans S.sum, fun p hp hb => ?_, fun p hp hl => ?_⟩
  · show (p = q ∨ c.hL p ≠ 0) ↔ upd1 c.hL q 1 p ≠ 0
    rcases upd1_cases (f := c.hL) (q := q) (v := 1) p with ⟨rfl, e⟩ | ⟨hne, e⟩
    · rw [e]; exact ⟨fun _ => by omega, fun _ => .inl rfl⟩
    · rw [e]; exact ⟨fun hh => hh.resolve_left hne, .inr⟩
  · dsimp only at hb ⊢
    by_cases hpq : p = q
    · subst hpq
      rw [upd1_same, upd1_same]
      refine ⟨⟨p, 0, add, 0, 2 * k, 0⟩, by rw [e1]; simp, rfl, rfl, rfl, rfl, fun _ hh => ?_, fun hh => by omega⟩
      have := S.H.lt _ hh
      omega
    · rw [upd1_ne hpq] at hb
      rw [upd1_ne hpq, upd1_ne hpq, e2 p hp hpq]
      obtain ⟨o, o1, o2⟩ := S.r p hp hb
      exact ⟨o, by rw [List.getElem?_append_left (List.getElem?_eq_some_iff.1 o1).1]; exact o1, o2⟩
  · dsimp only at hl ⊢
    have hpq : p ≠ q := fun he => by subst he; rw [upd1_same] at hl; omega
    rw [upd1_ne hpq] at hl
    exact S.x p hp hl
/-- what one adds for all is added one by one -/
theorem CW.batch {N k : Nat} {c : CS} {i : Int} {os lin G mine} (S : CW N k c os lin G mine) (h : CI c i) (hm : CMid c) (hx : ∀ q, q < 4 → c.D (1 - c.W) q = c.D c.W q + 1 → c.G (1 - c.W) q = c.S c.W + dsum (c.D c.W) (c.D (1 - c.W)) c.aA q) : ∀ j : Nat, j ≤ 4 → ∃ lin' G', HI 0 N k os lin' G' mine (fun p => c.hL p ≠ 0) ∧
    hst 0 os lin' = [c.S c.W + dsum (c.D c.W) (c.D (1 - c.W)) c.aA j] ∧ (∀ p, p < N → c.hL p ≠ 0 → (mine p ∈ lin' ↔ mine p ∈ lin ∨ (p < j ∧ c.D (1 - c.W) p = c.D c.W p + 1))) ∧ (∀ y ∈ lin, G' y = G y) ∧ (∀ p, p < N → c.hL p ≠ 0 → p < j → c.D (1 - c.W) p = c.D c.W p + 1 → G' (mine p) = c.G (1 - c.W) p)
  | 0, _ => ⟨lin, G, S.H, by rw [S.sum]; simp [dsum], fun p _ _ => ⟨.inl, fun hh => hh.elim id (fun hh => absurd hh.1 (by omega))⟩, fun _ _ => rfl, fun p _ _ hh => absurd hh (by omega)⟩
  | j + 1, hj => by
    obtain ⟨lin', G', P, Q, M, O, R⟩ := CW.batch S h hm hx j (by omega)
    by_cases hc : c.D (1 - c.W) j = c.D c.W j + 1
    · have ha : c.aN j = c.D (1 - c.W) j := by
        rcases hm.d j (by omega) with ⟨a1, a2, a3⟩ | ⟨a1, a2⟩
        · exact a2
        · omega
      have hl2 : 2 ≤ c.hL j := by
        rcases h.aq j (by omega) with b1 | ⟨b1, b2⟩
        · omega
        · exact b2
      obtain ⟨k1, k2⟩ := h.ask j (by omega) hl2
      have hjN : j < N := by
        have hn := S.n
        apply Classical.byContradiction
        intro hh
        have := h.out j (by omega) (by omega)
        omega
      obtain ⟨o, o1, o2, o3, o4, o5, o6, _⟩ := S.r j hjN (by omega)
      have o6 := o6 (by omega)
      have onl : mine j ∉ lin' := fun hh => ((M j hjN (by omega)).1 hh).elim o6 (fun hh => absurd hh.1 (by omega))
      obtain ⟨P1, P2⟩ := P.point (G' := fun y => if y = mine j then c.S c.W + dsum (c.D c.W) (c.D (1 - c.W)) c.aA j else G' y) o1 o4 onl (by rw [if_pos rfl, Q]; rfl) (fun y hy => if_neg fun hc : y = mine j => onl (hc ▸ hy))
      refine ⟨_, _, P1, ?_, fun p hp hb => ?_, fun y hy => ?_, fun p hp hb hpj hpd => ?_⟩
      · rw [P2, Q]
        unfold lgo lget
        rw [if_pos rfl, if_pos o3, o5]
        simp only [dsum]
        rw [if_pos hc, k2]
        show [c.S c.W + dsum (c.D c.W) (c.D (1 - c.W)) c.aA j + c.hA j] = _
        congr 1
        omega
      · rw [List.mem_append, M p hp hb, List.mem_singleton]
        by_cases hpj : p = j
        · subst hpj
          exact ⟨fun _ => .inr ⟨by omega, hc⟩, fun _ => .inr rfl⟩
        · have := S.mne hp hjN hpj hb (by omega)
          constructor
          · rintro ((hh | hh) | hh)
            · exact .inl hh
            · exact .inr ⟨by omega, hh.2⟩
            · exact absurd hh this
          · rintro (hh | hh)
            · exact .inl (.inl hh)
            · exact .inl (.inr ⟨by omega, hh.2⟩)
      · rw [if_neg fun hc : y = mine j => o6 (hc ▸ hy)]
        exact O y hy
      · by_cases hpe : p = j
        · subst hpe
          rw [if_pos rfl]
          exact (hx p (by omega) hc).symm
        · rw [if_neg (S.mne hp hjN hpe hb (by omega))]
          exact R p hp hb (by omega) hpd
    · refine ⟨lin', G', P, ?_, fun p hp hb => ?_, O, fun p hp hb hpj hpd => ?_⟩
      · rw [Q]; simp only [dsum]; rw [if_neg hc, Int.add_zero]
      · rw [M p hp hb]
        constructor
        · rintro (hh | hh)
          · exact .inl hh
          · exact .inr ⟨by omega, hh.2⟩
        · rintro (hh | hh)
          · exact .inl hh
          · by_cases hpe : p = j
            · subst hpe; exact absurd hh.2 hc
            · exact .inr ⟨by omega, hh.2⟩
      · have : p ≠ j := fun he => by subst he; exact hc hpd
        exact R p hp hb (by omega) hpd
theorem CW.step {N k : Nat} {c c' : CS} {i : Int} {os lin G mine} {q : Nat} {b : Bool} {g : Int} (S : CW N k c os lin G mine) (h : CI c i) (hq : q < 4) (hqn : q < N) (h0 : c.hL q ≠ 0) (hl : CLine c q c' b g) (hG : CGs c q c') :
    (b = false ∧ ∃ lin' G', CW N (k + 1) c' os lin' G' mine) ∨ (b = true ∧ ∃ o, os[mine q]? = some o ∧ CW N (k + 1) c' (os.set (mine q) { o with got := g, too := 2 * k + 1 }) lin G mine) := by
  have hw := h.w
  have hne : ¬ c.W = 1 - c.W := by omega
  have up : ∀ {v : Int}, v ≠ 0 → ∀ p, upd1 c.hL q v p ≠ 0 ↔ c.hL p ≠ 0 := fun {v} hv p => by
    rcases upd1_cases (f := c.hL) (q := q) (v := v) p with ⟨rfl, e⟩ | ⟨_, e⟩
    · rw [e]; exact ⟨fun _ => h0, fun _ => hv⟩
    · rw [e]
  -- a line that leaves the half that is made as it is
  have ux : ∀ {v : Int}, ¬ (v = 6 ∨ v = 7) → ∀ p, p < 4 → (upd1 c.hL q v p = 6 ∨ upd1 c.hL q v p = 7) → c.hL p = 6 ∨ c.hL p = 7 := fun {v} hv p _ hl => by
    rcases upd1_cases (f := c.hL) (q := q) (v := v) p with ⟨rfl, e⟩ | ⟨_, e⟩
    · rw [e] at hl; exact absurd hl hv
    · rw [e] at hl; exact hl
  cases hl with
  | ask h1 =>
    refine .inl ⟨rfl, lin, G, S.quiet rfl rfl rfl rfl rfl rfl rfl (up (by omega)) (fun p hp hl r hr hd => ?_)⟩
    have hl := ux (by omega) p hp hl
    dsimp only at hd ⊢
    rw [S.x p hp hl r hr hd]
    congr 1
    have hnq : ¬ c.D (1 - c.W) q = c.D c.W q + 1 := fun he => by
      rcases (h.mid p hp hl).1.d q hq with ⟨a1, a2, a3⟩ | ⟨a1, _⟩
      · rcases h.aq q hq with b1 | ⟨b1, b2⟩ <;> omega
      · omega
    refine dsum_congr r (fun p _ => Iff.rfl) (fun p _ he => ?_)
    rcases upd1_cases (f := c.aA) (q := q) (v := c.hA q) p with ⟨rfl, e⟩ | ⟨_, e⟩
    · exact absurd he hnq
    · exact e.symm
  | lock h1 h2 => exact .inl ⟨rfl, lin, G, S.quiet rfl rfl rfl rfl rfl rfl rfl (up (by omega)) (fun p hp hl => S.x p hp (ux (by omega) p hp hl))⟩
  | two h1 h2 => exact .inl ⟨rfl, lin, G, S.quiet rfl rfl rfl rfl rfl rfl rfl (up (by omega)) (fun p hp hl => S.x p hp (ux (by omega) p hp hl))⟩
  | wait h1 h2 => exact .inl ⟨rfl, lin, G, S.quiet rfl rfl rfl rfl rfl rfl rfl (up (by omega)) (fun p hp hl => S.x p hp (ux (by omega) p hp hl))⟩
  | three h1 h2 => exact .inl ⟨rfl, lin, G, S.quiet rfl rfl rfl rfl rfl rfl rfl (up (by omega)) (fun p hp hl => S.x p hp (ux (by omega) p hp hl))⟩
  | again h1 h2 => exact .inl ⟨rfl, lin, G, S.quiet rfl rfl rfl rfl rfl rfl rfl (up (by omega)) (fun p hp hl => S.x p hp (ux (by omega) p hp hl))⟩
  | free h1 => exact .inl ⟨rfl, lin, G, S.quiet rfl rfl rfl rfl rfl rfl rfl (up (by omega)) (fun p hp hl => S.x p hp (ux (by omega) p hp hl))⟩
  | copy s h1 =>
    refine .inl ⟨rfl, lin, G, S.quiet rfl rfl rfl rfl rfl rfl rfl (up (by omega)) (fun p hp hl => ?_)⟩
    exact S.x q hq (.inl h1)
  | add s h1 =>
    obtain ⟨g1, g2⟩ := hG h1
    refine .inl ⟨rfl, lin, G, S.quiet rfl rfl (by dsimp only; rw [if_neg hne]) (by funext p; dsimp only; rw [if_neg hne]) (by funext p; dsimp only; rw [if_neg hne]) rfl rfl (up (by omega)) (fun p hp hl r hr hd => ?_)⟩
    have e1 := g1 r hr
    have e2 := g2 r hr
    dsimp only at hd e1 e2 ⊢
    rw [if_pos rfl] at e1 e2
    rw [if_pos rfl, if_neg hne] at hd
    rw [if_pos rfl, if_neg hne, e1]
    have hc : c.aN r = c.D c.W r + 1 := Classical.byContradiction fun hc => by
      rw [if_neg (fun hh => hc hh.2)] at e2; omega
    rw [if_pos ⟨hr, hc⟩]
    congr 1
    refine dsum_congr r (fun p hp => ?_) (fun _ _ _ => rfl)
    have e3 := g2 p (by omega)
    dsimp only at e3
    rw [if_pos rfl] at e3
    rw [if_pos rfl, if_neg hne, e3]
    by_cases hc : c.aN p = c.D c.W p + 1
    · rw [if_pos ⟨by omega, hc⟩]; exact ⟨fun _ => rfl, fun _ => hc⟩
    · rw [if_neg (fun h => hc h.2)]; constructor <;> intro hh <;> omega
  | flip h1 =>
    have hm := h.mid q hq (.inr h1)
    obtain ⟨lin', G', P, Q, M, O, R⟩ := S.batch h hm.1 (S.x q hq (.inr h1)) 4 (by omega)
    refine .inl ⟨rfl, lin', G', ⟨S.n, (P.later (by omega)).ext (fun p _ => (up (by omega) p).symm) (fun _ _ _ => rfl), by rw [Q]; dsimp only; rw [hm.1.s], fun p hp hb => ?_, fun p hp hl => ?_⟩⟩
    · have hb := (up (by omega) p).1 hb
      have hp4 : p < 4 := by have := h.n4; have := S.n; omega
      obtain ⟨o, o1, o2, o3, o4, o5, o6, o7⟩ := S.r p hp hb
      have hnu := h.nu p hp4 hb
      refine ⟨o, o1, o2, o3, o4, o5, fun hn => ?_, fun hn => ?_⟩
      · dsimp only at hn
        rw [M p hp hb]
        rcases hm.1.d p hp4 with ⟨a1, a2, a3⟩ | ⟨a1, a2⟩
        · omega
        · rintro (hh | hh)
          · exact o6 (by omega) hh
          · omega
      · dsimp only at hn ⊢
        rw [M p hp hb]
        rcases hm.1.d p hp4 with ⟨a1, a2, a3⟩ | ⟨a1, a2⟩
        · exact ⟨.inr ⟨hp4, a1⟩, R p hp hb hp4 a1⟩
        · obtain ⟨q1, q2⟩ := o7 (by omega)
          exact ⟨.inl q1, by rw [O _ q1, q2, a2]⟩
    · dsimp only at hl
      have hpq : p ≠ q := fun he => by subst he; rw [upd1_same] at hl; omega
      rw [upd1_ne hpq] at hl
      have k1 := (h.k p hp).1 (by omega)
      have k2 := (h.k q hq).1 (by omega)
      omega
  | fin h1 h2 =>
    obtain ⟨o, o1, o2, o3, o4, o5, o6, o7⟩ := S.r q hqn h0
    obtain ⟨q1, q2⟩ := o7 h2
    obtain ⟨P1, P2⟩ := S.H.over hqn h0 o1 q1
    rw [q2] at P1 P2
    refine .inr ⟨rfl, o, o1, ⟨S.n, P1.ext (fun p hp => ?_) (fun _ _ _ => rfl), P2.trans S.sum, fun p hp hb => ?_, fun p hp hl => S.x p hp (ux (by omega) p hp hl)⟩⟩
    · show (p ≠ q ∧ c.hL p ≠ 0) ↔ upd1 c.hL q 0 p ≠ 0
      rcases upd1_cases (f := c.hL) (q := q) (v := 0) p with ⟨rfl, e⟩ | ⟨hne, e⟩
      · rw [e]; exact ⟨fun hh => absurd rfl hh.1, fun hh => absurd rfl hh⟩
      · rw [e]; exact ⟨fun hh => hh.2, fun hh => ⟨hne, hh⟩⟩
    · dsimp only at hb ⊢
      have hpq : p ≠ q := fun he => by subst he; rw [upd1_same] at hb; exact hb rfl
      rw [upd1_ne hpq] at hb
      rw [upd1_ne hpq, upd1_ne hpq]
      obtain ⟨o', r1, r2⟩ := S.r p hp hb
      exact ⟨o', by rw [List.getElem?_set_ne (Ne.symm (S.mne hp hqn hpq hb h0))]; exact r1, r2⟩
/-! ### all are done in time -/
def CDue (n i : Nat) (c : CS) : Prop := (∀ p, p < 4 → c.hL p = 0) ∨ ∃ b M : Nat, CKey c M b ∧ 1 ≤ M ∧ b < n ∧ i + (b + n - i % n) % n + 1 + n * (M - 1) ≤ 340
theorem CKey.pos {c : CS} {M : Int} {b : Nat} (h : CKey c M b) (hL : c.hL b ≤ 8) : 1 ≤ M := by
  obtain ⟨h1, h2, h3, h4⟩ := h
  have hb := csum_b c
  have w0 := cwt_b c 0; have w1 := cwt_b c 1; have w2 := cwt_b c 2; have w3 := cwt_b c 3
  have hw : 1 ≤ cwt c b := by unfold cwt; rw [if_neg h3]; split <;> omega
  have hs : 1 ≤ csum c := by
    unfold csum
    obtain rfl | rfl | rfl | rfl : b = 0 ∨ b = 1 ∨ b = 2 ∨ b = 3 := by omega
    all_goals omega
  rcases h4 with ⟨a, d⟩ | ⟨a, e, d⟩ | ⟨a, e, d⟩
  · omega
  · have := cfar_b c b; omega
  · omega
theorem CDue.start {n i : Nat} {c : CS} {j : Int} (h : CI c j) (hn : c.n = n) (hi : i = 140) : CDue n i c := by
  have hb := csum_b c
  have n1 := h.n1
  have n4 := h.n4
  rcases CPot.pick h (M := 48) (by omega) with ⟨a, _⟩ | ⟨b, hk⟩
  · exact .inl a
  · refine .inr ⟨b, 48, hk, by omega, by have := hk.2.1; omega, ?_⟩
    subst hi
    have : (b + n - 140 % n) % n < n := Nat.mod_lt _ (by omega)
    rcases (by omega : n = 1 ∨ n = 2 ∨ n = 3 ∨ n = 4) with rfl | rfl | rfl | rfl <;> omega
theorem CDue.done {n : Nat} {c : CS} (h : CDue n 340 c) : ∀ p, p < 4 → c.hL p = 0 := by
  rcases h with h | ⟨b, M, _, _, _, h⟩
  · exact h
  · omega
theorem CDue.idle {n i : Nat} {c : CS} (h : CDue n i c) (n1 : 1 ≤ n) (n4 : n ≤ 4) (h0 : c.hL (i % n) = 0) : CDue n (i + 1) c := by
  rcases h with h | ⟨b, M, hk, m1, hbn, h⟩
  · exact .inl h
  · refine .inr ⟨b, M, hk, m1, hbn, ?_⟩
    have hb : i % n ≠ b := fun he => hk.2.2.1 (he ▸ h0)
    rcases (by omega : n = 1 ∨ n = 2 ∨ n = 3 ∨ n = 4) with rfl | rfl | rfl | rfl <;> omega
theorem CDue.turn {n i q : Nat} {c c' : CS} {j : Int} (h : CDue n i c) (hi : CI c j) (hi' : CI c' (j + 1)) (hn : c.n = n) (hq : i % n = q) (mv : CMove c q c') : CDue n (i + 1) c' := by
  have n1 := hi.n1
  have n4 := hi.n4
  have hqn : q < n := by rw [← hq]; exact Nat.mod_lt _ (by omega)
  have hq4 : q < 4 := by omega
  rcases h with h | ⟨b, M, hk, m1, hbn, h⟩
  · have := h q hq4
    rcases mv.m with hm | hm | hm | hm | hm | hm | hm | hm | hm <;> omega
  · rcases mv.key hi hi' hq4 hk with ⟨h1, h2⟩ | h1
    · refine .inr ⟨b, M, h2, m1, hbn, ?_⟩
      rcases (by omega : n = 1 ∨ n = 2 ∨ n = 3 ∨ n = 4) with rfl | rfl | rfl | rfl <;> omega
    · rcases h1 with ⟨a, _⟩ | ⟨b', hk'⟩
      · exact .inl a
      · have hp := hk'.pos (hi'.ln b' hk'.1).2
        have hb' := hk'.2.1
        rw [mv.n] at hb'
        have hm : ((M : Int) - 1) = ((M - 1 : Nat) : Int) := by omega
        rw [hm] at hk'
        have hw : (b' + n - (i + 1) % n) % n < n := Nat.mod_lt _ (by omega)
        refine .inr ⟨b', M - 1, hk', by omega, by omega, ?_⟩
        have : n * (M - 1) = n * (M - 1 - 1) + n := by
          rw [← Nat.mul_succ]; congr 1; omega
        omega
end Go.Proofs.Ytockhbbpcbcenaa
