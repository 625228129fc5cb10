import Derived.Test.YtnecppjgcbhnaaaDoorSp
namespace Go.Proofs.YtnecppjgcbhnaaaDoor
open Go.Eng
set_option maxRecDepth 20000
/-! ### the laws of the board, plain -/
/-- what is kept of a round of reading -/
theorem seesGo_spec : ∀ (fs ls : List SWord) (q : Nat) (mv out : List Int) (same : Bool), ls.length = fs.length → q + fs.length ≤ mv.length → (∀ x ∈ mv, 0 ≤ x ∧ x ≤ 1) →
    ((seesGo fs ls q mv out same).2.1 = true → ((same = true ∧ (∀ (j : Nat) f l, fs[j]? = some f → ls[j]? = some l → f.turn = l.turn) ∧ (seesGo fs ls q mv out same).1 = out ++ ls.map (·.value)) ∨
      ∃ (j : Nat) (f l : SWord), fs[j]? = some f ∧ ls[j]? = some l ∧ f.turn ≠ l.turn ∧ mv[q + j]? = some 1 ∧ (seesGo fs ls q mv out same).1 = l.seen)) ∧
    ((seesGo fs ls q mv out same).2.1 = false → (seesGo fs ls q mv out same).2.2.length = mv.length ∧ (∀ x ∈ (seesGo fs ls q mv out same).2.2, 0 ≤ x ∧ x ≤ 1) ∧
      (∀ j : Nat, (seesGo fs ls q mv out same).2.2[j]? = some 1 → mv[j]? = some 1 ∨ q ≤ j ∧ ∃ f l, fs[j - q]? = some f ∧ ls[j - q]? = some l ∧ f.turn ≠ l.turn) ∧
      (seesGo fs ls q mv out same).2.2.sum ≥ mv.sum + (if same then 1 else 0))
  | [], [], q, mv, out, same, _, _, hb => by
    simp only [seesGo]
    refine ⟨fun h => .inl ⟨h, by simp, by simp⟩, fun h => ⟨by simp, hb, fun j hj => .inl hj, by simp [h]⟩⟩
  | [], l :: ls, _, _, _, _, h, _, _ => by simp at h
  | f :: fs, [], _, _, _, _, h, _, _ => by simp at h
  | f :: fs, l :: ls, q, mv, out, same, hl, hq, hb => by
    simp only [List.length_cons] at hl hq
    obtain ⟨x, hx⟩ : ∃ x, mv[q]? = some x := ⟨_, List.getElem?_eq_getElem (by omega)⟩
    obtain ⟨x0, x1⟩ := hb x (List.mem_of_getElem? hx)
    have hqm : q < mv.length := by omega
    by_cases ht : f.turn ≠ l.turn
    · by_cases h2 : x + 1 = 2
      · have e : seesGo (f :: fs) (l :: ls) q mv out same = (l.seen, true, mv.set q (x + 1)) := by
          rw [seesGo, if_pos ht, hx, Option.getD_some, if_pos h2]
        rw [e]
        exact ⟨fun _ => .inr ⟨0, f, l, rfl, rfl, ht, by rw [Nat.add_zero, hx]; congr 1; omega, rfl⟩, fun h => nomatch h⟩
      · have e : seesGo (f :: fs) (l :: ls) q mv out same = seesGo fs ls (q + 1) (mv.set q (x + 1)) (out ++ [l.value]) false := by
          rw [seesGo, if_pos ht, hx, Option.getD_some, if_neg h2]
        rw [e]
        have hx0 : x = 0 := by omega
        subst hx0
        have ih := seesGo_spec fs ls (q + 1) (mv.set q (0 + 1)) (out ++ [l.value]) false (by omega) (by simp; omega) (by
          intro y hy
          rcases mem_set_cases hy with rfl | ⟨j, _, hj⟩
          · omega
          · exact hb y (List.mem_of_getElem? hj))
        refine ⟨fun h => ?_, fun h => ?_⟩
        · rcases ih.1 h with ⟨h1, _⟩ | ⟨j, f', l', a1, a2, a3, a4, a5⟩
          · cases h1
          · refine .inr ⟨j + 1, f', l', by simpa using a1, by simpa using a2, a3, ?_, a5⟩
            rw [List.getElem?_set_ne (by omega)] at a4
            rw [← a4]; congr 1; omega
        · obtain ⟨b1, b2, b3, b4⟩ := ih.2 h
          refine ⟨by simpa using b1, b2, fun j hj => ?_, ?_⟩
          · rcases b3 j hj with h1 | ⟨h1, f', l', h2, h3, h4⟩
            · rcases set_cases h1 with ⟨rfl, _⟩ | ⟨hne, h1'⟩
              · exact .inr ⟨Nat.le_refl _, f, l, by simp, by simp, ht⟩
              · exact .inl h1'
            · refine .inr ⟨by omega, f', l', ?_, ?_, h4⟩
              · rw [show j - q = (j - (q + 1)) + 1 by omega]; simpa using h2
              · rw [show j - q = (j - (q + 1)) + 1 by omega]; simpa using h3
          · have : (mv.set q (0 + 1)).sum = mv.sum + 1 := by
              rw [List.set_eq_take_append_cons_drop, if_pos hqm]
              conv => rhs; rw [← List.take_append_drop q mv, List.drop_eq_getElem_cons hqm]
              rw [List.getElem?_eq_getElem hqm] at hx
              have hx' := Option.some.inj hx
              simp only [List.sum_append, List.sum_cons, hx']
              omega
            rw [this] at b4
            simp at b4 ⊢
            split <;> omega
    · have e : seesGo (f :: fs) (l :: ls) q mv out same = seesGo fs ls (q + 1) mv (out ++ [l.value]) same := by
        rw [seesGo, if_neg ht]
      rw [e]
      have ht : f.turn = l.turn := by omega
      have ih := seesGo_spec fs ls (q + 1) mv (out ++ [l.value]) same (by omega) (by omega) hb
      refine ⟨fun h => ?_, fun h => ?_⟩
      · rcases ih.1 h with ⟨h1, h2, h3⟩ | ⟨j, f', l', a1, a2, a3, a4, a5⟩
        · refine .inl ⟨h1, fun j f' l' a1 a2 => ?_, by rw [h3]; simp⟩
          cases j with
          | zero => simp at a1 a2; rw [← a1, ← a2]; exact ht
          | succ j => exact h2 j f' l' (by simpa using a1) (by simpa using a2)
        · refine .inr ⟨j + 1, f', l', by simpa using a1, by simpa using a2, a3, ?_, a5⟩
          rw [← a4]; congr 1; omega
      · obtain ⟨b1, b2, b3, b4⟩ := ih.2 h
        refine ⟨b1, b2, fun j hj => ?_, b4⟩
        rcases b3 j hj with h1 | ⟨h1, f', l', h2, h3, h4⟩
        · exact .inl h1
        · refine .inr ⟨by omega, f', l', ?_, ?_, h4⟩
          · rw [show j - q = (j - (q + 1)) + 1 by omega]; simpa using h2
          · rw [show j - q = (j - (q + 1)) + 1 by omega]; simpa using h3
theorem sum_le_len : ∀ {l : List Int}, (∀ x ∈ l, 0 ≤ x ∧ x ≤ 1) → 0 ≤ l.sum ∧ l.sum ≤ l.length
  | [], _ => by simp
  | x :: l, h => by
    have h1 := h x (by simp)
    have h2 := sum_le_len (l := l) (fun y hy => h y (by simp [hy]))
    simp only [List.sum_cons, List.length_cons]
    omega
/-- how many steps a hand has made, at most -/
def SMine (n : Nat) (h : SHand) (m : Int) : Prop :=
  (h.ln = 1 → m ≤ h.k) ∧ (h.ln = 2 → m ≤ n + n * h.moved.sum + h.k) ∧ (h.ln = 3 → m ≤ n * (n + 2))
structure SInv (b : Board) (n : Nat) (i : Int) : Prop where
  n0 : 1 ≤ n
  n4 : n ≤ 4
  w : b.words.length = n
  h : b.hands.length = n
  t : ∀ w ∈ b.words, 0 ≤ w.turn ∧ w.turn ≤ i
  s : ∀ h ∈ b.hands, SHok n h
  ln : ∀ h ∈ b.hands, 0 ≤ h.ln ∧ h.ln ≤ 3
  mv : ∀ h ∈ b.hands, h.ln = 1 ∨ h.ln = 2 → h.moved.length = n ∧ ∀ x ∈ h.moved, 0 ≤ x ∧ x ≤ 1
  sn : ∀ w ∈ b.words, w.seen.length = n
  l3 : ∀ h ∈ b.hands, h.ln = 3 → h.moved.length = n ∧ h.writes = true
  ls : ∀ h ∈ b.hands, (∀ w ∈ h.first, w.seen.length = n) ∧ ∀ w ∈ h.last, w.seen.length = n
  e1 : ∀ h ∈ b.hands, h.ln = 1 → h.last = []
theorem SInv.ok {b : Board} {n : Nat} {i : Int} (h : SInv b n i) (hi : i ≤ 1000) : BOk b :=
  ⟨by rw [h.w, h.h], fun w hw => by have := h.t w hw; omega, fun g hg => by rw [h.h]; exact h.s g hg⟩
theorem SInv.mono {b : Board} {n : Nat} {i : Int} (h : SInv b n i) : SInv b n (i + 1) := { h with t := fun w hw => by have := h.t w hw; omega }
theorem SInv.start {n : Nat} (h0 : 1 ≤ n) (h1 : n ≤ 4) : SInv ⟨List.replicate n ⟨0, 0, List.replicate n 0⟩, List.replicate n shand0⟩ n 0 where
  n0 := h0
  n4 := h1
  w := by simp
  h := by simp
  t := by intro w hw; simp at hw; simp [hw.2]
  s := by intro h hh; simp at hh; rw [hh.2]; exact ⟨by simp [shand0], by simp [shand0], by simp [shand0]⟩
  ln := by intro h hh; simp at hh; rw [hh.2]; simp [shand0]
  mv := by intro h hh; simp at hh; rw [hh.2]; simp [shand0]
  sn := by intro w hw; simp at hw; simp [hw.2]
  l3 := by intro h hh; simp at hh; rw [hh.2]; simp [shand0]
  ls := by intro h hh; simp at hh; rw [hh.2]; simp [shand0]
  e1 := by intro h hh; simp at hh; rw [hh.2]; simp [shand0]
/-- a hand turned -/
theorem SInv.hand {b : Board} {n : Nat} {i : Int} (h : SInv b n i) {q : Nat} {y : SHand} (hs : SHok n y) (hl : 0 ≤ y.ln ∧ y.ln ≤ 3) (hm : y.ln = 1 ∨ y.ln = 2 → y.moved.length = n ∧ ∀ x ∈ y.moved, 0 ≤ x ∧ x ≤ 1) (h3 : y.ln = 3 → y.moved.length = n ∧ y.writes = true)
    (hw : (∀ w ∈ y.first, w.seen.length = n) ∧ ∀ w ∈ y.last, w.seen.length = n) (he : y.ln = 1 → y.last = []) : SInv { b with hands := b.hands.set q y } n i := by
  refine { h with h := by simpa using h.h, s := fun x hx => ?_, ln := fun x hx => ?_, mv := fun x hx => ?_, l3 := fun x hx => ?_, ls := fun x hx => ?_, e1 := fun x hx => ?_ } <;>
    rcases mem_set_cases hx with rfl | ⟨j, _, hj⟩
  · exact hs
  · exact h.s x (List.mem_of_getElem? hj)
  · exact hl
  · exact h.ln x (List.mem_of_getElem? hj)
  · exact hm
  · exact h.mv x (List.mem_of_getElem? hj)
  · exact h3
  · exact h.l3 x (List.mem_of_getElem? hj)
  · exact hw
  · exact h.ls x (List.mem_of_getElem? hj)
  · exact he
  · exact h.e1 x (List.mem_of_getElem? hj)
inductive SBeg (b : Board) (n : Nat) (i : Int) (p : Int) (wr : Bool) (v : Int) : Prop
  | err (k : Int) (hk : k ≠ 0) (e : snapBegin b p wr v = (b, k))
  | ok (h0 : 0 ≤ p) (h1 : p ≤ (n : Int) - 1) (h : SHand) (hh : b.hands[p.toNat]? = some h) (hl : h.ln = 0) (e : snapBegin b p wr v = ({ b with hands := b.hands.set p.toNat ⟨1, 0, wr, v, [], [], List.replicate n 0⟩ }, 0))
      (hI : SInv { b with hands := b.hands.set p.toNat ⟨1, 0, wr, v, [], [], List.replicate n 0⟩ } n i)
theorem SInv.begin {b : Board} {n : Nat} {i : Int} (h : SInv b n i) (p : Int) (wr : Bool) (v : Int) : SBeg b n i p wr v := by
  by_cases h1 : ¬ (0 ≤ p ∧ p ≤ (b.hands.length : Int) - 1) ∨ ¬ (0 ≤ v ∧ v ≤ 1000)
  · exact .err 1 (by decide) (by rw [snapBegin, if_pos h1])
  have hh := h.h
  have n0 := h.n0
  obtain ⟨g, hg⟩ : ∃ g, b.hands[p.toNat]? = some g := ⟨_, List.getElem?_eq_getElem (by omega)⟩
  by_cases h2 : g.ln ≠ 0
  · exact .err 7 (by decide) (by rw [snapBegin, if_neg h1, hg]; simp only; rw [if_pos h2])
  · refine .ok (by omega) (by omega) g hg (by omega) (by rw [snapBegin, if_neg h1, hg]; simp only; rw [if_neg h2, hh]) ?_
    refine h.hand ⟨fun _ => ⟨by simp, by simp; omega, rfl⟩, by simp, by simp⟩ (by simp) (fun _ => ⟨by simp, by simp⟩) (by simp) (by simp) (by simp)
inductive SSt (b : Board) (n : Nat) (i : Int) (p : Int) : Prop
  | err (k : Int) (hk : k ≠ 0) (e : snapStep b p = (b, false, [], k))
  | first (h0 : 0 ≤ p) (h1 : p ≤ (n : Int) - 1) (h y : SHand) (w : SWord) (hh : b.hands[p.toNat]? = some h) (hl : h.ln = 1) (hw : b.words[h.k.toNat]? = some w) (hk0 : 0 ≤ h.k) (hk : h.k < n) (hf : h.first.length = h.k.toNat)
      (hy : y.first = h.first ++ [w] ∧ y.last = h.last ∧ y.moved = h.moved ∧ y.writes = h.writes ∧ y.value = h.value ∧ (h.k + 1 = n ∧ y.ln = 2 ∧ y.k = 0 ∨ h.k + 1 < n ∧ y.ln = 1 ∧ y.k = h.k + 1)) (e : snapStep b p = ({ b with hands := b.hands.set p.toNat y }, false, [], 0)) (hI : SInv { b with hands := b.hands.set p.toNat y } n i)
  | last (h0 : 0 ≤ p) (h1 : p ≤ (n : Int) - 1) (h y : SHand) (w : SWord) (hh : b.hands[p.toNat]? = some h) (hl : h.ln = 2) (hw : b.words[h.k.toNat]? = some w) (hk0 : 0 ≤ h.k) (hk : h.k + 1 < n) (hf : h.last.length = h.k.toNat)
      (hy : y = { h with k := h.k + 1, last := h.last ++ [w] }) (e : snapStep b p = ({ b with hands := b.hands.set p.toNat y }, false, [], 0)) (hI : SInv { b with hands := b.hands.set p.toNat y } n i)
  | again (h0 : 0 ≤ p) (h1 : p ≤ (n : Int) - 1) (h y : SHand) (w : SWord) (hh : b.hands[p.toNat]? = some h) (hl : h.ln = 2) (hw : b.words[h.k.toNat]? = some w) (hk0 : 0 ≤ h.k) (hk : h.k + 1 = n) (hf : h.last.length = h.k.toNat) (hg : (seesGo h.first (h.last ++ [w]) 0 h.moved [] true).2.1 = false)
      (hy : y = { h with k := 0, first := h.last ++ [w], last := [], moved := (seesGo h.first (h.last ++ [w]) 0 h.moved [] true).2.2 }) (e : snapStep b p = ({ b with hands := b.hands.set p.toNat y }, false, [], 0)) (hI : SInv { b with hands := b.hands.set p.toNat y } n i)
  | saw (h0 : 0 ≤ p) (h1 : p ≤ (n : Int) - 1) (h y : SHand) (w : SWord) (hh : b.hands[p.toNat]? = some h) (hl : h.ln = 2) (hw : b.words[h.k.toNat]? = some w) (hk0 : 0 ≤ h.k) (hk : h.k + 1 = n) (hf : h.last.length = h.k.toNat) (hg : (seesGo h.first (h.last ++ [w]) 0 h.moved [] true).2.1 = true) (hwr : h.writes = true)
      (hy : y.ln = 3 ∧ y.moved = (seesGo h.first (h.last ++ [w]) 0 h.moved [] true).1 ∧ y.writes = true ∧ y.value = h.value) (e : snapStep b p = ({ b with hands := b.hands.set p.toNat y }, false, [], 0)) (hI : SInv { b with hands := b.hands.set p.toNat y } n i)
  | looked (h0 : 0 ≤ p) (h1 : p ≤ (n : Int) - 1) (h : SHand) (w : SWord) (hh : b.hands[p.toNat]? = some h) (hl : h.ln = 2) (hw : b.words[h.k.toNat]? = some w) (hk0 : 0 ≤ h.k) (hk : h.k + 1 = n) (hf : h.last.length = h.k.toNat) (hg : (seesGo h.first (h.last ++ [w]) 0 h.moved [] true).2.1 = true) (hwr : h.writes = false)
      (hsl : (seesGo h.first (h.last ++ [w]) 0 h.moved [] true).1.length = n) (e : snapStep b p = ({ b with hands := b.hands.set p.toNat shand0 }, true, (seesGo h.first (h.last ++ [w]) 0 h.moved [] true).1, 0)) (hI : SInv { b with hands := b.hands.set p.toNat shand0 } n i)
  | wrote (h0 : 0 ≤ p) (h1 : p ≤ (n : Int) - 1) (h : SHand) (w : SWord) (hh : b.hands[p.toNat]? = some h) (hl : h.ln = 3) (hw : b.words[p.toNat]? = some w) (hwr : h.writes = true)
      (e : snapStep b p = ({ words := b.words.set p.toNat ⟨h.value, w.turn + 1, h.moved⟩, hands := b.hands.set p.toNat shand0 }, true, [], 0)) (hI : SInv { words := b.words.set p.toNat ⟨h.value, w.turn + 1, h.moved⟩, hands := b.hands.set p.toNat shand0 } n (i + 1))
theorem shand0_ok (n : Nat) : SHok n shand0 := ⟨by simp [shand0], by simp [shand0], by simp [shand0]⟩
theorem SInv.idle {b : Board} {n : Nat} {i : Int} (h : SInv b n i) (q : Nat) : SInv { b with hands := b.hands.set q shand0 } n i :=
  h.hand (shand0_ok n) (by simp [shand0]) (by simp [shand0]) (by simp [shand0]) (by simp [shand0]) (by simp [shand0])
theorem SInv.step {b : Board} {n : Nat} {i : Int} (h : SInv b n i) (p : Int) : SSt b n i p := by
  by_cases h1 : ¬ (0 ≤ p ∧ p ≤ (b.hands.length : Int) - 1)
  · exact .err 1 (by decide) (by rw [snapStep, if_pos h1])
  have hh := h.h
  have hw0 := h.w
  have n0 := h.n0
  have n4 := h.n4
  obtain ⟨g, hg⟩ : ∃ g, b.hands[p.toNat]? = some g := ⟨_, List.getElem?_eq_getElem (by omega)⟩
  have hgm := List.mem_of_getElem? hg
  have hln := h.ln g hgm
  obtain ⟨a1, a2, a3⟩ := h.s g hgm
  by_cases h2 : g.ln = 0
  · exact .err 7 (by decide) (by rw [snapStep, if_neg h1, hg]; simp only; rw [if_pos h2])
  by_cases h3 : g.ln = 1
  · obtain ⟨k0, k1, kf⟩ := a1 h3
    obtain ⟨m1, m2⟩ := h.mv g hgm (.inl h3)
    obtain ⟨w, hw⟩ : ∃ w, b.words[g.k.toNat]? = some w := ⟨_, List.getElem?_eq_getElem (by omega)⟩
    have hws := h.sn w (List.mem_of_getElem? hw)
    obtain ⟨s1, s2⟩ := h.ls g hgm
    have hls : (∀ x ∈ g.first ++ [w], x.seen.length = n) ∧ ∀ x ∈ g.last, x.seen.length = n := ⟨by intro x hx; simp at hx; rcases hx with hx | rfl; exact s1 x hx; exact hws, s2⟩
    by_cases hn : g.k + 1 = (b.words.length : Int)
    · refine .first (by omega) (by omega) g { g with ln := 2, k := 0, first := g.first ++ [w] } w hg h3 hw k0 k1 kf ⟨rfl, rfl, rfl, rfl, rfl, .inl ⟨by omega, rfl, rfl⟩⟩ (by rw [snapStep, if_neg h1, hg]; simp only; rw [if_neg h2, if_pos h3, hw, Option.getD_some, if_pos hn]) ?_
      exact h.hand ⟨by simp, fun _ => ⟨by simp, by simp; omega, by simp; omega, by simp [h.e1 g hgm h3], m1, m2⟩, by simp⟩ (by simp) (fun _ => ⟨m1, m2⟩) (by simp) hls (by simp)
    · refine .first (by omega) (by omega) g { g with k := g.k + 1, first := g.first ++ [w] } w hg h3 hw k0 k1 kf ⟨rfl, rfl, rfl, rfl, rfl, .inr ⟨by omega, h3, rfl⟩⟩ (by rw [snapStep, if_neg h1, hg]; simp only; rw [if_neg h2, if_pos h3, hw, Option.getD_some, if_neg hn]) ?_
      exact h.hand ⟨fun _ => ⟨by simp; omega, by simp; omega, by simp; omega⟩, fun h => absurd h3 (by simp at h; omega), fun h => absurd h3 (by simp at h; omega)⟩ (by simp; omega) (fun _ => ⟨m1, m2⟩) (fun h => absurd h3 (by simp at h; omega)) hls (fun _ => h.e1 g hgm h3)
  by_cases h4 : g.ln = 2
  · obtain ⟨k0, k1, kf, kl, m1, m2⟩ := a2 h4
    obtain ⟨w, hw⟩ : ∃ w, b.words[g.k.toNat]? = some w := ⟨_, List.getElem?_eq_getElem (by omega)⟩
    have hws := h.sn w (List.mem_of_getElem? hw)
    obtain ⟨s1, s2⟩ := h.ls g hgm
    have s3 : ∀ x ∈ g.last ++ [w], x.seen.length = n := by intro x hx; simp at hx; rcases hx with hx | rfl; exact s2 x hx; exact hws
    by_cases hn : g.k + 1 = (b.words.length : Int)
    · have hsp := seesGo_spec g.first (g.last ++ [w]) 0 g.moved [] true (by simp; omega) (by omega) m2
      have hlen : (g.last ++ [w]).length = n := by simp; omega
      by_cases hg' : (seesGo g.first (g.last ++ [w]) 0 g.moved [] true).2.1 = true
      · have hsl : (seesGo g.first (g.last ++ [w]) 0 g.moved [] true).1.length = n := by
          rcases hsp.1 hg' with ⟨_, _, h3⟩ | ⟨j, f, l, _, b2, _, _, b5⟩
          · rw [h3]; simp; omega
          · rw [b5]; exact s3 l (List.mem_of_getElem? b2)
        by_cases hwr : g.writes = true
        · refine .saw (by omega) (by omega) g { g with k := 0, last := g.last ++ [w], ln := 3, moved := (seesGo g.first (g.last ++ [w]) 0 g.moved [] true).1 } w hg h4 hw k0 (by omega) kl hg' hwr ⟨rfl, rfl, hwr, rfl⟩ (by rw [snapStep, if_neg h1, hg]; simp only; rw [if_neg h2, if_neg h3, if_pos h4, hw, Option.getD_some, if_pos hn, if_pos hg', snapSaw, if_pos hwr]) ?_
          exact h.hand ⟨by simp, by simp, fun _ => by simp only; omega⟩ (by simp) (by simp) (fun _ => ⟨hsl, hwr⟩) ⟨s1, s3⟩ (by simp)
        · refine .looked (by omega) (by omega) g w hg h4 hw k0 (by omega) kl hg' (by simpa using hwr) hsl (by rw [snapStep, if_neg h1, hg]; simp only; rw [if_neg h2, if_neg h3, if_pos h4, hw, Option.getD_some, if_pos hn, if_pos hg', snapSaw, if_neg hwr]) (h.idle _)
      · have hgf : (seesGo g.first (g.last ++ [w]) 0 g.moved [] true).2.1 = false := by simpa using hg'
        obtain ⟨b1, b2, b3, b4⟩ := hsp.2 hgf
        refine .again (by omega) (by omega) g _ w hg h4 hw k0 (by omega) kl hgf rfl (by rw [snapStep, if_neg h1, hg]; simp only; rw [if_neg h2, if_neg h3, if_pos h4, hw, Option.getD_some, if_pos hn, if_neg hg']) ?_
        exact h.hand ⟨fun h => absurd h4 (by simp at h; omega), fun _ => ⟨by simp, by simp; omega, hlen, by simp, by simp only; omega, b2⟩, fun h => absurd h4 (by simp at h; omega)⟩ (by simp; omega) (fun _ => ⟨by simp only; omega, b2⟩) (fun h => absurd h4 (by simp at h; omega)) ⟨s3, by simp⟩ (by simp)
    · refine .last (by omega) (by omega) g _ w hg h4 hw k0 (by omega) kl rfl (by rw [snapStep, if_neg h1, hg]; simp only; rw [if_neg h2, if_neg h3, if_pos h4, hw, Option.getD_some, if_neg hn]) ?_
      exact h.hand ⟨fun h => absurd h4 (by simp at h; omega), fun _ => ⟨by simp; omega, by simp; omega, kf, by simp; omega, m1, m2⟩, fun h => absurd h4 (by simp at h; omega)⟩ (by simp; omega) (fun _ => ⟨m1, m2⟩) (fun h => absurd h4 (by simp at h; omega)) ⟨s1, s3⟩ (fun h => absurd h4 (by simp at h; omega))
  · have h5 : g.ln = 3 := by omega
    obtain ⟨m1, hwr⟩ := h.l3 g hgm h5
    obtain ⟨w, hw⟩ : ∃ w, b.words[p.toNat]? = some w := ⟨_, List.getElem?_eq_getElem (by omega)⟩
    have ht := h.t w (List.mem_of_getElem? hw)
    refine .wrote (by omega) (by omega) g w hg h5 hw hwr (by rw [snapStep, if_neg h1, hg]; simp only; rw [if_neg h2, if_neg h3, if_neg h4, if_pos h5, hw, Option.getD_some]) ?_
    have hid := h.idle p.toNat
    refine { hid with w := by simpa using hw0, t := fun x hx => ?_, sn := fun x hx => ?_ } <;> rcases mem_set_cases hx with rfl | ⟨j, _, hj⟩
    · simp only; omega
    · have := h.t x (List.mem_of_getElem? hj); omega
    · exact m1
    · exact h.sn x (List.mem_of_getElem? hj)
end Go.Proofs.YtnecppjgcbhnaaaDoor
