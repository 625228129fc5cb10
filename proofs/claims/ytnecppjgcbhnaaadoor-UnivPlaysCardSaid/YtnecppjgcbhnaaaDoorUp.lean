import Derived.Test.YtnecppjgcbhnaaaDoorUl
import Derived.Test.YtnecppjgcbhnaaaDoorUv
namespace Go.Proofs.YtnecppjgcbhnaaaDoor
open Go.Eng
set_option maxRecDepth 20000
/-! ### the document's row beside the program's -/
structure UpR (u : Univ) (m : Nat) (adds cells ats deeds cellz : List Int) : Prop where
  a : adds = u.deeds.map Prod.snd
  c : cells = (u.cells.take m).map (· - 1)
  t : ats = u.hands.map UHand.ln
  nd : deeds.length = u.hands.length
  nc : cellz.length = u.hands.length
  h : ∀ (q : Nat) h, u.hands[q]? = some h → h.ln ≠ 0 → deeds[q]? = some (h.deed - 1) ∧ cellz[q]? = some h.cell
theorem gI_ln {u : Univ} {q : Nat} {h : UHand} (hh : u.hands[q]? = some h) : gI (u.hands.map UHand.ln) q = h.ln := gI_of (by rw [List.getElem?_map, hh]; rfl)
theorem set_map_ln {u : Univ} {q : Nat} {g : UHand} : (u.hands.map UHand.ln).set q g.ln = (u.hands.set q g).map UHand.ln := by rw [List.map_set]
theorem ub_eq {u : Univ} {p add : Int} : refUBegin (u.deeds.map Prod.snd) (u.hands.map UHand.ln) p add = (if u.deeds.length > 40 then refUBegin (u.deeds.map Prod.snd) (u.hands.map UHand.ln) p add else (univBegin u p add).2) := by
  split
  · rfl
  rename_i hd
  unfold refUBegin univBegin
  rw [List.length_map, List.length_map]
  by_cases h1 : ¬ (0 ≤ p ∧ p ≤ (u.hands.length : Int) - 1) ∨ ¬ (0 ≤ add ∧ add ≤ 1000)
  · rw [if_pos h1, if_pos h1]
  rw [if_neg h1, if_neg h1]
  obtain ⟨g, hg⟩ : ∃ g, u.hands[p.toNat]? = some g := ⟨_, List.getElem?_eq_getElem (by omega)⟩
  rw [hg, gI_ln hg]
  dsimp only
  by_cases h2 : g.ln ≠ 0
  · rw [if_pos h2, if_pos h2]
  rw [if_neg h2, if_neg h2]
  by_cases h3 : u.deeds.length = 40
  · rw [if_pos (by omega), if_pos h3]
  · rw [if_neg (by omega), if_neg h3]
theorem up_begin {u : Univ} {m : Nat} {adds cells ats deeds cellz : List Int} {p add : Int} (I : UInv u m) (R : UpR u m adds cells ats deeds cellz) :
    refUBegin adds ats p add = (univBegin u p add).2 ∧ UInv (univBegin u p add).1 m ∧
    (if refUBegin adds ats p add = 0 then UpR (univBegin u p add).1 m (adds ++ [add]) cells (ats.set p.toNat 1) (deeds.set p.toNat adds.length) (cellz.set p.toNat 0) else UpR (univBegin u p add).1 m adds cells ats deeds cellz) := by
  obtain ⟨ra, rc, rt, nd, nc, rh⟩ := R
  have e : refUBegin adds ats p add = (univBegin u p add).2 := by
    have := ub_eq (u := u) (p := p) (add := add)
    rw [if_neg (by have := I.d; omega)] at this
    rw [ra, rt]; exact this
  refine ⟨e, ?_⟩
  rw [e]
  cases I.begin p add with
  | err k hk e => rw [e]; exact ⟨I, by rw [if_neg hk]; exact ⟨ra, rc, rt, nd, nc, rh⟩⟩
  | ok h0 h1 a0 h hh hl e hI =>
    rw [e]
    refine ⟨hI, ?_⟩
    rw [if_pos rfl]
    refine ⟨by rw [ra]; simp, rc, ?_, by simpa using nd, by simpa using nc, fun q g hg g0 => ?_⟩
    · rw [rt]; exact set_map_ln (g := ⟨1, u.deeds.length + 1, 0, 0⟩)
    · rcases set_cases hg with ⟨rfl, rfl⟩ | ⟨hne, hg'⟩
      · refine ⟨?_, ?_⟩
        · rw [List.getElem?_set_self (by omega), ra, List.length_map]; simp
        · rw [List.getElem?_set_self (by omega)]
      · rw [List.getElem?_set_ne (Ne.symm hne), List.getElem?_set_ne (Ne.symm hne)]
        exact rh q g hg' g0
theorem bsum_usum {u : Univ} {m : Nat} (I : UInv u m) : ∀ k : Nat, k ≤ m → bsum (u.deeds.map Prod.snd) ((u.cells.take m).map (· - 1)) k = usum u.deeds u.cells k
  | 0, _ => rfl
  | k + 1, hk => by
    rw [bsum, usum, bsum_usum I k (by omega)]
    have hc := I.c
    have hm := I.m1
    obtain ⟨x, hx⟩ : ∃ x, u.cells[k]? = some x := ⟨_, List.getElem?_eq_getElem (by omega)⟩
    have hz := I.z0 k x hx (by omega)
    have g1 : gI ((u.cells.take m).map (· - 1)) k = x - 1 := gI_of (by rw [List.getElem?_map, List.getElem?_take, if_pos (by omega), hx]; rfl)
    rw [g1, hx]
    unfold uadd gI
    rw [List.getElem?_map]
    simp only [Option.getD_some]
    cases u.deeds[(x - 1).toNat]? <;> rfl
theorem up_step {u : Univ} {m : Nat} {adds cells ats deeds cellz : List Int} {p : Int} (I : UInv u m) (R : UpR u m adds cells ats deeds cellz) :
    ∃ m', UInv (univStep u p).1 m' ∧ (refUStep adds cells ats deeds cellz p).2 = (univStep u p).2 ∧ UpR (univStep u p).1 m' adds (refUStep adds cells ats deeds cellz p).1.1 (refUStep adds cells ats deeds cellz p).1.2.1 deeds (refUStep adds cells ats deeds cellz p).1.2.2 := by
  obtain ⟨ra, rc, rt, nd, nc, rh⟩ := R
  have hm1 := I.m1
  have hcl := I.c
  have lc : cells.length = m := by rw [rc, List.length_map, List.length_take]; omega
  have lt : ats.length = u.hands.length := by rw [rt, List.length_map]
  have gt : ∀ {q h}, u.hands[q]? = some h → gI ats q = h.ln := fun hh => by rw [rt]; exact gI_ln hh
  have gc : ∀ {k : Nat} {x : Int}, k < m → u.cells[k]? = some x → gI cells k = x - 1 := fun hk hx => gI_of (by rw [rc, List.getElem?_map, List.getElem?_take, if_pos hk, hx]; rfl)
  have hset : ∀ {q : Nat} {g : UHand} {d2 c2 : List Int}, (∀ (k : Nat) h, k ≠ q → u.hands[k]? = some h → h.ln ≠ 0 → d2[k]? = some (h.deed - 1) ∧ c2[k]? = some h.cell) → (g.ln ≠ 0 → d2[q]? = some (g.deed - 1) ∧ c2[q]? = some g.cell) →
      ∀ (k : Nat) h, (u.hands.set q g)[k]? = some h → h.ln ≠ 0 → d2[k]? = some (h.deed - 1) ∧ c2[k]? = some h.cell := by
    intro q g d2 c2 h1 h2 k h hg h0
    rcases set_cases hg with ⟨rfl, rfl⟩ | ⟨hne, hg'⟩
    · exact h2 h0
    · exact h1 k h hne hg' h0
  cases I.step p with
  | err k hk hw e =>
    refine ⟨m, by rw [e]; exact I, ?_⟩
    by_cases h1 : ¬ (0 ≤ p ∧ p ≤ (u.hands.length : Int) - 1)
    · have e2 : univStep u p = (u, false, 0, 1) := by unfold univStep; rw [if_pos h1]
      unfold refUStep
      rw [e2, lt, if_pos h1]
      exact ⟨rfl, ra, rc, rt, nd, nc, rh⟩
    · obtain ⟨g, hg, hl⟩ := hw.resolve_left h1
      have e2 : univStep u p = (u, false, 0, 7) := by unfold univStep; rw [if_neg h1, hg]; dsimp only; rw [if_pos hl]
      unfold refUStep
      rw [e2, lt, if_neg h1, gt hg, if_pos hl]
      exact ⟨rfl, ra, rc, rt, nd, nc, rh⟩
  | put h0 h1 h hh hl hc e hI =>
    obtain ⟨q1, q2⟩ := rh _ h hh (by omega)
    refine ⟨m + 1, by rw [e]; exact hI, ?_⟩
    unfold refUStep
    rw [e, lt, if_neg (not_not_intro ⟨h0, h1⟩), gt hh, if_neg (by omega), if_pos hl, gI_of q1, gI_of q2, lc, if_pos hc]
    refine ⟨rfl, ra, ?_, ?_, by simpa using nd, by simpa using nc, hset (fun k h _ => rh k h) (fun _ => ⟨q1, q2⟩)⟩
    · have hmd := hI.m1
      rw [rc, List.take_add_one, List.getElem?_set_self (by omega), List.take_set_of_le (by omega)]
      simp
    · rw [rt]; exact set_map_ln (g := { h with ln := 2 })
  | late h0 h1 h hh hl hc e hI =>
    obtain ⟨q1, q2⟩ := rh _ h hh (by omega)
    refine ⟨m, by rw [e]; exact hI, ?_⟩
    unfold refUStep
    rw [e, lt, if_neg (not_not_intro ⟨h0, h1⟩), gt hh, if_neg (by omega), if_pos hl, gI_of q1, gI_of q2, lc, if_neg (by omega)]
    exact ⟨rfl, ra, rc, by rw [rt]; exact set_map_ln (g := { h with ln := 2 }), by simpa using nd, by simpa using nc, hset (fun k h _ => rh k h) (fun _ => ⟨q1, q2⟩)⟩
  | next h0 h1 h g hh hl hc hne hg e hI =>
    obtain ⟨q1, q2⟩ := rh _ h hh (by omega)
    have c0 := (I.ha h (List.mem_of_getElem? hh) (by omega)).c0
    obtain ⟨x, hx⟩ : ∃ x, u.cells[h.cell.toNat]? = some x := ⟨_, List.getElem?_eq_getElem (by omega)⟩
    refine ⟨m, by rw [e]; exact hI, ?_⟩
    unfold refUStep
    rw [e, lt, if_neg (not_not_intro ⟨h0, h1⟩), gt hh, if_neg (by omega), if_neg (by omega), gI_of q1, gI_of q2, gc (by omega) hx, if_neg (fun hc => hne (by rw [hx]; congr 1; omega))]
    refine ⟨rfl, ra, rc, ?_, by simpa using nd, by simpa using nc, hset (fun k y hk hy y0 => ?_) (fun _ => ⟨?_, ?_⟩)⟩
    · rw [rt, ← hg.1]; exact set_map_ln (g := g)
    · rw [List.getElem?_set_ne (Ne.symm hk)]; exact rh k y hy y0
    · rw [hg.2.1]; exact q1
    · rw [List.getElem?_set_self (by omega), hg.2.2]
  | done h0 h1 h hh hl hc hd hs e hI =>
    obtain ⟨q1, q2⟩ := rh _ h hh (by omega)
    have c0 := (I.ha h (List.mem_of_getElem? hh) (by omega)).c0
    refine ⟨m, by rw [e]; exact hI, ?_⟩
    unfold refUStep
    rw [e, lt, if_neg (not_not_intro ⟨h0, h1⟩), gt hh, if_neg (by omega), if_neg (by omega), gI_of q1, gI_of q2, gc (by omega) hd, if_pos rfl]
    refine ⟨?_, ra, rc, by rw [rt]; exact set_map_ln (g := ⟨0, 0, 0, 0⟩), by simpa using nd, by simpa using nc, hset (fun k h _ => rh k h) (fun h => absurd rfl h)⟩
    dsimp only
    rw [ra, rc, bsum_usum I _ (by omega), hs]
theorem order_take {m : Nat} : ∀ {l : List Int}, (∀ (i : Nat) x, l[i]? = some x → i < m → 1 ≤ x) → (∀ (i : Nat) x, l[i]? = some x → m ≤ i → x = 0) → univOrder l = (l.take m).map (· - 1)
  | [], _, _ => by simp [univOrder]
  | x :: l, h0, h1 => by
    unfold univOrder
    cases m with
    | zero => rw [if_pos (h1 0 x rfl (by omega))]; simp
    | succ m =>
      rw [if_neg (by have := h0 0 x rfl (by omega); omega)]
      rw [order_take (m := m) (fun i x hx hi => h0 (i + 1) x (by simpa using hx) (by omega)) (fun i x hx hi => h1 (i + 1) x (by simpa using hx) (by omega))]
      simp
end Go.Proofs.YtnecppjgcbhnaaaDoor
