import Derived.Test.YtnppmcgmmdcpiaaGreatDoorEngL
import Derived.Deep.Strs
/- The engine, thirteenth part: a struct of a slice and two slices of slices that came in. -/
namespace Go.Eng
open Go.ChangeShapes Go.WideShapes Go.ChangeAt Go.RowKit Go.WideElems Go.Deep
section
variable {K : Type} {enc : TypeId × Value → K} {P : Program} {W : World} {t e q : TypeId} {v : Value} {d : DataW K} {ps : List MemPlace}
theorem trod_is_slice {fuel : Nat} {cs : List Value} {x : DataW K × List MemPlace} (ht : P.underlying t = some (.slice e)) (h : DataW.trod enc P W 0 (fun _ => true) true fuel t cs = some x) : ∃ a len cap, cs = [.slice a len cap] := by
  rcases DataW.trod_slice ht h with ⟨h1, _⟩ | ⟨a, len, cap, _, _, _, _, h1, _⟩
  · exact ⟨_, _, _, h1⟩
  · exact ⟨_, _, _, h1⟩
theorem in_ints_v {fuel : Nat} {cs : List Value} {x : DataW K × List MemPlace} (ht : P.underlying t = some (.slice e)) (he : P.underlying e = some (.int .i64)) (hc : P.cellsOf e = 1) (hf : DataW.trod enc P W 0 (fun _ => true) true fuel t cs = some x) :
    ∃ (s : SV) (xs : List Int), cs = [svV s] ∧ RdSl ⟨[], W.cell?⟩ s (ints xs) ∧ (∀ x ∈ xs, In64 x) ∧ s.len ≤ maxLen := by
  rcases open_ints ht he hc hf with ⟨hcs, hx⟩ | ⟨a, len, cap, zs, hcs, _, hl, hm, hz, hx, hcell, hwz⟩
  · exact ⟨⟨none, 0, 0⟩, [], hcs, ⟨rfl, fun _ => rfl, fun b hb => nomatch hb⟩, by simp, Nat.zero_le _⟩
  · simp only [if_true] at hz
    refine ⟨⟨some a, len, cap⟩, zs.take len, hcs, ⟨?_, (fun h => nomatch h), ?_⟩, ?_, Nat.le_trans hl hm⟩
    · simp [hz, hl]
    · intro b hb i v hv
      cases hb
      rw [ints_get, Option.map_eq_some_iff] at hv
      obtain ⟨n, hn, rfl⟩ := hv
      have hi : i < len := by have := (List.getElem?_eq_some_iff.1 hn).1; simp at this; omega
      rw [List.getElem?_take_of_lt hi] at hn
      have := hcell i (by omega)
      rw [List.getD_eq_getElem?_getD, hn] at this
      exact rd_cell this
    · intro x hx
      have hw := hwz x (List.mem_of_mem_take hx)
      simp only [Lit.wf, Bool.and_eq_true, decide_eq_true_eq] at hw
      have e1 : IntKind.i64.min = -9223372036854775808 := by decide
      have e2 : IntKind.i64.max = 9223372036854775807 := by decide
      exact ⟨by omega, by omega⟩
theorem in_int_rows_v {fuel : Nat} {cs : List Value} {x : DataW K × List MemPlace} (ht : P.underlying t = some (.slice e)) (he : P.underlying e = some (.slice q)) (hq : P.underlying q = some (.int .i64)) (ce : P.cellsOf e = 1) (cq : P.cellsOf q = 1) (hf : DataW.trod enc P W 0 (fun _ => true) true fuel t cs = some x) :
    ∃ (s : SV) (rows : List (SV × List Int)), cs = [svV s] ∧ RdRowsOf ⟨[], W.cell?⟩ s rows ∧ (∀ r ∈ rows, ∀ x ∈ r.2, In64 x) ∧ s.len ≤ maxLen ∧ ∀ r ∈ rows, r.1.len ≤ maxLen := by
  rcases open_int_rows ht he hq ce cq hf with ⟨hcs, hx⟩ | ⟨a, len, cap, A, L, C, Z, hcs, _, hl, hm, hx, hr⟩
  · exact ⟨⟨none, 0, 0⟩, [], hcs, ⟨⟨rfl, fun _ => rfl, fun b hb => nomatch hb⟩, by simp⟩, by simp, Nat.zero_le _, by simp⟩
  · refine ⟨⟨some a, len, cap⟩, (List.range len).map fun r => (⟨A r, L r, C r⟩, (Z r).take (L r)), hcs, ⟨⟨by simp, (fun h => nomatch h), ?_⟩, ?_⟩, ?_, Nat.le_trans hl hm, ?_⟩
    · intro b hb i v hv
      cases hb
      simp only [List.map_map, List.getElem?_map, Option.map_eq_some_iff, Function.comp] at hv
      obtain ⟨r, hr1, rfl⟩ := hv
      obtain ⟨hi, rfl⟩ := List.getElem?_eq_some_iff.1 hr1
      simp only [List.length_range] at hi
      simp only [List.getElem_range]
      exact rd_cell (hr i (by omega)).1
    · intro r hr1
      simp only [List.mem_map, List.mem_range] at hr1
      obtain ⟨i, hi, rfl⟩ := hr1
      obtain ⟨_, g2, g3, g4, g5, g6, g7⟩ := hr i (by omega)
      refine ⟨?_, fun hn => ?_, ?_⟩
      · simp [g4, g2]
      · have := g6 hn
        show L i = 0
        omega
      · intro b hb j v hv
        rw [ints_get, Option.map_eq_some_iff] at hv
        obtain ⟨n, hn, rfl⟩ := hv
        have hj : j < L i := by have := (List.getElem?_eq_some_iff.1 hn).1; simp at this; omega
        rw [List.getElem?_take_of_lt hj] at hn
        have := (g7 b hb).2 j (by omega)
        rw [List.getD_eq_getElem?_getD, hn] at this
        exact rd_cell this
    · intro r hr1 x hx
      simp only [List.mem_map, List.mem_range] at hr1
      obtain ⟨i, hi, rfl⟩ := hr1
      obtain ⟨_, g2, g3, g4, g5, g6, g7⟩ := hr i (by omega)
      have hw := g5 x (List.mem_of_mem_take hx)
      simp only [Lit.wf, Bool.and_eq_true, decide_eq_true_eq] at hw
      have e1 : IntKind.i64.min = -9223372036854775808 := by decide
      have e2 : IntKind.i64.max = 9223372036854775807 := by decide
      exact ⟨by omega, by omega⟩
    · intro r hr1
      simp only [List.mem_map, List.mem_range] at hr1
      obtain ⟨i, hi, rfl⟩ := hr1
      obtain ⟨_, g2, g3, g4, g5, g6, g7⟩ := hr i (by omega)
      exact Nat.le_trans g2 g3
theorem in_three {f0 f1 f2 : Field} (ht : P.underlying t = some (.struct #[f0, f1, f2])) (ho : f0.offset = 0 ∧ f1.offset = 1 ∧ f2.offset = 2) (hc : P.cellsOf t = 3) (h0 : P.cellsOf f0.type = 1) (h1 : P.cellsOf f1.type = 1) (h2 : P.cellsOf f2.type = 1) (e12 : f2.type = f1.type)
    (u0 : P.underlying f0.type = some (.slice e)) (ue : P.underlying e = some (.int .i64)) (ce : P.cellsOf e = 1) (u1 : P.underlying f1.type = some (.slice f0.type))
    (hv : Value.okWide P W .any 0 t v) (h : DataW.Trod enc P W 0 (fun _ => true) true t v d ps) :
    ∃ (s sc sh : SV) (xs : List Int) (rc rh : List (SV × List Int)), v = .agg (List.toArray [svV s, svV sc, svV sh]) ∧ RdSl ⟨[], W.cell?⟩ s (ints xs) ∧ RdRowsOf ⟨[], W.cell?⟩ sc rc ∧ RdRowsOf ⟨[], W.cell?⟩ sh rh := by
  obtain ⟨cs, rfl, hcs⟩ := okWide_struct ht hv
  obtain ⟨fuel, hf⟩ := h
  obtain ⟨y0, y1, y2, n, _, hl, g0, g1, g2⟩ := trod_struct3 ht hf
  obtain ⟨o0, o1, o2⟩ := ho
  rw [o0, h0] at g0
  rw [o1, h1] at g1
  rw [o2, h2, e12] at g2
  have hl : cs.toList.length = 3 := by rw [← hc]; simpa using hcs
  have ecells : (Value.agg cs).cells.toList = cs.toList := rfl
  rw [ecells] at g0 g1 g2
  obtain ⟨a, b, c, habc⟩ : ∃ a b c, cs.toList = [a, b, c] := by
    match h : cs.toList, hl with
    | [a, b, c], _ => exact ⟨a, b, c, rfl⟩
  rw [habc] at g0 g1 g2
  simp only [List.drop_zero, List.take_succ_cons, List.take_zero, List.drop_succ_cons] at g0 g1 g2
  obtain ⟨s, xs, s1, s2, _, _⟩ := in_ints_v u0 ue ce g0
  obtain ⟨sc, rc, c1, c2, _, _, _⟩ := in_int_rows_v u1 u0 ue h0 ce g1
  obtain ⟨sh, rh, d1, d2, _, _, _⟩ := in_int_rows_v u1 u0 ue h0 ce g2
  refine ⟨s, sc, sh, xs, rc, rh, ?_, s2, c2, d2⟩
  cases s1; cases c1; cases d1
  rw [← habc]
end
end Go.Eng
