import Derived.Lib.LaidTab
import Derived.Test.YtnppmcgmmdcpiaaDoorBr
import Derived.Test.YtnppmcgmmdcpiaaDoorB8
import Derived.Test.YtnppmcgmmdcpiaaDoorEngJ
import Derived.Test.YtnppmcgmmdcpiaaDoorEngL
namespace Go.Proofs.YtnppmcgmmdcpiaaDoor
open Go.Eng
set_option maxRecDepth 20000
/-! ### from what is laid -/
theorem tab_of {W : World} (h : Lib.TabIs Tryd.prog W "internal/strconv.uint64pow10" .u64 Lib.pow10Tab) : ∃ T, W.shape? 1 = some (T, 20) ∧ HasTab W.cell? := by
  have hg : Tryd.prog.globalNamed "internal/strconv.uint64pow10" = some 1 := by kernel_rfl
  have h1 := fun i hi => h.cell hg i hi
  unfold Lib.TabIs World.var? at h
  rw [hg] at h
  simp only [Option.bind_some] at h
  split at h
  · rename_i arr e fz ha
    refine ⟨e, ?_, fun i hi => ?_⟩
    · simp only [World.shape?, ha]
      rw [Option.some.inj h]
      simp [Lib.pow10Tab]
    · have := h1 i (by rw [Lib.pow10Tab_length]; exact hi)
      rw [Lib.pow10Tab_at i hi] at this
      exact this
  · cases h
theorem law_sh {P : Program} {f : FuncId} {args : Array Value} {W : World} {T : Nat} (h : SemCall P f args ⟨[shE 1 T 20], W.cell?⟩ (fun v _ => v = .bool true)) (hs : W.shape? 1 = some (T, 20)) : Calls P f args W fun e W' => e = .returned (.bool true) ∧ Go.RowKit.Below W.heap.size W W' := by
  obtain ⟨hh, _⟩ := holds_sh (own := []) (holds_start W) hs
  refine (h W hh).mono ?_
  rintro e W' ⟨v, h', rfl, _, hf, rfl⟩
  refine ⟨rfl, hf.os, hf.tape, hf.output, hf.size, fun r hr => hf.keep r hr (fun e he => ?_)⟩
  simp only [List.nil_append, List.mem_singleton] at he
  subst he
  exact fun h => nomatch h
open Go.ChangeShapes Go.WideShapes Go.ChangeAt Go.RowKit Go.WideElems Go.Deep in
theorem in_int_rowsC {K : Type} {enc : TypeId × Value → K} {P : Program} {W : World} {t e q : TypeId} {v : Value} {d : DataW K} {ps : List MemPlace} (ht : P.underlying t = some (.slice e)) (he : P.underlying e = some (.slice q)) (hq : P.underlying q = some (.int .i64)) (ce : P.cellsOf e = 1) (cq : P.cellsOf q = 1) (hv : Value.okWide P W .any 0 t v) (h : DataW.Trod enc P W 0 (fun _ => true) true t v d ps) :
    ∃ (s : SV) (rows : List (SV × List Int)), v = .slice s.a s.len s.cap ∧ RdRowsOf ⟨[], W.cell?⟩ s rows ∧ (∀ r ∈ rows, ∀ x ∈ r.2, In64 x) ∧ s.len ≤ maxLen ∧ (∀ r ∈ rows, r.1.len ≤ maxLen) ∧ ∀ r ∈ rows, r.1.len ≤ r.1.cap := by
  obtain ⟨a0, len, cap, rfl⟩ := okWide_slice ht hv
  obtain ⟨fuel, hf⟩ := h
  have hcs0 : (Value.slice a0 len cap).cells.toList = [.slice a0 len cap] := rfl
  rcases open_int_rows ht he hq ce cq hf with ⟨hcs, hx⟩ | ⟨a, len', cap', A, L, C, Z, hcs, _, hl, hm, hx, hr⟩
  · rw [hcs0] at hcs
    injection hcs with h1 _
    injection h1 with h1 h2 h3
    subst h1; subst h2; subst h3
    exact ⟨⟨none, 0, 0⟩, [], rfl, ⟨⟨rfl, fun _ => rfl, fun b hb => nomatch hb⟩, by simp⟩, by simp, Nat.zero_le _, by simp, by simp⟩
  · rw [hcs0] at hcs
    injection hcs with h1 _
    injection h1 with h1 h2 h3
    subst h1; subst h2; subst h3
    refine ⟨⟨some a, len, cap⟩, (List.range len).map fun r => (⟨A r, L r, C r⟩, (Z r).take (L r)), rfl, ⟨⟨by simp, (fun h => nomatch h), ?_⟩, ?_⟩, ?_, Nat.le_trans hl hm, ?_, ?_⟩
    · intro b hb i v hv
      cases hb
      simp only [List.map_map, List.getElem?_map, Option.map_eq_some_iff, Function.comp] at hv
      obtain ⟨r, hr1, rfl⟩ := hv
      obtain ⟨hi, rfl⟩ := List.getElem?_eq_some_iff.1 hr1
      simp only [List.length_range] at hi
      simp only [List.getElem_range]
      exact rd_cell (hr i (by omega)).1
    · intro r hr1
      simp only [List.mem_map, List.mem_range] at hr1
      obtain ⟨i, hi, rfl⟩ := hr1
      obtain ⟨_, g2, g3, g4, g5, g6, g7⟩ := hr i (by omega)
      refine ⟨?_, fun hn => ?_, ?_⟩
      · simp [g4, g2]
      · have := g6 hn
        show L i = 0
        omega
      · intro b hb j v hv
        rw [ints_get, Option.map_eq_some_iff] at hv
        obtain ⟨n, hn, rfl⟩ := hv
        have hj : j < L i := by have := (List.getElem?_eq_some_iff.1 hn).1; simp at this; omega
        rw [List.getElem?_take_of_lt hj] at hn
        have := (g7 b hb).2 j (by omega)
        rw [List.getD_eq_getElem?_getD, hn] at this
        exact rd_cell this
    · intro r hr1 x hx
      simp only [List.mem_map, List.mem_range] at hr1
      obtain ⟨i, hi, rfl⟩ := hr1
      obtain ⟨_, g2, g3, g4, g5, g6, g7⟩ := hr i (by omega)
      have hw := g5 x (List.mem_of_mem_take hx)
      simp only [Lit.wf, Bool.and_eq_true, decide_eq_true_eq] at hw
      have e1 : IntKind.i64.min = -9223372036854775808 := by decide
      have e2 : IntKind.i64.max = 9223372036854775807 := by decide
      exact ⟨by omega, by omega⟩
    · intro r hr1
      simp only [List.mem_map, List.mem_range] at hr1
      obtain ⟨i, hi, rfl⟩ := hr1
      obtain ⟨_, g2, g3, g4, g5, g6, g7⟩ := hr i (by omega)
      exact Nat.le_trans g2 g3
    · intro r hr1
      simp only [List.mem_map, List.mem_range] at hr1
      obtain ⟨i, hi, rfl⟩ := hr1
      obtain ⟨_, g2, g3, g4, g5, g6, g7⟩ := hr i (by omega)
      exact g2
end Go.Proofs.YtnppmcgmmdcpiaaDoor
