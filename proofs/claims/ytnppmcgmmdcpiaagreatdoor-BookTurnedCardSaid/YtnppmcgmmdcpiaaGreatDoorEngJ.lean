import Derived.Test.YtnppmcgmmdcpiaaGreatDoorEngI
import Derived.ProofKit
import Derived.Deep.Matrix
/- The engine, tenth part: laws closed: what came in is read, and is as it was. -/
namespace Go.Eng
open Go.ChangeShapes Go.WideShapes Go.ChangeAt Go.RowKit Go.WideElems Go.Deep

theorem Below.trodAll {K : Type} {enc : TypeId × Value → K} {P : Program} (hl : laidOutB P = true) {W W' : World} (hb : Below W.heap.size W W') :
    ∀ {ts : List TypeId} {vs : List Value} {ds : List (DataW K)} {ps : List MemPlace}, (ts.all fun t => P.readableRec t && decide (t < P.types.size)) = true → DataW.TrodAll enc P W 0 (fun _ => true) true ts vs ds ps →
      (∀ x ∈ ps, x.block < W.heap.size) → DataW.TrodAll enc P W' 0 (fun b => decide (b < W.heap.size)) true ts vs ds ps
  | [], _, _, _, _, h, _ => by
    obtain ⟨rfl, rfl, rfl⟩ := trodAll_nil h
    rfl
  | t :: ts, _, _, _, ht, h, hp => by
    obtain ⟨v, vs1, d, ds1, a, b, rfl, rfl, rfl, h1, h2⟩ := trodAll_cons h
    simp only [List.all_cons, Bool.and_eq_true, decide_eq_true_eq] at ht
    exact ⟨a, b, Below.trod hl ht.1.1 ht.1.2 h1 hb (fun x hx => hp x (by simp [hx])), Below.trodAll hl hb (by simpa using ht.2) h2 (fun x hx => hp x (by simp [hx])), rfl⟩

theorem law_post {K : Type} {enc : TypeId × Value → K} {P : Program} {f : Func} {s : ChangeSpec} {apart : Bool} {W W' : World} {args : Array Value} {ds gs : List (DataW K)} {before : List MemPlace} {T : TypeId}
    (hl : laidOutB P = true) (hts : (f.params.toList.all fun t => P.readableRec t && decide (t < P.types.size)) = true) (hv : s.vars = []) (hfn : (s.fn K (ds ++ gs)).results = [.lit (.bool true)] ∧ (s.fn K (ds ++ gs)).args = ds ∧ (s.fn K (ds ++ gs)).vars = [])
    (hr : f.resultTypes = #[T]) (hT : P.underlying T = some .bool)
    (hW : DataW.Whole enc P f.params.toList s.vars apart W args.toList ds gs before) (hb : Below W.heap.size W W') : s.post enc P f apart true false false W args (.bool true) W' := by
  have hlt : ∀ x ∈ before, x.block < W.heap.size := fun x hx => hW.lt x hx
  have hW' := hW
  obtain ⟨p, q, hA, hV, rfl, _, _⟩ := hW'
  rw [hv] at hV
  obtain ⟨rfl, rfl⟩ := trodVars_none hV
  simp only [List.append_nil] at hlt hW hfn
  refine ⟨ds, [], p, [], p, [], hW, ?_, ?_, ?_, ?_, fun h => nomatch h⟩
  · rw [List.append_nil, hfn.1, hr]
    exact ⟨[], [], shut_bool hT true, rfl, rfl⟩
  · rw [List.append_nil, hfn.2.1]
    exact Below.trodAll hl hb hts hA hlt
  · rw [List.append_nil, hfn.2.2, hv]
    rfl
  · refine ⟨hb.os, hb.output, fun i hi => ?_⟩
    rw [hb.block i hi]
    cases W.heap[i]? with
    | none => rfl
    | some o => cases o <;> simp

theorem holds_start (W : World) : Holds W ⟨[], W.cell?⟩ := ⟨by simp, by simp, fun _ _ h => h, by simp⟩

theorem SemCall.law {P : Program} {f : FuncId} {args : Array Value} {W : World} (h : SemCall P f args ⟨[], W.cell?⟩ (fun v _ => v = .bool true)) : Calls P f args W fun e W' => e = .returned (.bool true) ∧ Below W.heap.size W W' := by
  refine (h W (holds_start W)).mono ?_
  rintro e W' ⟨v, h', rfl, _, hf, rfl⟩
  exact ⟨rfl, hf.os, hf.tape, hf.output, hf.size, fun r hr => hf.keep r hr (by simp)⟩

/-! ### what came in -/

theorem cell_spot {W : World} {a : Addr} {v : Value} (h : W.cell? a = some v) : a.spot = none := by
  simp only [World.cell?] at h
  split at h
  · split at h
    · cases h
    · rename_i hs; simpa using hs
  · cases h

theorem rd_cell {W : World} {a : Addr} {v : Value} (h : W.cell? a = some v) : H.rd ⟨[], W.cell?⟩ a v := ⟨cell_spot h, .inr h⟩

section
variable {K : Type} {enc : TypeId × Value → K} {P : Program} {W : World} {t e q : TypeId} {v : Value} {d : DataW K} {ps : List MemPlace}

theorem in_int (ht : P.underlying t = some (.int .i64)) (hv : Value.okWide P W .any 0 t v) (h : DataW.Trod enc P W 0 (fun _ => true) true t v d ps) : ∃ n : Int, v = .int .i64 n ∧ In64 n := by
  obtain ⟨n, rfl, _, _, hw⟩ := open_int ht hv h
  refine ⟨n, rfl, ?_⟩
  simp only [Lit.wf, Bool.and_eq_true, decide_eq_true_eq] at hw
  have e1 : IntKind.i64.min = -9223372036854775808 := by decide
  have e2 : IntKind.i64.max = 9223372036854775807 := by decide
  exact ⟨by omega, by omega⟩

theorem in_ints (ht : P.underlying t = some (.slice e)) (he : P.underlying e = some (.int .i64)) (hc : P.cellsOf e = 1) (hv : Value.okWide P W .any 0 t v) (h : DataW.Trod enc P W 0 (fun _ => true) true t v d ps) :
    ∃ (s : SV) (xs : List Int), v = .slice s.a s.len s.cap ∧ RdSl ⟨[], W.cell?⟩ s (ints xs) ∧ (∀ x ∈ xs, In64 x) ∧ s.len ≤ maxLen := by
  obtain ⟨a0, len, cap, rfl⟩ := okWide_slice ht hv
  obtain ⟨fuel, hf⟩ := h
  rcases open_ints ht he hc hf with ⟨hcs, hx⟩ | ⟨a, len', cap', zs, hcs, _, hl, hm, hz, hx, hcell, hwz⟩
  · have : (Value.slice a0 len cap).cells.toList = [.slice a0 len cap] := rfl
    rw [this] at hcs
    injection hcs with h1 _
    injection h1 with h1 h2 h3
    subst h1; subst h2; subst h3
    exact ⟨⟨none, 0, 0⟩, [], rfl, ⟨rfl, fun _ => rfl, fun b hb => nomatch hb⟩, by simp, Nat.zero_le _⟩
  · have : (Value.slice a0 len cap).cells.toList = [.slice a0 len cap] := rfl
    rw [this] at hcs
    injection hcs with h1 _
    injection h1 with h1 h2 h3
    subst h1; subst h2; subst h3
    simp only [if_true] at hz
    refine ⟨⟨some a, len, cap⟩, zs.take len, rfl, ⟨?_, (fun h => nomatch h), ?_⟩, ?_, Nat.le_trans hl hm⟩
    · simp [hz, hl]
    · intro b hb i v hv
      cases hb
      rw [ints_get, Option.map_eq_some_iff] at hv
      obtain ⟨n, hn, rfl⟩ := hv
      have hi : i < len := by have := (List.getElem?_eq_some_iff.1 hn).1; simp at this; omega
      rw [List.getElem?_take_of_lt hi] at hn
      have := hcell i (by omega)
      rw [List.getD_eq_getElem?_getD, hn] at this
      exact rd_cell this
    · intro x hx
      have hw := hwz x (List.mem_of_mem_take hx)
      simp only [Lit.wf, Bool.and_eq_true, decide_eq_true_eq] at hw
      have e1 : IntKind.i64.min = -9223372036854775808 := by decide
      have e2 : IntKind.i64.max = 9223372036854775807 := by decide
      exact ⟨by omega, by omega⟩

/-- rows of ints that are read -/
def RdRowsOf (h : H) (s : SV) (rows : List (SV × List Int)) : Prop :=
  RdSl h s (rows.map fun r => .slice r.1.a r.1.len r.1.cap) ∧ ∀ r ∈ rows, RdSl h r.1 (ints r.2)

theorem RdRowsOf.mono {h h2 : H} {s : SV} {rows : List (SV × List Int)} (r : RdRowsOf h s rows) (hs : ∀ e ∈ h.own, e ∈ h2.own) (hr : ∀ a v, h.ro a = some v → h2.ro a = some v) : RdRowsOf h2 s rows :=
  ⟨r.1.mono hs hr, fun x hx => (r.2 x hx).mono hs hr⟩
theorem RdRowsOf.idx {h : H} {s : SV} {rows : List (SV × List Int)} (r : RdRowsOf h s rows) {i : Int} (h0 : 0 ≤ i) (h1 : i < ((s.len : Nat) : Int)) {K : SV → Prop} (hK : ∀ (t : SV) (xs : List Int), rows[i.toNat]? = some (t, xs) → RdSl h t (ints xs) → K t) :
    ∃ b : Addr, s.a = some b ∧ 0 ≤ i ∧ i < ((s.len : Nat) : Int) ∧ ∃ x : SV, H.rd h (Addr.add (Addr.add b (i.toNat * 1)) 0) (Value.slice x.a x.len x.cap) ∧ K x := by
  have hl := r.1.len
  rw [List.length_map] at hl
  have hx : i.toNat < rows.length := by omega
  obtain ⟨b, hb⟩ := r.1.addr (by rw [List.length_map]; omega)
  refine ⟨b, hb, h0, h1, rows[i.toNat].1, ?_, hK _ rows[i.toNat].2 (List.getElem?_eq_getElem hx) (r.2 _ (List.getElem_mem hx))⟩
  have := r.1.get hb (i := i.toNat) (v := .slice rows[i.toNat].1.a rows[i.toNat].1.len rows[i.toNat].1.cap) (by rw [List.getElem?_map, List.getElem?_eq_getElem hx]; rfl)
  simpa [Addr.add_zero'] using this

theorem in_int_rows (ht : P.underlying t = some (.slice e)) (he : P.underlying e = some (.slice q)) (hq : P.underlying q = some (.int .i64)) (ce : P.cellsOf e = 1) (cq : P.cellsOf q = 1) (hv : Value.okWide P W .any 0 t v) (h : DataW.Trod enc P W 0 (fun _ => true) true t v d ps) :
    ∃ (s : SV) (rows : List (SV × List Int)), v = .slice s.a s.len s.cap ∧ RdRowsOf ⟨[], W.cell?⟩ s rows ∧ (∀ r ∈ rows, ∀ x ∈ r.2, In64 x) ∧ s.len ≤ maxLen ∧ ∀ r ∈ rows, r.1.len ≤ maxLen := by
  obtain ⟨a0, len, cap, rfl⟩ := okWide_slice ht hv
  obtain ⟨fuel, hf⟩ := h
  have hcs0 : (Value.slice a0 len cap).cells.toList = [.slice a0 len cap] := rfl
  rcases open_int_rows ht he hq ce cq hf with ⟨hcs, hx⟩ | ⟨a, len', cap', A, L, C, Z, hcs, _, hl, hm, hx, hr⟩
  · rw [hcs0] at hcs
    injection hcs with h1 _
    injection h1 with h1 h2 h3
    subst h1; subst h2; subst h3
    exact ⟨⟨none, 0, 0⟩, [], rfl, ⟨⟨rfl, fun _ => rfl, fun b hb => nomatch hb⟩, by simp⟩, by simp, Nat.zero_le _, by simp⟩
  · rw [hcs0] at hcs
    injection hcs with h1 _
    injection h1 with h1 h2 h3
    subst h1; subst h2; subst h3
    refine ⟨⟨some a, len, cap⟩, (List.range len).map fun r => (⟨A r, L r, C r⟩, (Z r).take (L r)), rfl, ⟨⟨by simp, (fun h => nomatch h), ?_⟩, ?_⟩, ?_, Nat.le_trans hl hm, ?_⟩
    · intro b hb i v hv
      cases hb
      simp only [List.map_map, List.getElem?_map, Option.map_eq_some_iff, Function.comp] at hv
      obtain ⟨r, hr1, rfl⟩ := hv
      obtain ⟨hi, rfl⟩ := List.getElem?_eq_some_iff.1 hr1
      simp only [List.length_range] at hi
      simp only [List.getElem_range]
      exact rd_cell (hr i (by omega)).1
    · intro r hr1
      simp only [List.mem_map, List.mem_range] at hr1
      obtain ⟨i, hi, rfl⟩ := hr1
      obtain ⟨_, g2, g3, g4, g5, g6, g7⟩ := hr i (by omega)
      refine ⟨?_, fun hn => ?_, ?_⟩
      · simp [g4, g2]
      · have := g6 hn
        show L i = 0
        omega
      · intro b hb j v hv
        rw [ints_get, Option.map_eq_some_iff] at hv
        obtain ⟨n, hn, rfl⟩ := hv
        have hj : j < L i := by have := (List.getElem?_eq_some_iff.1 hn).1; simp at this; omega
        rw [List.getElem?_take_of_lt hj] at hn
        have := (g7 b hb).2 j (by omega)
        rw [List.getD_eq_getElem?_getD, hn] at this
        exact rd_cell this
    · intro r hr1 x hx
      simp only [List.mem_map, List.mem_range] at hr1
      obtain ⟨i, hi, rfl⟩ := hr1
      obtain ⟨_, g2, g3, g4, g5, g6, g7⟩ := hr i (by omega)
      have hw := g5 x (List.mem_of_mem_take hx)
      simp only [Lit.wf, Bool.and_eq_true, decide_eq_true_eq] at hw
      have e1 : IntKind.i64.min = -9223372036854775808 := by decide
      have e2 : IntKind.i64.max = 9223372036854775807 := by decide
      exact ⟨by omega, by omega⟩
    · intro r hr1
      simp only [List.mem_map, List.mem_range] at hr1
      obtain ⟨i, hi, rfl⟩ := hr1
      obtain ⟨_, g2, g3, g4, g5, g6, g7⟩ := hr i (by omega)
      exact Nat.le_trans g2 g3
end
end Go.Eng
