
import Derived.Test.YtnppmcgmmdcpiaaGreatDoorEngI
import Derived.ProofKit
import Derived.Deep.Matrix
namespace Go.Eng
open Go.ChangeShapes Go.WideShapes Go.ChangeAt Go.RowKit Go.WideElems Go.Deep
theorem Below.trodAll {K : Type} {enc : TypeId × Value → K} {P : Program} (hl : laidOutB P = true) {W W' : World} (hb : Below W.heap.size W W') :
    ∀ {ts : List TypeId} {vs : List Value} {ds : List (DataW K)} {ps : List MemPlace}, (ts.all fun t => P.readableRec t && decide (t < P.types.size)) = true → DataW.TrodAll enc P W 0 (fun _ => true) true ts vs ds ps →
      (∀ x ∈ ps, x.block < W.heap.size) → DataW.TrodAll enc P W' 0 (fun b => decide (b < W.heap.size)) true ts vs ds ps
  | [], _, _, _, _, h, _ => by
    obtain ⟨rfl, rfl, rfl⟩ := trodAll_nil h
    rfl
  | t :: ts, _, _, _, ht, h, hp => by
    obtain ⟨v, vs1, d, ds1, a, b, rfl, rfl, rfl, h1, h2⟩ := trodAll_cons h
    simp only [List.all_cons, Bool.and_eq_true, decide_eq_true_eq] at ht
    exact ⟨a, b, Below.trod hl ht.1.1 ht.1.2 h1 hb (fun x hx => hp x (by simp [hx])), Below.trodAll hl hb (by simpa using ht.2) h2 (fun x hx => hp x (by simp [hx])), rfl⟩
theorem law_post {K : Type} {enc : TypeId × Value → K} {P : Program} {f : Func} {s : ChangeSpec} {apart : Bool} {W W' : World} {args : Array Value} {ds gs : List (DataW K)} {before : List MemPlace} {T : TypeId}
    (hl : laidOutB P = true) (hts : (f.params.toList.all fun t => P.readableRec t && decide (t < P.types.size)) = true) (hv : s.vars = []) (hfn : (s.fn K (ds ++ gs)).results = [.lit (.bool true)] ∧ (s.fn K (ds ++ gs)).args = ds ∧ (s.fn K (ds ++ gs)).vars = [])
    (hr : f.resultTypes = #[T]) (hT : P.underlying T = some .bool)
    (hW : DataW.Whole enc P f.params.toList s.vars apart W args.toList ds gs before) (hb : Below W.heap.size W W') : s.post enc P f apart true false false W args (.bool true) W' := by
  have hlt : ∀ x ∈ before, x.block < W.heap.size := fun x hx => hW.lt x hx
  have hW' := hW
  obtain ⟨p, q, hA, hV, rfl, _, _⟩ := hW'
  rw [hv] at hV
  obtain ⟨rfl, rfl⟩ := trodVars_none hV
  simp only [List.append_nil] at hlt hW hfn
  refine ⟨ds, [], p, [], p, [], hW, ?_, ?_, ?_, ?_, fun h => nomatch h⟩
  · rw [List.append_nil, hfn.1, hr]
    exact ⟨[], [], shut_bool hT true, rfl, rfl⟩
  · rw [List.append_nil, hfn.2.1]
    exact Below.trodAll hl hb hts hA hlt
  · rw [List.append_nil, hfn.2.2, hv]
    rfl
  · refine ⟨hb.os, hb.output, fun i hi => ?_⟩
    rw [hb.block i hi]
    cases W.heap[i]? with
    | none => rfl
    | some o => cases o <;> simp
theorem holds_start (W : World) : Holds W ⟨[], W.cell?⟩ := ⟨by simp, by simp, fun _ _ h => h, by simp⟩
theorem SemCall.law {P : Program} {f : FuncId} {args : Array Value} {W : World} (h : SemCall P f args ⟨[], W.cell?⟩ (fun v _ => v = .bool true)) : Calls P f args W fun e W' => e = .returned (.bool true) ∧ Below W.heap.size W W' := by
  refine (h W (holds_start W)).mono ?_
  rintro e W' ⟨v, h', rfl, _, hf, rfl⟩
  exact ⟨rfl, hf.os, hf.tape, hf.output, hf.size, fun r hr => hf.keep r hr (by simp)⟩
section
variable {K : Type} {enc : TypeId × Value → K} {P : Program} {W : World} {t e q : TypeId} {v : Value} {d : DataW K} {ps : List MemPlace}
theorem in_int (ht : P.underlying t = some (.int .i64)) (hv : Value.okWide P W .any 0 t v) (h : DataW.Trod enc P W 0 (fun _ => true) true t v d ps) : ∃ n : Int, v = .int .i64 n ∧ In64 n := by
  obtain ⟨n, rfl, _, _, hw⟩ := open_int ht hv h
  refine ⟨n, rfl, ?_⟩
  simp only [Lit.wf, Bool.and_eq_true, decide_eq_true_eq] at hw
  have e1 : IntKind.i64.min = -9223372036854775808 := by decide
  have e2 : IntKind.i64.max = 9223372036854775807 := by decide
  exact ⟨by omega, by omega⟩
/-- rows of ints that are read -/
def RdRowsOf (h : H) (s : SV) (rows : List (SV × List Int)) : Prop :=
  RdSl h s (rows.map fun r => .slice r.1.a r.1.len r.1.cap) ∧ ∀ r ∈ rows, RdSl h r.1 (ints r.2)
theorem RdRowsOf.mono {h h2 : H} {s : SV} {rows : List (SV × List Int)} (r : RdRowsOf h s rows) (hs : ∀ e ∈ h.own, e ∈ h2.own) (hr : ∀ a v, h.ro a = some v → h2.ro a = some v) : RdRowsOf h2 s rows :=
  ⟨r.1.mono hs hr, fun x hx => (r.2 x hx).mono hs hr⟩
theorem RdRowsOf.idx {h : H} {s : SV} {rows : List (SV × List Int)} (r : RdRowsOf h s rows) {i : Int} (h0 : 0 ≤ i) (h1 : i < ((s.len : Nat) : Int)) {K : SV → Prop} (hK : ∀ (t : SV) (xs : List Int), rows[i.toNat]? = some (t, xs) → RdSl h t (ints xs) → K t) :
    ∃ b : Addr, s.a = some b ∧ 0 ≤ i ∧ i < ((s.len : Nat) : Int) ∧ ∃ x : SV, H.rd h (Addr.add (Addr.add b (i.toNat * 1)) 0) (Value.slice x.a x.len x.cap) ∧ K x := by
  have hl := r.1.len
  rw [List.length_map] at hl
  have hx : i.toNat < rows.length := by omega
  obtain ⟨b, hb⟩ := r.1.addr (by rw [List.length_map]; omega)
  refine ⟨b, hb, h0, h1, rows[i.toNat].1, ?_, hK _ rows[i.toNat].2 (List.getElem?_eq_getElem hx) (r.2 _ (List.getElem_mem hx))⟩
  have := r.1.get hb (i := i.toNat) (v := .slice rows[i.toNat].1.a rows[i.toNat].1.len rows[i.toNat].1.cap) (by rw [List.getElem?_map, List.getElem?_eq_getElem hx]; rfl)
  simpa [Addr.add_zero'] using this
end
end Go.Eng
