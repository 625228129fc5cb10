import Derived.Test.YtnppmcgmmdcpiaaGreatDoorEngD
/- The engine, fifth part: soundness of operations, regions, code. -/
namespace Go.Eng
open Go.RowKit

section
variable {P : Program} {f : F} {w : World} {h : H}

theorem pickVC_sound {c a b : Value} {K : Value → Prop} (hk : pickVC c a b K) : ∃ t, c = .bool t ∧ K (if t then a else b) := by
  unfold pickVC at hk
  split at hk
  · rename_i t
    refine ⟨t, rfl, ?_⟩
    split at hk
    · cases t <;> exact hk
    · cases t <;> exact hk
  · exact hk.elim

theorem getD_list {α : Type} (l : List α) (n : Nat) (d : α) : l.toArray.getD n d = l.getD n d := by simp [List.getD]

theorem readVC_sound {o : Oper} {K : Value → Prop} (hr : readVC P f h o.op K) : ∃ v, (∀ w, Holds w h → Val P f o w v) ∧ K v := by
  unfold Val
  unfold readVC at hr
  split at hr
  · rename_i ho; exact ⟨_, fun w hw => by simp only [execOp, ho, Sem.run_pure], hr⟩
  · rename_i ho; exact ⟨_, fun w hw => by simp only [execOp, ho, Sem.run_pure], hr⟩
  · rename_i ho
    obtain ⟨t, h1, h2⟩ := pickVC_sound hr
    exact ⟨_, fun w hw => by simp only [execOp, ho, h1, asBool, Sem.run_bind, Sem.run_pure, Result.andThen_ok], h2⟩
  · rename_i ho
    split at hr
    · rename_i a ha
      obtain ⟨ht, hr⟩ := cond_some hr
      obtain ⟨v, h1, h2⟩ := run_loadVar_get (a := a) ht hr
      exact ⟨v, fun w hw => by simp only [execOp, ho, ha, Instr.loadAt, Instr.sureAddr, Sem.run_bind, Sem.run_pure, Result.andThen_ok, h1 w (fun j v hv => rd_sound hw hv)], h2⟩
    · exact hr.elim
  · rename_i ho
    split at hr
    · rename_i p hp
      obtain ⟨a, rfl, hk⟩ := hr
      exact ⟨_, fun w hw => by simp only [execOp, ho, hp, Sem.run_pure], hk⟩
    · exact hr.elim
  · rename_i ho
    obtain ⟨v, h1, h2⟩ := binVC_sound (xo := _) hr
    exact ⟨v, fun w hw => by simp only [execOp, ho]; rw [Sem.run_bind, h1]; rfl, h2⟩
  · rename_i ho
    obtain ⟨v, h1, h2⟩ := unVC_sound (P := P) hr
    exact ⟨v, fun w hw => by simp only [execOp, ho, Sem.run_bind, h1, Result.andThen_ok, Sem.run_pure], h2⟩
  · rename_i ho
    obtain ⟨v, h1, h2⟩ := convVC_sound hr
    exact ⟨v, fun w hw => by simp only [execOp, ho, Sem.run_bind, h1, Result.andThen_ok, Sem.run_pure], h2⟩
  · rename_i ho
    split at hr
    · exact hr.elim
    · rename_i _ hn
      refine ⟨_, fun w hw => ?_, hr⟩
      simp only [execOp, ho, Instr.makeInterface, Sem.run_bind, run_underlying hn, Result.andThen_ok]
      rfl
    · exact hr.elim
  · rename_i ho; exact ⟨_, fun w hw => by simp only [execOp, ho, Instr.makeFunc, Sem.run_bind, Sem.run_pure, Result.andThen_ok], hr⟩
  · rename_i ho
    obtain ⟨v, h1, h2⟩ := fieldAddrVC_sound hr
    exact ⟨v, fun w hw => by simp only [execOp, ho, Sem.run_bind, h1, Result.andThen_ok, Sem.run_pure], h2⟩
  · rename_i ho
    obtain ⟨v, h1, h2⟩ := fieldVC_sound hr
    exact ⟨v, fun w hw => by simp only [execOp, ho, Sem.run_bind, h1, Result.andThen_ok, Sem.run_pure], h2⟩
  · rename_i ho
    obtain ⟨v, h1, h2⟩ := idxAddrVC_sound hr
    exact ⟨v, fun w hw => by simp only [execOp, ho, Sem.run_bind, h1, Result.andThen_ok, Sem.run_pure], h2⟩
  · rename_i ho
    obtain ⟨v, h1, h2⟩ := idxVC_sound hr
    exact ⟨v, fun w hw => by simp only [execOp, ho, Sem.run_bind, h1, Result.andThen_ok, Sem.run_pure], h2⟩
  · rename_i ho
    split at hr
    · obtain ⟨v, h1, h2⟩ := sliceVC_sound hr
      exact ⟨v, fun w hw => by simp only [execOp, ho, Sem.run_bind, Option.map_none, h1, Result.andThen_ok, Sem.run_pure], h2⟩
    obtain ⟨v, h1, h2⟩ := slice3VC_sound hr
    exact ⟨v, fun w hw => by simp only [execOp, ho, Sem.run_bind, Option.map_some, h1, Result.andThen_ok, Sem.run_pure], h2⟩
  · rename_i ho
    obtain ⟨v, h1, h2⟩ := extractVC_sound (P := P) hr
    exact ⟨v, fun w hw => by simp only [execOp, ho, Sem.run_bind, h1, Result.andThen_ok, Sem.run_pure], h2⟩
  · rename_i t ps ho
    split at hr
    · rename_i cs hcs
      obtain ⟨hE, hr⟩ := withE_spec hr
      refine ⟨_, fun w hw => ?_, hr⟩
      have hb := buildV_sound (P := P) (w := w) (t := t) (ps := ps.map fun p => (p.1, ev f p.2)) (cs := cs) (by simpa using hcs) (by simpa using hE)
      simp only [execOp, ho, Sem.run_bind]
      have e : (ps.map fun (x : Nat × Operand) => match x with | (i, x) => (i, ev f x)) = ps.map fun p => (p.1, ev f p.2) := by
        apply Array.map_congr_left; intro p _; rfl
      rw [e, hb]
      rfl
    · exact hr.elim
  · rename_i c ho
    obtain ⟨cal, args, tys⟩ := c
    split at hr
    · rename_i hc
      simp only at hc
      subst hc
      split at hr
      · rename_i t ts x xs ht hx
        obtain ⟨v, h1, h2⟩ := lenVC_sound (P := P) (ts := ts) (xs := xs.map (ev f)) (ty := o.type) hr
        refine ⟨v, fun w hw => ?_, h2⟩
        have e1 : tys = (t :: ts).toArray := by rw [← ht]
        have e2 : args.map (ev f) = (ev f x :: xs.map (ev f)).toArray := by
          have hx' : args.toList = x :: xs := hx
          apply Array.ext'; simp [hx']
        simp only [execOp, ho, resolve, invoke, builtin, Sem.run_bind, Sem.run_pure, Result.andThen_ok, e2, e1, h1]
      · exact hr.elim
    · rename_i hc
      simp only at hc
      subst hc
      split at hr
      · rename_i ha
        refine ⟨_, fun w hw => ?_, hr⟩
        have ha' : (args.map (ev f)).toList = args.toList.map (ev f) := by simp
        have ha2 : args.toList.map (ev f) = _ := ha
        simp only [execOp, ho, resolve, invoke, builtin, Sem.run_bind, Sem.run_pure, Result.andThen_ok, Builtin.min_, ha', ha2, List.foldlM_cons, List.foldlM_nil, Builtin.min2]
      · exact hr.elim
    · rename_i hc
      simp only at hc
      subst hc
      split at hr
      · rename_i ha
        refine ⟨_, fun w hw => ?_, hr⟩
        have ha' : (args.map (ev f)).toList = args.toList.map (ev f) := by simp
        have ha2 : args.toList.map (ev f) = _ := ha
        simp only [execOp, ho, resolve, invoke, builtin, Sem.run_bind, Sem.run_pure, Result.andThen_ok, Builtin.max_, ha', ha2, List.foldlM_cons, List.foldlM_nil, Builtin.max2]
      · exact hr.elim
    · exact hr.elim
  · exact hr.elim


theorem zero_of {t : TypeId} {z : Value} (hz : (P.info? t).bind (·.zero) = some z) : ∃ i, P.info? t = some i ∧ i.zero = some z := by
  cases hi : P.info? t with
  | none => simp [hi] at hz
  | some i => exact ⟨i, rfl, by simpa [hi] using hz⟩

theorem list_toArray_toList (a : Array Value) : a.toList.toArray = a := by simp

/-- of an operation that writes: what it leaves -/
def WVal (P : Program) (f : F) (o : Oper) (w : World) (h : H) (K : Value → H → Prop) : Prop :=
  ∃ n v w' h', (execOp (ev f) o).run P w = .ok n w' ∧ (n = .value v ∨ (n = .skip ∧ v = undef)) ∧ Holds w' h' ∧ Fr w w' h h' ∧ K v h'

theorem madeCells_repl (z : Array Value) (n : Nat) (_hz : z.size ≠ 0) : (madeCells z (n * z.size)).toList = repl n z.toList := by
  have key : ∀ n, ((List.range (n * z.size)).map fun i => z[i % z.size]!) = repl n z.toList := by
    intro n
    induction n with
    | zero => simp [repl]
    | succ n ih =>
      have e : (n + 1) * z.size = n * z.size + z.size := by rw [Nat.succ_mul]
      rw [e, List.range_add, List.map_append, ih]
      have e2 : repl (n + 1) z.toList = repl n z.toList ++ z.toList := by
        simp only [repl, List.replicate_succ', List.flatten_append, List.flatten_singleton]
      rw [e2]
      congr 1
      apply List.ext_getElem?
      intro j
      simp only [List.map_map]
      by_cases hj : j < z.size
      · rw [List.getElem?_map, List.getElem?_range hj]
        simp only [Option.map_some, Function.comp_apply]
        rw [Nat.mul_add_mod_self_right, Nat.mod_eq_of_lt hj]
        simp [hj]
      · rw [List.getElem?_eq_none (by simp; omega), List.getElem?_eq_none (by simp; omega)]
  rw [← key n]
  simp [madeCells]

end

section
variable {P : Program} {f : F} {w : World} {h : H}

theorem wr_one {v : Value} {a : Addr} {K : H → Prop} (hr : h.wr a [v] K) : v.oneCell' = true := hr.2.1.1

theorem storeVC_sound {o : Oper} {t : TypeId} {a x : Operand} {K : Value → H → Prop} (ho : o.op = .store t a x) (hw : Holds w h) (hr : writeVC P f h (.store t a x) K) : WVal P f o w h K := by
  simp only [writeVC] at hr
  split at hr
  · rename_i ad ha
    cases hb : isAggB P t <;> simp only [hb, cond_true, cond_false] at hr
    · obtain ⟨hc, hr⟩ := cond_some hr
      have hc := Nat.eq_of_beq_eq_true hc
      obtain ⟨i, hi⟩ : ∃ i, P.info? t = some i := by
        unfold Program.cellsOf at hc
        cases hi : P.info? t with
        | none => simp [hi] at hc
        | some i => exact ⟨i, rfl⟩
      have h1 := wr_one hr
      obtain ⟨w', h', g1, g2, g3, g4⟩ := wr_sound (P := P) hw hr
      refine ⟨.skip, undef, w', h', ?_, .inr ⟨rfl, rfl⟩, g2, g3, g4⟩
      have hsz : i.size = 1 := by rw [← cellsOf_eq hi]; exact hc
      simp only [execOp, ho, ha, Instr.storeAt, Instr.sureAddr, storeVar, oneCell_cells h1, sizeOf, typeInfo, Sem.run_bind, Sem.run_pure, Result.andThen_ok, run_program, hi, hsz]
      simp [g1]
    · split at hr
      · rename_i cs hx
        obtain ⟨hc, hu, hr⟩ := hr
        obtain ⟨w', h', g1, g2, g3, g4⟩ := wr_sound (P := P) hw hr
        refine ⟨.skip, undef, w', h', ?_, .inr ⟨rfl, rfl⟩, g2, g3, g4⟩
        have hcs : cs.size = P.cellsOf t := by simpa using hc
        simp only [execOp, ho, ha, hx, Instr.storeAt, Instr.sureAddr, storeVar, Value.cells, Sem.run_bind, Sem.run_pure, Result.andThen_ok, run_sizeOf hu, hcs]
        simp [g1]
      · exact hr.elim
  · exact hr.elim

theorem writeVC_sound {o : Oper} {K : Value → H → Prop} (hw : Holds w h) (hr : writeVC P f h o.op K) (hna : ∀ c, o.op ≠ .call c) : WVal P f o w h K := by
  have hr0 := hr
  unfold writeVC at hr
  split at hr
  · rename_i t ho
    split at hr
    · rename_i z hz
      obtain ⟨i, hi, hz⟩ := zero_of hz
      obtain ⟨h', g1, g2, g3⟩ := new_sound hw hr t
      refine ⟨_, _, _, h', ?_, .inl rfl, g1, g2, g3⟩
      simp only [execOp, ho, Instr.alloc, zeroValue, typeInfo, newVar, newRow, Sem.run_bind, Sem.run_pure, Result.andThen_ok, run_program, hi, hz, run_newObj, list_toArray_toList]
      rfl
    · exact hr.elim
  · rename_i t x ho
    cases hb : isAggB P t <;> simp only [hb, cond_true, cond_false] at hr
    · obtain ⟨h1, hr⟩ := hr
      obtain ⟨h', g1, g2, g3⟩ := new_sound hw hr t
      refine ⟨_, _, _, h', ?_, .inl rfl, g1, g2, g3⟩
      simp only [execOp, ho, Instr.box, newVar, newRow, Sem.run_bind, Sem.run_pure, Result.andThen_ok, run_newObj, oneCell_cells h1]
      rfl
    · split at hr
      · rename_i cs hx
        obtain ⟨h', g1, g2, g3⟩ := new_sound hw hr t
        refine ⟨_, _, _, h', ?_, .inl rfl, g1, g2, g3⟩
        simp only [execOp, ho, hx, Instr.box, newVar, newRow, Value.cells, Sem.run_bind, Sem.run_pure, Result.andThen_ok, run_newObj, list_toArray_toList]
        rfl
      · exact hr.elim
  · rename_i t len ps ho
    split at hr
    · rename_i e hu
      split at hr
      · rename_i z hz
        obtain ⟨i, hi, hz⟩ := zero_of hz
        have hs : (sizeOf e).run P w = .ok (P.cellsOf e) w := by simp [sizeOf, typeInfo, hi, cellsOf_eq hi]
        have e1 : (ps.map fun (x : Nat × Operand) => match x with | (i, x) => (i, ev f x)).toList = ps.toList.map fun p => (p.1, ev f p.2) := by
          simp only [Array.toList_map]
        cases h0 : Nat.beq (len * P.cellsOf e) 0 <;> simp only [h0, cond_true, cond_false] at hr
        · have h0 : ¬ len * P.cellsOf e = 0 := fun h => by rw [h] at h0; cases h0
          obtain ⟨hc, hr⟩ := cond_some hr
          have hc := Nat.le_of_ble_eq_true hc
          split at hr
          · rename_i cs hcs
            obtain ⟨h', g1, g2, g3⟩ := new_sound hw hr e
            refine ⟨_, _, _, h', ?_, .inl rfl, g1, g2, g3⟩
            have hlt : ¬ (len * P.cellsOf e > 2 ^ 24) := by omega
            simp only [execOp, ho, Instr.buildSlice, Sem.run_bind, run_underlying hu, Result.andThen_ok, hs, if_neg hlt, if_neg h0, zeroValue, typeInfo, run_program, hi, hz, Sem.run_pure, e1, hcs, newRow, run_newObj, list_toArray_toList]
            rfl
          · exact hr.elim
        · have h0 : len * P.cellsOf e = 0 := Nat.eq_of_beq_eq_true h0
          split at hr
          · rename_i hps
            obtain ⟨h', g1, g2, g3⟩ := new_sound hw hr e
            refine ⟨_, _, _, h', ?_, .inl rfl, g1, g2, g3⟩
            rw [hps] at e1
            have hlt : ¬ (0 > 2 ^ 24) := by omega
            simp only [execOp, ho, Instr.buildSlice, Sem.run_bind, run_underlying hu, Result.andThen_ok, hs, h0, if_neg hlt, if_true, Sem.run_pure, e1, List.map_nil, Instr.fill, newRow, run_newObj, Array.range_zero', Array.map_empty]
            rfl
          · exact hr.elim
      · exact hr.elim
    · exact hr.elim
  · rename_i t l c ho
    split at hr
    · rename_i e l' c' hu hl hc
      split at hr
      · rename_i z hz
        obtain ⟨i, hi, hz⟩ := zero_of hz
        obtain ⟨hs, h0, h1, h2, h3, hr⟩ := cond_some hr
        rw [Bool.and_eq_true] at hs
        have hsz := Nat.eq_of_beq_eq_true hs.1
        have hsz0 : z.cells.size ≠ 0 := fun h0 => by rw [h0] at hs; simp at hs
        rw [bytesOf_eq hi] at h2
        have hrun := run_make (P := P) w t e i z hu hi hz .i64 .i64 l' c' h0 h1 (by omega) (by omega)
        have hcells : (madeCells z.cells (c'.toNat * i.size)).toList = repl c'.toNat z.cells.toList := by
          rw [← cellsOf_eq hi, ← hsz]; exact madeCells_repl _ _ hsz0
        obtain ⟨h', g1, g2, g3⟩ := new_sound hw hr e
        have ea : (repl c'.toNat z.cells.toList).toArray = madeCells z.cells (c'.toNat * i.size) := by rw [← hcells]
        rw [ea] at g1 g2
        refine ⟨_, _, _, h', ?_, .inl rfl, g1, g2, g3⟩
        simp only [execOp, ho, hl, hc, Sem.run_bind, hrun, Result.andThen_ok, Sem.run_pure]
      · exact hr.elim
    · exact hr.elim
  · rename_i t a x ho
    exact storeVC_sound ho hw (by rw [ho] at hr0; exact hr0)
  · rename_i c ho
    exact absurd ho (hna c)
  · exact hr.elim

end
end Go.Eng
