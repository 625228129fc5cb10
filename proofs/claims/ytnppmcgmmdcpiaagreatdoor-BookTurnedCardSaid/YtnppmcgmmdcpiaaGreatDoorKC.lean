import Derived.WalkKit
import Derived.RegionTactic
import Derived.Lib.FrozenHead
import Derived.Lib.Builder
import Derived.Lib.Walk
import Derived.Lib.AppendStr
import Derived.Lib.UnsafeStr
import Derived.Laws.Externs
import Derived.Test.YtnppmcgmmdcpiaaGreatDoorProg
import Derived.BigCall
import Derived.Lib.ConvBytes
import Derived.Lib.AtoiErrMem
import Derived.Lib.Strings
import Derived.Laws.IdiomStrings
import Derived.Shelf.Strconv.Itoa3
import Derived.Test.YtnppmcgmmdcpiaaGreatDoorKB
import Derived.Lib.ItoaLen
namespace Go.Proofs.YtnppmcgmmdcpiaaGreatDoor
open Go Go.Proofs Go.RowKit
/-! ### a builder that is a field (cells 3 and 4 of its block), walked by the kit -/
theorem tBp : Tryz.prog.underlying 52 = some (.pointer 54) := by kernel_rfl
theorem tBu : Tryz.prog.underlying 35 = some (.slice 5) := by kernel_rfl
theorem tBs : Tryz.prog.underlying 9 = some .string := by kernel_rfl
theorem tBv : Tryz.prog.underlying 117 = some .unsafePointer := by kernel_rfl
theorem tBy : Tryz.prog.underlying 86 = some (.pointer 5) := by kernel_rfl
theorem sizeB : (Tryz.prog.info? 54).map (·.size) = some 2 := by kernel_rfl
theorem liesB : liesAt Tryz.prog Tryz.prog.depth 56 (6 / Tryz.prog.cellsOf 56) 3 54 1 = true := by kernel_rfl
theorem infoB : (Tryz.prog.info? 5).map (fun i => (i.zero, i.size, i.bytes)) = some (some (.int .u8 0), 1, 1) := by kernel_rfl
theorem cellsB : Tryz.prog.cellsOf 5 = 1 := by kernel_rfl

set_option maxRecDepth 100000 in
set_option maxHeartbeats 1000000 in
theorem cc_used (b : Nat) (w : World) (h0 : w.cell? ⟨b, 3, none⟩ = some (.pointer (some ⟨b, 3, none⟩))) :
    Calls Tryz.prog 69 #[.pointer (some ⟨b, 3, none⟩)] w fun e w' => e = .returned (.tuple #[]) ∧ w' = w := by
  obtain ⟨j, hj, _⟩ := Option.map_eq_some_iff.1 sizeB
  go_enter Tryz.func69, Tryz.ntmps69
  go_wp2
  rw [Lib.run_neq_ptr_same w _ tBp hj]
  go_wp2
  go_end0
  exact ⟨rfl, rfl⟩

set_option maxRecDepth 100000 in
set_option maxHeartbeats 1000000 in
theorem cc_fresh (b : Nat) (w : World) (h0 : w.cell? ⟨b, 3, none⟩ = some (.pointer none)) (hsh : w.shape? b = some (56, 6)) (hfz : w.frozen? ⟨b, 3, none⟩ = false) :
    Calls Tryz.prog 69 #[.pointer (some ⟨b, 3, none⟩)] w fun e w' => e = .returned (.tuple #[]) ∧ w' = w.setCell ⟨b, 3, none⟩ (.pointer (some ⟨b, 3, none⟩)) := by
  obtain ⟨j, hj, hjs⟩ := Option.map_eq_some_iff.1 sizeB
  go_enter Tryz.func69, Tryz.ntmps69
  go_wp2
  rw [Lib.run_to_unsafe w ⟨b, 3, none⟩ tBp tBv hj (by rw [hjs]; decide) hsh (by show 3 < 6; omega)]
  simp only [Result.andThen]
  rw [Oper.upon_value]
  go_wp2
  rw [run_callFunc_extern Tryz.func98 (by kernel_rfl) (by kernel_rfl) (by kernel_rfl) (e := Extern.AbiNoEscape.same) (by kernel_rfl)]
  rw [Lib.run_noEscape]
  simp only [Result.andThen]
  rw [Oper.upon_value]
  go_wp2
  rw [Lib.run_from_unsafe w ⟨b, 3, none⟩ tBv tBp hj hsh liesB]
  simp only [Result.andThen]
  rw [Oper.upon_value]
  go_wp2
  go_end0
  exact ⟨rfl, rfl⟩

theorem shape_row {w : World} {g : Nat} {cur arr : Array Value} {t : TypeId} {fz : Nat × Nat} (hg : w.heap[g]? = some (.cells cur t fz)) (hs : arr.size = cur.size) (r : Nat) : (w.setRow g arr).shape? r = w.shape? r := by
  by_cases h : g = r
  · subst h
    simp [World.shape?, setRow_heap w g cur arr t fz hg, hg, hs]
  · simp only [World.shape?, setRow_other w g r _ (fun e => h e.symm)]
theorem shape_hp {w w' : World} {r : Nat} (h : w'.heap[r]? = w.heap[r]?) : w'.shape? r = w.shape? r := by simp [World.shape?, h]

/-- a string's bytes behind a row whose head may be frozen: as the library's law, and what becomes of the blocks' shapes -/
theorem app_sF {P : Program} (w : World) (t u ty e : TypeId) (i : TypeInfo) (ht : P.underlying t = some (.slice e)) (hu : P.underlying u = some .string) (hi : P.info? e = some i) (hz : i.zero = some (.int .u8 0))
    (hsize : i.size = 1) (hby : i.bytes = 1) (v : Value) (n : Nat) (xs : List Value) (hown : w.ownsRowF 0 e 1 v n xs) (s : ByteArray) (hlen : n + s.size ≤ 1000000000) :
    ∃ v' w', (Builtin.append_ #[t, u] ty #[v, .string s]).run P w = .ok v' w' ∧ w'.ownsRowF 0 e 1 v' (n + s.size) (xs ++ Lib.strCells s) ∧ w.grownBy w' v.ownBlock ∧ (∀ r, r < w.heap.size → w'.shape? r = w.shape? r) ∧
      (v'.ownBlock = v.ownBlock ∨ ∃ g, v'.ownBlock = some g ∧ w.heap.size ≤ g) := by
  have h63 : n + s.size ≤ maxLen := by unfold maxLen; omega
  rcases hown.2 with ⟨rfl, rfl⟩ | ⟨g, cap, cur, fz, rfl, hbg, hg, hfz, hnc, hcm, hcs, htake⟩
  · have hx : xs = [] := List.eq_nil_of_length_eq_zero (by simpa using hown.1)
    subst hx
    obtain ⟨v', w', h1, h2, h3, _⟩ := Lib.run_append_own_string (P := P) w w.heap.size t u ty e i ht hu hi hz hsize hby (.slice none 0 0) 0 [] ⟨hown.1, .inl ⟨rfl, rfl⟩⟩ s h63 (by omega) (Nat.le_refl _)
    have h2' : w'.ownsRow 0 e 1 v' (0 + s.size) ([] ++ Lib.strCells s) := by
      refine ⟨h2.1, ?_⟩
      rcases h2.2 with h | ⟨g, cap, cur, hv, _, r⟩
      · exact .inl h
      · exact .inr ⟨g, cap, cur, hv, Nat.zero_le _, r⟩
    refine ⟨v', w', h1, World.ownsRowF_of h2', h3, fun r hr => shape_hp (h3.block r hr (by simp [Value.ownBlock])), ?_⟩
    rcases h2.2 with ⟨rfl, _⟩ | ⟨g, cap, cur, rfl, hge, _⟩
    · exact .inl rfl
    · exact .inr ⟨g, rfl, hge⟩
  · have hxl : xs.length = n := by simpa using hown.1
    have hl : (xs ++ Lib.strCells s).length = (n + s.size) * 1 := by rw [List.length_append, hxl, Lib.strCells_length, Nat.mul_one]
    by_cases hroom : n + s.size ≤ cap
    · have hcs' : cur.size = cap := by simpa using hcs
      have hr := Lib.run_append_room_stringF (P := P) w t u ty e i ht hu hi hsize g n cap cur fz hg (by simpa using hfz) s hroom (by omega)
      have hsz : (cur.toList.take n ++ Lib.strCells s ++ cur.toList.drop (n + s.size)).toArray.size = cur.size := by
        simp only [List.size_toArray, List.length_append, List.length_take, List.length_drop, Array.length_toList, Lib.strCells_length]
        omega
      refine ⟨_, _, hr, ⟨hl, .inr ⟨g, cap, _, fz, rfl, hbg, setRow_heap w g cur _ e _ hg, by omega, hroom, hcm, by rw [hsz]; exact hcs, ?_⟩⟩, ⟨rfl, rfl, rfl, by simp, fun k _ hk => setRow_other w g k _ (fun e => hk (by simp [Value.ownBlock, e]))⟩, fun r _ => shape_row hg hsz r, .inl rfl⟩
      have ht' : cur.toList.take n = xs := by simpa using htake
      rw [ht', ← hl]
      exact List.take_left
    · have holds : ∀ j u, xs[j]? = some u → w.cell? ((⟨g, 0, none⟩ : Addr).add j) = some u := hown.cells (g := g) rfl
      have hr := Lib.run_append_grow_string (P := P) w t u ty e i (.int .u8 0) ht hu hi hz ⟨g, 0, none⟩ n cap xs (by rw [hsize]; simpa using hxl) holds s (by omega) (by omega) (by rw [hby]; exact growslice_fits (by omega) (by omega))
      have hge := grownCap_ge w (n + s.size) cap e
      have hcm2 : grownCap w (n + s.size) cap e ≤ maxLen := grownCap_le_maxLen w (n + s.size) cap e h63
      refine ⟨_, _, hr, ⟨hl, .inr ⟨w.heap.size, _, _, (0, 0), rfl, Nat.zero_le _, heap_alloc_new w.drew _, Nat.zero_le _, hge, hcm2, ?_, ?_⟩⟩, ⟨rfl, rfl, rfl, by simp, fun k hk _ => heap_alloc_old w.drew _ hk⟩, fun r hr => shape_hp (heap_alloc_old w.drew _ hr), .inr ⟨w.heap.size, rfl, Nat.le_refl _⟩⟩
      · have hz1 : (Value.int IntKind.u8 0).cells.size = 1 := rfl
        simp only [Array.size_append, List.size_toArray, size_zeroCells, hz1, hxl, Lib.strCells_length]
        omega
      · simp only [Array.toList_append, List.append_assoc]
        rw [← List.append_assoc, ← hl]
        exact List.take_left

/-- .. the operation, for the walk -/
theorem wp_app_sF {P : Program} {w : World} {ops : Array Oper} {rest : List Oper} {o : Oper} {a : Act} {Q : Exit → Act → World → Prop} (hgd : o.guard = none) (sl x : Operand) (t u : TypeId)
    (ho : o.op = .call { callee := .builtin .append, args := #[sl, x], argTypes := #[t, u] })
    (e : TypeId) (i : TypeInfo) (ht : P.underlying t = some (.slice e)) (hu : P.underlying u = some .string) (hi : P.info? e = some i) (hz : i.zero = some (.int .u8 0))
    (hsize : i.size = 1) (hby : i.bytes = 1)
    (v : Value) (n : Nat) (xs : List Value) (hs : a.eval sl = v) (hown : w.ownsRowF 0 e 1 v n xs) (s : ByteArray) (hx : a.eval x = .string s) (hlen : n + s.size ≤ 1000000000)
    (h : ∀ v' w', w'.ownsRowF 0 e 1 v' (n + s.size) (xs ++ Lib.strCells s) → w.grownBy w' v.ownBlock → (∀ r, r < w.heap.size → w'.shape? r = w.shape? r) → (v'.ownBlock = v.ownBlock ∨ ∃ g, v'.ownBlock = some g ∧ w.heap.size ≤ g) → wpList P ops Q rest (a.put o.dst v') w') : wpList P ops Q (o :: rest) a w := by
  refine wpList_plain hgd fun K hK => ?_
  obtain ⟨v', w', hr, h2, h3, h4, h5⟩ := app_sF (P := P) w t u o.type e i ht hu hi hz hsize hby v n xs hown s hlen
  unfold Oper.wp execOp
  simp only [ho, resolve, invoke, builtin, Sem.run_bind, Sem.run_pure, Result.andThen_ok, List.map_toArray, List.map_cons, List.map_nil, hs, hx, hr]
  exact hK _ _ (h v' w' h2 h3 h4 h5)

/-- what a builder's field and its buffer are -/
structure BAt (w : World) (b : Nat) (c0 c1 c2 p v c5 : Value) (bs : List Value) : Prop where
  hb : w.heap[b]? = some (.cells #[c0, c1, c2, p, v, c5] 56 (0, 0))
  own : w.ownsRowF 0 5 1 v bs.length bs
  ne : v.ownBlock ≠ some b
/-- what a call leaves as it was: blocks but two -/
structure BFr (w w' : World) (b : Nat) (v v' : Value) : Prop where
  os : w'.os = w.os
  tape : w'.tape = w.tape
  output : w'.output = w.output
  size : w.heap.size ≤ w'.heap.size
  shape : ∀ r, r < w.heap.size → w'.shape? r = w.shape? r
  block : ∀ k, k < w.heap.size → k ≠ b → v.ownBlock ≠ some k → w'.heap[k]? = w.heap[k]?
  row : v'.ownBlock = v.ownBlock ∨ ∃ g, v'.ownBlock = some g ∧ w.heap.size ≤ g

set_option maxHeartbeats 1000000 in
theorem cc_any (b : Nat) (c0 c1 c2 p v c5 : Value) (bs : List Value) (w : World) (hp : p = .pointer none ∨ p = .pointer (some ⟨b, 3, none⟩)) (h : BAt w b c0 c1 c2 p v c5 bs) :
    Calls Tryz.prog 69 #[.pointer (some ⟨b, 3, none⟩)] w fun e w' => e = .returned (.tuple #[]) ∧ BAt w' b c0 c1 c2 (.pointer (some ⟨b, 3, none⟩)) v c5 bs ∧ BFr w w' b v v := by
  rcases hp with rfl | rfl
  · refine (cc_fresh b w (by rw [Lib.cell_of_heap h.hb]; rfl) (by simp [World.shape?, h.hb]) (by simp [World.frozen?, h.hb])).mono ?_
    rintro e w' ⟨rfl, rfl⟩
    refine ⟨rfl, ⟨?_, ?_, h.ne⟩, rfl, rfl, rfl, by simp [World.setCell], fun r _ => ?_, fun k _ hk _ => Below.heap_setCell _ _ _ _ hk, .inl rfl⟩
    · simp [World.setCell, Array.getElem?_modify, h.hb]
    · exact h.own.kept (row := some b) ⟨rfl, rfl, rfl, by simp [World.setCell], fun k _ hk => Below.heap_setCell _ _ _ _ (fun e => hk (by simp [e]))⟩ (Or.inr h.ne)
    · by_cases hr : r = b
      · subst hr; simp [World.shape?, World.setCell, Array.getElem?_modify, h.hb]
      · exact shape_hp (Below.heap_setCell _ _ _ _ hr)
  · refine (cc_used b w (by rw [Lib.cell_of_heap h.hb]; rfl)).mono ?_
    rintro e w' ⟨rfl, rfl⟩
    exact ⟨rfl, h, rfl, rfl, rfl, Nat.le_refl _, fun _ _ => rfl, fun _ _ _ _ => rfl, .inl rfl⟩

set_option maxRecDepth 100000 in
set_option maxHeartbeats 2000000 in
theorem ws_in (b : Nat) (c0 c1 c2 p v c5 : Value) (bs : List Value) (s : ByteArray) (w : World) (hp : p = .pointer none ∨ p = .pointer (some ⟨b, 3, none⟩)) (h : BAt w b c0 c1 c2 p v c5 bs) (hlen : bs.length + s.size ≤ 1000000000) :
    Calls Tryz.prog 42 #[.pointer (some ⟨b, 3, none⟩), .string s] w fun e w' => e = .returned (.tuple #[.int .i64 s.size, .nilIface]) ∧
      ∃ v', BAt w' b c0 c1 c2 (.pointer (some ⟨b, 3, none⟩)) v' c5 (bs ++ Lib.strCells s) ∧ BFr w w' b v v' := by
  obtain ⟨i0, hi, hz0, hz1, hz2⟩ := info_parts infoB
  go_enter Tryz.func42, Tryz.ntmps42
  go_wp2_with (go_at_call 69; refine (cc_any b c0 c1 c2 p v c5 bs _ hp h).mono ?_)
  rintro e w1 ⟨rfl, h1, f1⟩
  have d0 : w1.cell? ⟨b, 4, none⟩ = some v := by rw [Lib.cell_of_heap h1.hb]; rfl
  go_wp2_with (at_builtin; refine wp_app_sF rfl _ _ 35 9 rfl 5 i0 tBu tBs hi hz0 hz1 hz2 _ _ _ rfl h1.own s rfl hlen ?_)
  intro v' w2 hown' hgrow hshp hrow
  have hlt : b < w1.heap.size := by
    rcases Nat.lt_or_ge b w1.heap.size with h' | h'
    · exact h'
    · have := h1.hb; simp [Array.getElem?_eq_none h'] at this
  have hne' : v'.ownBlock ≠ some b := by
    rcases hrow with h | ⟨g, h, hg⟩
    · rw [h]; exact h1.ne
    · rw [h]; intro hc; cases hc; omega
  have hb2 : w2.heap[b]? = some (.cells #[c0, c1, c2, .pointer (some ⟨b, 3, none⟩), v, c5] 56 (0, 0)) := by
    rw [hgrow.block b hlt (fun e => h1.ne e.symm)]
    exact h1.hb
  have f2 : w2.frozen? ⟨b, 4, none⟩ = false := Lib.frozen_of_heap hb2 4
  have d1 : w2.cell? ⟨b, 4, none⟩ = some v := by rw [Lib.cell_of_heap hb2]; rfl
  have d3 : w2.cell? ⟨b, 3, none⟩ = some (.pointer (some ⟨b, 3, none⟩)) := by rw [Lib.cell_of_heap hb2]; rfl
  obtain ⟨ao, n', cap, rfl⟩ : ∃ ao n' cap, v' = .slice ao n' cap := by
    rcases hown'.2 with ⟨hv, _⟩ | ⟨g, cap, cur, fz, hv, _⟩
    · exact ⟨_, _, _, hv⟩
    · exact ⟨_, _, _, hv⟩
  go_wp2
  go_ret2
  refine ⟨rfl, .slice ao n' cap, ⟨?_, ?_, hne'⟩, ?_⟩
  · simp [World.setCell, Array.getElem?_modify, hb2]
  · have : w2.ownsRowF 0 5 1 (.slice ao n' cap) (bs ++ Lib.strCells s).length (bs ++ Lib.strCells s) := by
      rw [List.length_append, Lib.strCells_length]; exact hown'
    exact this.kept (row := some b) ⟨rfl, rfl, rfl, by simp [World.setCell], fun k _ hk => Below.heap_setCell _ _ _ _ (fun e => hk (by simp [e]))⟩ (Or.inr hne')
  · refine ⟨?_, ?_, ?_, ?_, ?_, ?_, ?_⟩
    · exact (show (w2.setCell _ _).os = w2.os from rfl).trans (hgrow.os.trans f1.os)
    · exact (show (w2.setCell _ _).tape = w2.tape from rfl).trans (hgrow.tape.trans f1.tape)
    · exact (show (w2.setCell _ _).output = w2.output from rfl).trans (hgrow.output.trans f1.output)
    · have := f1.size; have := hgrow.size; simp [World.setCell]; omega
    · intro r hr
      have hr1 : r < w1.heap.size := by have := f1.size; omega
      by_cases hrb : r = b
      · subst hrb
        rw [← f1.shape r hr]
        simp [World.shape?, World.setCell, Array.getElem?_modify, hb2, h1.hb]
      · rw [shape_hp (Below.heap_setCell _ _ _ _ hrb), hshp r hr1, f1.shape r hr]
    · intro k hk hkb hkv
      rw [Below.heap_setCell _ _ _ _ hkb, hgrow.block k (by have := f1.size; omega) (fun e => hkv e.symm), f1.block k hk hkb hkv]
    · rcases hrow with h | ⟨g, h, hg⟩
      · exact .inl h
      · exact .inr ⟨g, h, Nat.le_trans f1.size hg⟩

theorem shape_freeze {w : World} {a : Addr} {n r : Nat} : (w.freeze a n).shape? r = w.shape? r := by
  unfold World.freeze
  split
  · rfl
  · simp only [World.shape?, Array.getElem?_modify]
    by_cases h : a.block = r
    · subst h
      simp only [if_true]
      cases hb : w.heap[a.block]? with
      | none => rfl
      | some o => cases o <;> rfl
    · rw [if_neg h]
theorem uStr_nil (w : World) : (Builtin.unsafeString_ #[86, 3] 9 #[.pointer none, .int .i64 0]).run Tryz.prog w = .ok (.string ⟨#[]⟩) w := by kernel_rfl
set_option maxRecDepth 100000 in
set_option maxHeartbeats 2000000 in
theorem str_nil (b : Nat) (c0 c1 c2 p c5 : Value) (w : World) (h : BAt w b c0 c1 c2 p (.slice none 0 0) c5 []) :
    Calls Tryz.prog 27 #[.pointer (some ⟨b, 3, none⟩)] w fun e w' => e = .returned (.string ⟨#[]⟩) ∧ BAt w' b c0 c1 c2 p (.slice none 0 0) c5 [] ∧ BFr w w' b (.slice none 0 0) (.slice none 0 0) := by
  have c1' : w.drew.cell? ⟨b, 4, none⟩ = some (.slice none 0 0) := by
    have : w.drew.heap[b]? = some (.cells #[c0, c1, c2, p, .slice none 0 0, c5] 56 (0, 0)) := h.hb
    rw [Lib.cell_of_heap this]; rfl
  have c2' : w.cell? ⟨b, 4, none⟩ = some (.slice none 0 0) := c1'
  have hSD : (Builtin.unsafeSliceData_ #[35] 86 #[.slice none 0 0]).run Tryz.prog w.drew = .ok (.pointer none) w.drew := rfl
  have hUS := uStr_nil w.drew
  have mixed : Tryz.prog.follows .mixedOrders = true := by kernel_rfl
  go_enter Tryz.func27, Tryz.ntmps27
  go_wp2
  go_region
  all_goals (go_wp2; go_ret; exact ⟨rfl, ⟨h.hb, h.own, h.ne⟩, rfl, rfl, rfl, Nat.le_refl _, fun _ _ => rfl, fun _ _ _ _ => rfl, .inl rfl⟩)
set_option maxRecDepth 100000 in
set_option maxHeartbeats 2000000 in
theorem str_in (b : Nat) (c0 c1 c2 p v c5 : Value) (l : List UInt8) (w : World) (h0 : l ≠ []) (h : BAt w b c0 c1 c2 p v c5 (Lib.byteCells l)) :
    Calls Tryz.prog 27 #[.pointer (some ⟨b, 3, none⟩)] w fun e w' => e = .returned (.string ⟨l.toArray⟩) ∧ BAt w' b c0 c1 c2 p v c5 (Lib.byteCells l) ∧ BFr w w' b v v := by
  obtain ⟨hb, hown, hne⟩ := h
  have hl0 : l.length ≠ 0 := by simpa using h0
  rw [Lib.byteCells_length] at hown
  obtain ⟨g, cap, cur, fz, rfl, hbg, hg, hfz, hnc, hcm, hcs, htake⟩ : ∃ g cap cur fz, v = .slice (some ⟨g, 0, none⟩) l.length cap ∧ 0 ≤ g ∧ w.heap[g]? = some (.cells cur 5 fz) ∧ fz.2 ≤ l.length * 1 ∧ l.length ≤ cap ∧ cap ≤ maxLen ∧ cur.size = cap * 1 ∧ cur.toList.take (l.length * 1) = Lib.byteCells l := by
    rcases hown.2 with ⟨_, hz⟩ | ⟨g, cap, cur, fz, hv, r⟩
    · exact absurd hz hl0
    · exact ⟨g, cap, cur, fz, hv, r⟩
  have hgb : g ≠ b := fun e => hne (by simp [Value.ownBlock, e])
  have c1' : w.drew.cell? ⟨b, 4, none⟩ = some (.slice (some ⟨g, 0, none⟩) l.length cap) := by
    have : w.drew.heap[b]? = some (.cells #[c0, c1, c2, p, .slice (some ⟨g, 0, none⟩) l.length cap, c5] 56 (0, 0)) := hb
    rw [Lib.cell_of_heap this]; rfl
  have c2' : w.cell? ⟨b, 4, none⟩ = some (.slice (some ⟨g, 0, none⟩) l.length cap) := c1'
  have hSD : (Builtin.unsafeSliceData_ #[35] 86 #[.slice (some ⟨g, 0, none⟩) l.length cap]).run Tryz.prog w.drew = .ok (.pointer (some ⟨g, 0, none⟩)) w.drew :=
    Lib.run_unsafeSliceData_row _ _ _ _ _ _ (by omega)
  have hUS : (Builtin.unsafeString_ #[86, 3] 9 #[.pointer (some ⟨g, 0, none⟩), .int .i64 l.length]).run Tryz.prog w.drew = .ok (.string ⟨l.toArray⟩) (w.drew.freeze ⟨g, 0, none⟩ l.length) := by
    refine Lib.run_unsafeString_row w.drew 86 3 9 5 tBy cellsB g cur.size (by have hg' : w.drew.heap[g]? = some (.cells cur 5 fz) := hg; simp [World.shape?, hg']) l h0 (by omega) (by unfold maxLen at hcm; omega) ?_
    intro j x hx
    have := hown.cells (g := g) rfl j (.int .u8 x.toNat) (by simp [Lib.byteCells, hx])
    exact this
  have fin : BAt (w.drew.freeze ⟨g, 0, none⟩ l.length) b c0 c1 c2 p (.slice (some ⟨g, 0, none⟩) l.length cap) c5 (Lib.byteCells l) ∧ BFr w (w.drew.freeze ⟨g, 0, none⟩ l.length) b (.slice (some ⟨g, 0, none⟩) l.length cap) (.slice (some ⟨g, 0, none⟩) l.length cap) := by
    have hoth : ∀ k, k ≠ g → (w.drew.freeze ⟨g, 0, none⟩ l.length).heap[k]? = w.heap[k]? := by
      intro k hk
      unfold World.freeze
      split
      · rfl
      · simp only [Array.getElem?_modify, if_neg hk.symm]; rfl
    have hgf : ∃ fz', (w.drew.freeze ⟨g, 0, none⟩ l.length).heap[g]? = some (.cells cur 5 fz') ∧ fz'.2 ≤ l.length := by
      unfold World.freeze
      have hg' : w.drew.heap[g]? = some (.cells cur 5 fz) := hg
      obtain ⟨lo, hi⟩ := fz
      rw [if_neg hl0]
      simp only [Array.getElem?_modify, if_true, hg', Option.map_some]
      refine ⟨_, rfl, ?_⟩
      simp only at hfz
      split <;> simp <;> omega
    obtain ⟨fz', hg1, hfz1⟩ := hgf
    refine ⟨⟨by rw [hoth b hgb.symm]; exact hb, ?_, hne⟩, ?_⟩
    · rw [Lib.byteCells_length]
      exact ⟨hown.1, .inr ⟨g, cap, cur, fz', rfl, hbg, hg1, by omega, hnc, hcm, hcs, htake⟩⟩
    · refine ⟨?_, ?_, ?_, ?_, fun r _ => shape_freeze, fun k _ _ hkv => hoth k (fun e => hkv (by simp [Value.ownBlock, e])), .inl rfl⟩
      all_goals (unfold World.freeze; split <;> first | rfl | exact Nat.le_refl _ | (simp only [Array.size_modify]; exact Nat.le_refl _))
  have mixed : Tryz.prog.follows .mixedOrders = true := by kernel_rfl
  go_enter Tryz.func27, Tryz.ntmps27
  go_wp2
  go_region
  all_goals (go_wp2; go_ret; exact ⟨rfl, fin⟩)
end Go.Proofs.YtnppmcgmmdcpiaaGreatDoor
namespace Go.Proofs.YtnppmcgmmdcpiaaGreatDoor
open Go Go.Proofs Go.RowKit
/-! ### the sum of a line -/
def sumT (l : List UInt8) : Nat → Nat
  | 0 => 0
  | k + 1 => sumT l k + (k + 1) * (l.getD k 0).toNat
def sumB (l : List UInt8) : Nat := sumT l l.length % 9973
theorem sumT_le (l : List UInt8) : ∀ k, k ≤ 1000000 → sumT l k ≤ k * 255000255
  | 0, _ => by simp [sumT]
  | k + 1, h => by
    have h1 := sumT_le l k (by omega)
    have h2 : (l.getD k 0).toNat ≤ 255 := by have := (l.getD k 0).toNat_lt; omega
    have h3 : (k + 1) * (l.getD k 0).toNat ≤ (k + 1) * 255 := Nat.mul_le_mul_left _ h2
    rw [sumT]
    have h4 : (k + 1) * 255 ≤ 255000255 := by omega
    rw [show (k + 1) * 255000255 = k * 255000255 + 255000255 from Nat.succ_mul _ _]
    generalize (k + 1) * (l.getD k 0).toNat = q at *
    omega
theorem sum_step {l : List UInt8} {k : Nat} (h : k < 1000000) : wrap64 ((sumT l k : Int) + wrap64 (((k : Int) + 1) * ((l.getD k 0).toNat : Int))) = ((sumT l (k + 1) : Nat) : Int) := by
  have h1 := sumT_le l (k + 1) (by omega)
  rw [sumT] at h1 ⊢
  have e : ((k : Int) + 1) * ((l.getD k 0).toNat : Int) = (((k + 1) * (l.getD k 0).toNat : Nat) : Int) := by
    rw [Int.natCast_mul]; rfl
  rw [e]
  have h4 : (k + 1) * 255000255 ≤ 1000000 * 255000255 := Nat.mul_le_mul_right _ (by omega)
  generalize (k + 1) * (l.getD k 0).toNat = q at *
  generalize sumT l k = p at *
  rw [IntWalk.wrap64_in (q : Int) ⟨by omega, by omega⟩]
  rw [show (p : Int) + (q : Int) = ((p + q : Nat) : Int) by omega]
  exact IntWalk.wrap64_in _ ⟨by omega, by omega⟩

set_option maxRecDepth 100000 in
set_option maxHeartbeats 2000000 in
theorem sum_in (s : ByteArray) (hs : s.size ≤ 1000000) (w : World) :
    Calls Tryz.prog 55 #[.string s] w fun e w' => e = .returned (.int .i64 (sumB s.data.toList)) ∧ Below w.heap.size w w' := by
  have hcv := Lib.run_convert_string_bytes (P := Tryz.prog) w 9 35 5 s (u := .string) (by kernel_rfl) (by kernel_rfl) (by kernel_rfl)
  have hbw := Lib.bytesWorld_below w 5 s
  have hcell := Lib.bytesWorld_cell w 5 s
  have hl : s.data.toList.length = s.size := (Lib.size_eq s).symm
  generalize Lib.bytesWorld w 5 s = W1 at hcv hbw hcell
  go_enter Tryz.func55, Tryz.ntmps55
  go_wp2
  go_loop [3, 9] (fun n i => ∃ k : Nat, k ≤ s.size ∧ i = .int .i64 k ∧ n = .int .i64 ((sumT s.data.toList k : Nat) : Int)) (fun _ i => s.size - (intOf i).toNat)
  case atStart => exact ⟨0, Nat.zero_le _, rfl, rfl⟩
  case round =>
    obtain ⟨k, hk, rfl, rfl⟩ := hrel
    by_cases hkn : k < s.size
    · have hc := hcell k hkn
      have hst := sum_step (l := s.data.toList) (k := k) (by omega)
      have hb : (s.data.toList.getD k 0).toNat ≤ 255 := by have := (s.data.toList.getD k 0).toNat_lt; omega
      generalize (s.data.toList.getD k 0).toNat = c at hc hst hb
      clear hcell
      have hwc : wrap64 (c : Int) = (c : Int) := IntWalk.wrap64_in _ ⟨by omega, by omega⟩
      go_wp2
      exact ⟨⟨k + 1, by omega, by simp, by rw [hst]⟩, by simp [intOf]; omega⟩
    · have hke : k = s.size := by omega
      subst hke
      go_wp2
      go_ret
      refine ⟨?_, hbw⟩
      have e1 : ((sumT s.data.toList s.size % 9973 : Nat) : Int) = (sumT s.data.toList s.size : Int) % 9973 := by omega
      rw [sumB, hl, e1]
      rfl
end Go.Proofs.YtnppmcgmmdcpiaaGreatDoor
namespace Go.Proofs.YtnppmcgmmdcpiaaGreatDoor
open Go Go.Proofs Go.RowKit
def lays_ren : Go.Shelf.Ren where
  f := fun n => match n with
    | 129 => 134
    | 171 => 64
    | 243 => 94
    | 246 => 111
    | 283 => 122
    | 284 => 123
    | 285 => 124
    | 286 => 125
    | 317 => 133
    | 318 => 135
    | 319 => 136
    | 320 => 137
    | 337 => 141
    | 338 => 142
    | _ => 0
  t := fun n => match n with
    | 0 => 0
    | 2 => 2
    | 3 => 3
    | 4 => 4
    | 5 => 5
    | 9 => 9
    | 20 => 20
    | 37 => 35
    | 46 => 174
    | 51 => 180
    | 53 => 167
    | 171 => 166
    | 173 => 170
    | 212 => 179
    | 213 => 181
    | 232 => 195
    | 233 => 196
    | _ => 0
  g := fun n => match n with
    | 17 => 4
    | 18 => 7
    | 19 => 8
    | _ => 0
theorem lays_n171 : Go.Proofs.LaysM.n171 Tryz.prog lays_ren where
  mixed := by kernel_rfl
  f129 := by kernel_rfl
  f171 := by kernel_rfl
  f243 := by kernel_rfl
  f246 := by kernel_rfl
  f283 := by kernel_rfl
  f284 := by kernel_rfl
  f285 := by kernel_rfl
  f286 := by kernel_rfl
  f317 := by kernel_rfl
  f318 := by kernel_rfl
  f319 := by kernel_rfl
  f320 := by kernel_rfl
  f337 := by kernel_rfl
  f338 := by kernel_rfl
  t0 := by kernel_rfl
  a0 := fun w => by kernel_rfl
  z0 := fun w => by kernel_rfl
  v0 := fun w => by kernel_rfl
  t2 := by kernel_rfl
  a2 := fun w => by kernel_rfl
  z2 := fun w => by kernel_rfl
  v2 := fun w => by kernel_rfl
  t3 := by kernel_rfl
  a3 := fun w => by kernel_rfl
  z3 := fun w => by kernel_rfl
  v3 := fun w => by kernel_rfl
  t4 := by kernel_rfl
  a4 := fun w => by kernel_rfl
  z4 := fun w => by kernel_rfl
  v4 := fun w => by kernel_rfl
  t5 := by kernel_rfl
  a5 := fun w => by kernel_rfl
  z5 := fun w => by kernel_rfl
  v5 := fun w => by kernel_rfl
  t9 := by kernel_rfl
  a9 := fun w => by kernel_rfl
  z9 := fun w => by kernel_rfl
  v9 := fun w => by kernel_rfl
  t20 := by kernel_rfl
  a20 := fun w => by kernel_rfl
  z20 := fun w => by kernel_rfl
  v20 := fun w => by kernel_rfl
  t37 := by kernel_rfl
  a37 := fun w => by kernel_rfl
  z37 := fun w => by kernel_rfl
  v37 := fun w => by kernel_rfl
  t46 := by kernel_rfl
  a46 := fun w => by kernel_rfl
  z46 := fun w => by kernel_rfl
  v46 := fun w => by kernel_rfl
  t51 := by kernel_rfl
  a51 := fun w => by kernel_rfl
  z51 := fun w => by kernel_rfl
  v51 := fun w => by kernel_rfl
  t53 := by kernel_rfl
  a53 := fun w => by kernel_rfl
  z53 := fun w => by kernel_rfl
  v53 := fun w => by kernel_rfl
  t171 := by kernel_rfl
  a171 := fun w => by kernel_rfl
  z171 := fun w => by kernel_rfl
  v171 := fun w => by kernel_rfl
  t173 := by kernel_rfl
  a173 := fun w => by kernel_rfl
  z173 := fun w => by kernel_rfl
  v173 := fun w => by kernel_rfl
  t212 := by kernel_rfl
  a212 := fun w => by kernel_rfl
  z212 := fun w => by kernel_rfl
  v212 := fun w => by kernel_rfl
  t213 := by kernel_rfl
  a213 := fun w => by kernel_rfl
  z213 := fun w => by kernel_rfl
  t232 := by kernel_rfl
  a232 := fun w => by kernel_rfl
  z232 := fun w => by kernel_rfl
  v232 := fun w => by kernel_rfl
  t233 := by kernel_rfl
  a233 := fun w => by kernel_rfl
  z233 := fun w => by kernel_rfl
  v233 := fun w => by kernel_rfl
  g17 := by kernel_rfl
  g18 := by kernel_rfl
  g19 := by kernel_rfl
  i0 := by kernel_rfl
  i2 := by kernel_rfl
  i3 := by kernel_rfl
  i4 := by kernel_rfl
  i5 := by kernel_rfl
  i9 := by kernel_rfl
  i20 := by kernel_rfl
  i37 := by kernel_rfl
  i46 := by kernel_rfl
  i51 := by kernel_rfl
  i53 := by kernel_rfl
  i171 := by kernel_rfl
  i173 := by kernel_rfl
  i212 := by kernel_rfl
  i232 := by kernel_rfl
  i233 := by kernel_rfl
  m17 := by kernel_rfl
  m18 := by kernel_rfl
  m19 := by kernel_rfl
theorem itoa_in (n : Int) (h0 : -9223372036854775808 ≤ n) (h1 : n ≤ 9223372036854775807) (w : World) (htab : Lib.TabIs Tryz.prog w "internal/strconv.uint64pow10" .u64 Lib.pow10Tab) :
    Calls Tryz.prog 64 #[.int .i64 n] w fun e w' => e = .returned (.string ⟨(Lib.itoa n).toArray⟩) ∧ ∃ k os, w' = Go.Sort.grow (w.drewN k) os :=
  Any.strconv_Itoa lays_n171 n h0 h1 w htab
end Go.Proofs.YtnppmcgmmdcpiaaGreatDoor
namespace Go.Proofs.YtnppmcgmmdcpiaaGreatDoor
open Go.Eng
set_option maxRecDepth 20000
/-! ### a book's builder as rows -/
open Go.RowKit in
theorem holds_turn {w w' : World} {L L' : List Ent} {ro : Addr → Option Value} (hw : Holds w ⟨L, ro⟩) (hos : w'.os = w.os) (htape : w'.tape = w.tape) (hout : w'.output = w.output) (hsize : w.heap.size ≤ w'.heap.size)
    (hshp : ∀ r, r < w.heap.size → w'.shape? r = w.shape? r) (hk : ∀ r, r < w.heap.size → (∀ e ∈ L, e.id ≠ some r) → w'.heap[r]? = w.heap[r]?) (hnd : (L'.filterMap Ent.id).Nodup) (hok : ∀ e ∈ L', e.ok w')
    (hid : ∀ e ∈ L', ∀ r, e.id = some r → (∃ e0 ∈ L, e0.id = some r) ∨ w.heap.size ≤ r) : Holds w' ⟨L', ro⟩ ∧ Fr w w' ⟨L, ro⟩ ⟨L', ro⟩ := by
  refine ⟨⟨hnd, hok, fun a v hv => ?_, fun a v hv e he hb => ?_⟩, ⟨hos, htape, hout, hsize, hshp, hk, hid, fun _ _ h => h, fun _ _ h => .inl h⟩⟩
  · have h1 := hw.ro a v hv
    exact (World.cell?_of_block (hk _ (cell_block_lt h1) (fun e he => hw.ap a v hv e he))).trans h1
  · rcases hid e he _ hb with ⟨e0, h0, h1⟩ | h1
    · exact hw.ap a v hv e0 h0 h1
    · have := cell_block_lt (hw.ro a v hv); omega
open Go.RowKit in
theorem holds_below {w w' : World} {h : H} (hw : Holds w h) (hb : Below w.heap.size w w') : Holds w' h ∧ Fr w w' h h := by
  obtain ⟨own, ro⟩ := h
  have hshp : ∀ r, r < w.heap.size → w'.shape? r = w.shape? r := fun r hr => shape_of_heap (hb.block r hr)
  refine holds_turn hw hb.os hb.tape hb.output hb.size hshp (fun r hr _ => hb.block r hr) hw.nd (fun e he => Ent.ok_of_block (fun r hr => hb.block r (ids_lt hw he hr)) hshp (hw.ok e he)) (fun e he r hr => .inl ⟨e, he, hr⟩)

def slV (s : SV) : Value := .slice s.a s.len s.cap
/-- a word on a block's shape -/
def shE (r T n : Nat) : Ent := ⟨none, [.nilFunc, .pointer (some ⟨r, T, none⟩)], n⟩
/-- a builder's buffer: nothing yet, or a row of bytes whose head may be frozen -/
def BufE (sb : SV) (e : Ent) (l : List UInt8) : Prop :=
  (sb = ⟨none, 0, 0⟩ ∧ e = ⟨none, [], 0⟩ ∧ l = []) ∨ ∃ g cap, sb = ⟨some ⟨g, 0, none⟩, l.length, cap⟩ ∧ e = ⟨none, .pointer (some ⟨g, 5, none⟩) :: Lib.byteCells l, cap⟩ ∧ l ≠ [] ∧ l.length ≤ cap ∧ cap ≤ maxLen
theorem BufE.nil : BufE ⟨none, 0, 0⟩ ⟨none, [], 0⟩ [] := .inl ⟨rfl, rfl, rfl⟩
theorem BufE.row {sb : SV} {e : Ent} {l : List UInt8} (h : BufE sb e l) {w : World} (hok : e.ok w) : w.ownsRowF 0 5 1 (slV sb) (Lib.byteCells l).length (Lib.byteCells l) := by
  refine ⟨by simp, ?_⟩
  rcases h with ⟨rfl, rfl, rfl⟩ | ⟨g, cap, rfl, rfl, h0, h1, h2⟩
  · exact .inl ⟨rfl, rfl⟩
  · obtain ⟨arr, fz, g1, g2, g3, g4⟩ := hok.head ⟨g, 5, none⟩ _ rfl
    refine .inr ⟨g, cap, arr, fz, by rw [Lib.byteCells_length]; rfl, Nat.zero_le _, g1, by simpa using g2, by rw [Lib.byteCells_length]; exact h1, h2, by simpa using g3, ?_⟩
    rw [Nat.mul_one]
    exact (List.prefix_iff_eq_take.1 g4).symm
theorem BufE.blk {sb : SV} {e : Ent} {l : List UInt8} (h : BufE sb e l) : e.id = (slV sb).ownBlock := by
  rcases h with ⟨rfl, rfl, rfl⟩ | ⟨g, cap, rfl, rfl, h0, h1, h2⟩ <;> rfl
theorem BufE.of {w : World} {v : Value} {l : List UInt8} (h0 : l ≠ []) (h : w.ownsRowF 0 5 1 v (Lib.byteCells l).length (Lib.byteCells l)) : ∃ sb e, v = slV sb ∧ BufE sb e l ∧ e.ok w ∧ e.id = v.ownBlock := by
  rcases h.2 with ⟨rfl, hz⟩ | ⟨g, cap, cur, fz, rfl, _, hg, hfz, hnc, hcm, hcs, htake⟩
  · rw [Lib.byteCells_length] at hz
    exact absurd (List.eq_nil_of_length_eq_zero hz) h0
  · rw [Lib.byteCells_length] at hnc
    refine ⟨⟨some ⟨g, 0, none⟩, l.length, cap⟩, ⟨none, .pointer (some ⟨g, 5, none⟩) :: Lib.byteCells l, cap⟩, by rw [Lib.byteCells_length]; rfl, .inr ⟨g, cap, rfl, rfl, h0, hnc, hcm⟩, ⟨fun r hr => (by cases hr), fun a bs hf => ?_, fun a hf => (by cases hf)⟩, rfl⟩
    cases hf
    refine ⟨cur, fz, hg, by simpa using hfz, by simpa using hcs, ?_⟩
    rw [Nat.mul_one] at htake
    exact List.prefix_iff_eq_take.2 htake.symm

structure BkS where
  r : Nat
  sf : SV
  sc : SV
  sh : SV
  pa : Bool
  sb : SV
  n : Int
  eb : Ent
  l : List UInt8
def paV (r : Nat) : Bool → Value
  | true => .pointer (some ⟨r, 3, none⟩)
  | false => .pointer none
def boE (s : BkS) : Ent := ⟨some s.r, [slV s.sf, slV s.sc, slV s.sh, paV s.r s.pa, slV s.sb, .int .i64 s.n], 6⟩
def boL (s : BkS) : List Ent := [boE s, shE s.r 56 6, s.eb]

theorem bo_at {w : World} {s : BkS} {ro : Addr → Option Value} (hw : Holds w ⟨boL s, ro⟩) (hb : BufE s.sb s.eb s.l) : BAt w s.r (slV s.sf) (slV s.sc) (slV s.sh) (paV s.r s.pa) (slV s.sb) (.int .i64 s.n) (Lib.byteCells s.l) := by
  obtain ⟨arr, T, g1, g2, g3⟩ := (hw.ok (boE s) (by simp [boL])).row s.r rfl
  have h2 := (hw.ok (shE s.r 56 6) (by simp [boL])).shp ⟨s.r, 56, none⟩ rfl
  have hok := hw.ok s.eb (by simp [boL])
  have harr : arr = #[slV s.sf, slV s.sc, slV s.sh, paV s.r s.pa, slV s.sb, .int .i64 s.n] := by
    apply Array.toList_inj.1
    refine (g3.eq_of_length ?_).symm
    rw [Array.length_toList, g2]; rfl
  subst harr
  have hT : T = 56 := by
    simp only [World.shape?, g1, shE] at h2
    simpa using h2
  subst hT
  refine ⟨g1, hb.row hok, fun hc => ?_⟩
  have nd := hw.nd
  rw [← hb.blk] at hc
  simp [boL, boE, shE, Ent.id, Ent.fz] at nd
  simp only [Ent.id, Ent.fz] at hc
  simp_all
end Go.Proofs.YtnppmcgmmdcpiaaGreatDoor
namespace Go.Proofs.YtnppmcgmmdcpiaaGreatDoor
open Go.Eng
set_option maxRecDepth 20000
/-! ### what the builder's calls do, as rows -/
theorem bo_turn {w w' : World} {s s' : BkS} {ro : Addr → Option Value} (hw : Holds w ⟨boL s, ro⟩) (hb : BufE s.sb s.eb s.l) (hr : s'.r = s.r) (hf : BFr w w' s.r (slV s.sb) (slV s'.sb))
    (h : BAt w' s.r (slV s'.sf) (slV s'.sc) (slV s'.sh) (paV s.r s'.pa) (slV s'.sb) (.int .i64 s'.n) (Lib.byteCells s'.l)) (hok : s'.eb.ok w') (hid : s'.eb.id = (slV s'.sb).ownBlock) :
    Holds w' ⟨boL s', ro⟩ ∧ Fr w w' ⟨boL s, ro⟩ ⟨boL s', ro⟩ := by
  obtain ⟨r', sf', sc', sh', pa', sb', n', eb', l'⟩ := s'
  simp only at hr hf h hok hid
  subst hr
  have hsr : s.r < w.heap.size := ids_lt hw (e := boE s) (by simp [boL]) rfl
  have hebid := hb.blk
  have hT : w'.shape? s.r = some (56, 6) := by simp [World.shape?, h.hb]
  refine holds_turn hw hf.os hf.tape hf.output hf.size hf.shape (fun k hk hn => ?_) ?_ ?_ ?_
  · refine hf.block k hk (fun e => ?_) (fun e => ?_)
    · exact hn (boE s) (by simp [boL]) (by rw [e]; rfl)
    · exact hn s.eb (by simp [boL]) (by rw [hebid, e])
  · have hne : eb'.id ≠ some s.r := by rw [hid]; exact h.ne
    have e1 : (boE { r := s.r, sf := sf', sc := sc', sh := sh', pa := pa', sb := sb', n := n', eb := eb', l := l' }).id = some s.r := rfl
    have e2 : (shE s.r 56 6).id = none := rfl
    simp only [boL, List.filterMap_cons, List.filterMap_nil, e1, e2]
    cases hi : eb'.id with
    | none => simp
    | some g =>
      simp only [List.nodup_cons, List.mem_singleton, List.not_mem_nil, not_false_eq_true, List.nodup_nil, and_true]
      intro e
      exact hne (by rw [hi, e])
  · intro e he
    simp only [boL, List.mem_cons, List.not_mem_nil, or_false] at he
    rcases he with rfl | rfl | rfl
    · refine ⟨fun r hr => ?_, fun a bs hf => (by cases hf), fun a hf => (by cases hf)⟩
      cases hr
      exact ⟨_, _, h.hb, rfl, List.prefix_refl _⟩
    · refine ⟨fun r hr => (by cases hr), fun a bs hf => (by cases hf), fun a hf => ?_⟩
      cases hf
      exact hT
    · exact hok
  · intro e he k hk
    simp only [boL, List.mem_cons, List.not_mem_nil, or_false] at he
    rcases he with rfl | rfl | rfl
    · cases hk
      exact .inl ⟨boE s, by simp [boL], rfl⟩
    · cases hk
    · rw [hid] at hk
      rcases hf.row with e | ⟨g, e, hg⟩
      · exact .inl ⟨s.eb, by simp [boL], by rw [hebid, ← e, hk]⟩
      · rw [e] at hk; cases hk; exact .inr hg

theorem pa_or (r : Nat) (pa : Bool) : paV r pa = .pointer none ∨ paV r pa = .pointer (some ⟨r, 3, none⟩) := by cases pa <;> simp [paV]

theorem ws_c {s : BkS} {t : ByteArray} (hb : BufE s.sb s.eb s.l) (h0 : t.size ≠ 0) (hlen : s.l.length + t.size ≤ 1000000000) {own : List Ent} {ro : Addr → Option Value} {post : Value → H → Prop} (A C : List Ent) (hown : own = A ++ (boL s ++ C))
    (hk : ∀ sb' eb', BufE sb' eb' (s.l ++ t.data.toList) → post (.tuple #[.int .i64 t.size, .nilIface]) ⟨A ++ (boL { s with pa := true, sb := sb', eb := eb', l := s.l ++ t.data.toList } ++ C), ro⟩) :
    SemCall Tryz.prog 42 (List.toArray [.pointer (some (Addr.mk s.r 3 none)), .string t]) ⟨own, ro⟩ post := by
  subst hown
  refine SemCall.frame (p := fun v h => ∃ sb' eb', BufE sb' eb' (s.l ++ t.data.toList) ∧ v = .tuple #[.int .i64 t.size, .nilIface] ∧ h = ⟨boL { s with pa := true, sb := sb', eb := eb', l := s.l ++ t.data.toList }, ro⟩) (fun w hw => ?_) ?_
  · refine (ws_in s.r _ _ _ _ _ _ _ t w (pa_or s.r s.pa) (bo_at hw hb) (by rw [Lib.byteCells_length]; exact hlen)).mono ?_
    rintro e w' ⟨rfl, v', h1, h2⟩
    have e1 : Lib.byteCells s.l ++ Lib.strCells t = Lib.byteCells (s.l ++ t.data.toList) := by rw [Lib.strCells_eq, Lib.byteCells_append]
    rw [e1] at h1
    have hne : s.l ++ t.data.toList ≠ [] := by
      intro hc
      have := congrArg List.length hc
      rw [List.length_append, ← Lib.size_eq, List.length_nil] at this
      omega
    obtain ⟨sb', eb', rfl, hb', hok, hid⟩ := BufE.of hne h1.own
    have := bo_turn (s' := { s with pa := true, sb := sb', eb := eb', l := s.l ++ t.data.toList }) hw hb rfl h2 h1 hok hid
    exact ⟨_, _, rfl, this.1, this.2, sb', eb', hb', rfl, rfl⟩
  · rintro v L' ro' ⟨sb', eb', hb', rfl, he⟩ _
    cases he
    exact hk sb' eb' hb'

theorem str_c {s : BkS} (hb : BufE s.sb s.eb s.l) {own : List Ent} {ro : Addr → Option Value} {post : Value → H → Prop} (A C : List Ent) (hown : own = A ++ (boL s ++ C))
    (hk : post (.string ⟨s.l.toArray⟩) ⟨own, ro⟩) : SemCall Tryz.prog 27 (List.toArray [.pointer (some (Addr.mk s.r 3 none))]) ⟨own, ro⟩ post := by
  subst hown
  refine SemCall.frame (p := fun v h => v = .string ⟨s.l.toArray⟩ ∧ h = ⟨boL s, ro⟩) (fun w hw => ?_) ?_
  · have fin : ∀ w', BAt w' s.r (slV s.sf) (slV s.sc) (slV s.sh) (paV s.r s.pa) (slV s.sb) (.int .i64 s.n) (Lib.byteCells s.l) → BFr w w' s.r (slV s.sb) (slV s.sb) → s.eb.ok w' → ∃ v h', Ending.returned (.string ⟨s.l.toArray⟩) = .returned v ∧ Holds w' h' ∧ Fr w w' ⟨boL s, ro⟩ h' ∧ v = .string ⟨s.l.toArray⟩ ∧ h' = ⟨boL s, ro⟩ := by
      intro w' h1 h2 h3
      have := bo_turn (s' := s) hw hb rfl h2 h1 h3 hb.blk
      exact ⟨_, _, rfl, this.1, this.2, rfl, rfl⟩
    by_cases hl : s.l = []
    · have hnil : s.sb = ⟨none, 0, 0⟩ ∧ s.eb = ⟨none, [], 0⟩ := by
        rcases hb with ⟨h1, h2, _⟩ | ⟨g, cap, _, _, h0, _⟩
        · exact ⟨h1, h2⟩
        · exact absurd hl h0
      have h := bo_at hw hb
      rw [hl, hnil.1] at h
      refine (str_nil s.r _ _ _ _ _ w h).mono ?_
      rintro e w' ⟨rfl, h1, h2⟩
      rw [hl] at fin
      rw [hl]
      refine fin w' (by rw [hnil.1]; exact h1) (by rw [hnil.1]; exact h2) ?_
      rw [hnil.2]
      exact ⟨fun r hr => (by cases hr), fun a bs hf => (by cases hf), fun a hf => (by cases hf)⟩
    · refine (str_in s.r _ _ _ _ _ _ s.l w hl (bo_at hw hb)).mono ?_
      rintro e w' ⟨rfl, h1, h2⟩
      obtain ⟨sb', eb', he, hb', hok, hid⟩ := BufE.of hl h1.own
      refine fin w' h1 h2 ?_
      have e2 : eb' = s.eb := by
        rcases hb' with ⟨_, _, h0⟩ | ⟨g, cap, rfl, rfl, _⟩
        · exact absurd h0 hl
        · rcases hb with ⟨_, _, h0⟩ | ⟨g2, cap2, e3, e4, _⟩
          · exact absurd h0 hl
          · rw [e3] at he
            simp only [slV, Value.slice.injEq, Option.some.injEq, Addr.mk.injEq] at he
            rw [e4, he.1.1, he.2.2]
      rw [← e2]
      exact hok
  · rintro v L' ro' ⟨rfl, he⟩ _
    cases he
    exact hk

theorem sum_c {t : ByteArray} (ht : t.size ≤ 1000000) {h : H} {post : Value → H → Prop} (hk : post (.int .i64 (sumB t.data.toList)) h) : SemCall Tryz.prog 55 (List.toArray [.string t]) h post := by
  intro w hw
  refine (sum_in t ht w).mono ?_
  rintro e w' ⟨rfl, hb⟩
  have := holds_below hw hb
  exact ⟨_, _, rfl, this.1, this.2, hk⟩

/-- the powers of ten, as the library lays them -/
def HasTab (ro : Addr → Option Value) : Prop := ∀ i, i < 20 → ro ⟨4, i, none⟩ = some (.int .u64 ((10 ^ i : Nat) : Int))
theorem HasTab.up {ro ro' : Addr → Option Value} (h : HasTab ro) (m : ∀ a v, ro a = some v → ro' a = some v) : HasTab ro' := fun i hi => m _ _ (h i hi)
theorem tab_is {w : World} {own : List Ent} {ro : Addr → Option Value} {T : Nat} (hw : Holds w ⟨own, ro⟩) (ht : shE 4 T 20 ∈ own) (hr : HasTab ro) : Lib.TabIs Tryz.prog w "internal/strconv.uint64pow10" .u64 Lib.pow10Tab := by
  have h2 := (hw.ok _ ht).shp ⟨4, T, none⟩ rfl
  have hg : Tryz.prog.globalNamed "internal/strconv.uint64pow10" = some 4 := by kernel_rfl
  unfold Lib.TabIs World.var?
  rw [hg]
  simp only [Option.bind_some]
  simp only [World.shape?] at h2
  split at h2
  · rename_i arr e fz ha
    simp only [shE, Option.some.injEq, Prod.mk.injEq] at h2
    rw [ha]
    simp only [Option.some.injEq]
    apply Array.ext
    · rw [h2.2]; simp [Lib.pow10Tab]
    · intro i h1 h3
      have hi : i < 20 := by rw [h2.2] at h1; exact h1
      have := hw.ro _ _ (hr i hi)
      simp only [World.cell?, ha] at this
      simp only [Option.isSome_none, Bool.false_eq_true, if_false, Array.getElem?_eq_getElem h1, Option.some.injEq] at this
      rw [this]
      simp [Lib.pow10Tab]
  · cases h2
open Go.RowKit in
theorem below_grow {w w' : World} {k : Nat} {os : Array Obj} (h : w' = Go.Sort.grow (w.drewN k) os) : Below w.heap.size w w' := by
  subst h
  exact ⟨rfl, rfl, rfl, by simp [Go.Sort.grow], fun j hj => by
    show (w.heap ++ os)[j]? = w.heap[j]?
    rw [Array.getElem?_append_left hj]⟩
theorem itoa_c {n : Int} (h0 : -9223372036854775808 ≤ n) (h1 : n ≤ 9223372036854775807) {own : List Ent} {ro : Addr → Option Value} {T : Nat} {post : Value → H → Prop} (ht : shE 4 T 20 ∈ own) (hr : HasTab ro)
    (hk : post (.string ⟨(Lib.itoa n).toArray⟩) ⟨own, ro⟩) : SemCall Tryz.prog 64 (List.toArray [.int .i64 n]) ⟨own, ro⟩ post := by
  intro w hw
  refine (itoa_in n h0 h1 w (tab_is hw ht hr)).mono ?_
  rintro e w' ⟨rfl, k, os, he⟩
  have := holds_below hw (below_grow he)
  exact ⟨_, _, rfl, this.1, this.2, hk⟩
end Go.Proofs.YtnppmcgmmdcpiaaGreatDoor
namespace Go.Proofs.YtnppmcgmmdcpiaaGreatDoor
open Go.Eng
set_option maxRecDepth 20000
/-! ### bytes -/
def bs (l : List UInt8) : ByteArray := ⟨l.toArray⟩
@[simp] theorem bs_size (l : List UInt8) : (bs l).size = l.length := by simp [bs, ByteArray.size]
@[simp] theorem bs_data (l : List UInt8) : (bs l).data.toList = l := by simp [bs]
@[simp] theorem bs_app (l m : List UInt8) : bs l ++ bs m = bs (l ++ m) := by
  apply ByteArray.ext
  rw [ByteArray.data_append]
  simp [bs]
theorem bs_of (s : ByteArray) : s = bs s.data.toList := by cases s; simp [bs]
theorem bs_inj {l m : List UInt8} : bs l = bs m ↔ l = m := ⟨fun h => by have := congrArg (fun s => s.data.toList) h; simpa using this, fun h => by rw [h]⟩
theorem itoa_nn {n : Int} (h : 0 ≤ n) : Lib.itoa n = Lib.decDigits n.toNat := by unfold Lib.itoa; rw [if_neg (by omega)]
theorem dec_len {n : Nat} (h : n ≤ 9223372036854775807) : (Lib.decDigits n).length ≤ 21 := by
  have := Lib.itoa_length_le (n : Int) (by omega) (by omega)
  rwa [itoa_nn (by omega), Int.toNat_natCast] at this

/-- a line, and how it is put down -/
def lineB (w : UInt8) (t : Int) (want : List Int) : List UInt8 := w :: 32 :: (Lib.decDigits t.toNat ++ want.flatMap fun n => 32 :: Lib.decDigits n.toNat)
def lineF (l : List UInt8) : List UInt8 := l ++ 32 :: (Lib.decDigits (sumB l) ++ [10])
theorem lineF_ne (l : List UInt8) : lineF l ≠ [] := by simp [lineF]
theorem sumB_lt (l : List UInt8) : sumB l < 9973 := Nat.mod_lt _ (by omega)
theorem flat_len : ∀ {want : List Int}, (∀ x ∈ want, 0 ≤ x ∧ x ≤ 1000) → (want.flatMap fun n => 32 :: Lib.decDigits n.toNat).length ≤ 22 * want.length
  | [], _ => by simp
  | n :: want, h => by
    have h1 := flat_len (want := want) (fun x hx => h x (by simp [hx]))
    have h2 := h n (by simp)
    have h3 := dec_len (n := n.toNat) (by omega)
    simp only [List.flatMap_cons, List.length_append, List.length_cons]
    omega
theorem lineB_len {w : UInt8} {t : Int} {want : List Int} (h0 : 0 ≤ t ∧ t ≤ 1000) (h : ∀ x ∈ want, 0 ≤ x ∧ x ≤ 1000) (h3 : want.length ≤ 3) : (lineB w t want).length ≤ 89 := by
  have h1 := flat_len h
  have h2 := dec_len (n := t.toNat) (by omega)
  simp only [lineB, List.length_cons, List.length_append]
  omega
theorem lineF_len {l : List UInt8} (h : l.length ≤ 89) : (lineF l).length ≤ 112 := by
  have h2 := dec_len (n := sumB l) (by have := sumB_lt l; omega)
  simp only [lineF, List.length_cons, List.length_append, List.length_nil]
  omega

theorem digit_at {n : Nat} (h : n < 10) : ByteArray.extract (ByteArray.mk (List.toArray [(48 : UInt8), (49 : UInt8), (50 : UInt8), (51 : UInt8), (52 : UInt8), (53 : UInt8), (54 : UInt8), (55 : UInt8), (56 : UInt8), (57 : UInt8)])) n (n + 1) = bs (Lib.decDigits n) := by
  have e : Lib.decDigits n = [UInt8.ofNat (48 + n)] := by rw [Lib.decDigits, dif_pos h]
  rw [e]
  rcases n with _ | _ | _ | _ | _ | _ | _ | _ | _ | _ | n
  all_goals first | rfl | omega
theorem digits_n : ∀ (n : Nat), n ≤ 9223372036854775807 → ∀ {h : H} {post : Value → H → Prop}, post (.string (bs (Lib.decDigits n))) h → SemCall Tryz.prog 79 (List.toArray [.int .i64 (n : Int)]) h post := by
  intro n
  induction n using Nat.strongRecOn with
  | _ n ih =>
    intro hn h post hk
    refine f79_call _ _ post (VIf_dec (fun h10 => ?_) (fun h10 => ?_))
    · have hn10 : n < 10 := by omega
      refine ⟨⟨by omega, by omega⟩, by omega, by simp [ByteArray.size]; omega, by omega, by omega, ret ?_⟩
      rw [show ((n : Int)).toNat = n from Int.toNat_natCast n, show ((n : Int) + 1).toNat = n + 1 by omega, digit_at hn10]
      exact hk
    · have hn10 : ¬ n < 10 := by omega
      have e1 : Int.tdiv (n : Int) 10 = ((n / 10 : Nat) : Int) := rfl
      have e2 : Int.tmod (n : Int) 10 = ((n % 10 : Nat) : Int) := rfl
      have l1 := dec_len (n := n / 10) (by omega)
      have l2 := dec_len (n := n % 10) (by omega)
      refine ⟨by decide, by rw [e1]; exact ⟨by omega, by omega⟩, ?_⟩
      rw [e1, e2]
      refine ih (n / 10) (by omega) (by omega) ⟨_, rfl, by decide, ih (n % 10) (by omega) (by omega) ⟨_, rfl, ?_, ret ?_⟩⟩
      · simp only [bs_size]; omega
      · rw [bs_app]
        have e3 : Lib.decDigits (n % 10) = [UInt8.ofNat (48 + n % 10)] := by rw [Lib.decDigits, dif_pos (by omega)]
        rw [e3]
        rw [Lib.decDigits, dif_neg hn10] at hk
        exact hk
theorem digits_c {n : Int} (h0 : 0 ≤ n) (h1 : n ≤ 9223372036854775807) {h : H} {post : Value → H → Prop} (hk : post (.string (bs (Lib.decDigits n.toNat))) h) : SemCall Tryz.prog 79 (List.toArray [.int .i64 n]) h post := by
  have := digits_n n.toNat (by omega) hk
  rwa [show ((n.toNat : Nat) : Int) = n by omega] at this

theorem sumT_mono {l : List UInt8} : ∀ {k m : Nat}, k ≤ m → sumT l k ≤ sumT l m
  | k, 0, h => by have : k = 0 := by omega
                  subst this; exact Nat.le_refl _
  | k, m + 1, h => by
    by_cases e : k = m + 1
    · subst e; exact Nat.le_refl _
    · have := sumT_mono (l := l) (k := k) (m := m) (by omega)
      rw [sumT]; omega
theorem dsum_c {l : List UInt8} (hl : l.length ≤ 1000000) {h : H} {post : Value → H → Prop} (hk : post (.int .i64 (sumB l)) h) : SemCall Tryz.prog 61 (List.toArray [.string (bs l)]) h post := by
  have hT := sumT_le l l.length hl
  have hT' : l.length * 255000255 ≤ 1000000 * 255000255 := Nat.mul_le_mul_right _ hl
  refine f61_call _ _ post ⟨by rw [bs_size]; exact ⟨by omega, by omega⟩, fun n h' => n = ((sumT l l.length : Nat) : Int) ∧ h' = h, ⟨fun m n i h' => h' = h ∧ m ≤ l.length ∧ i = (m : Int) - 1 ∧ n = ((sumT l l.length - sumT l m : Nat) : Int), ⟨l.length, gi ⟨rfl, Nat.le_refl _, by rw [bs_size], by rw [Nat.sub_self]; rfl⟩⟩, ?_⟩, ?_⟩
  · rintro m _ n i h' ⟨rfl, hm, rfl, rfl⟩
    have hTm := sumT_mono (l := l) hm
    refine VIf_dec (fun hi => ?_) (fun hi => gi ⟨?_, rfl⟩)
    · obtain ⟨k, rfl⟩ : ∃ k, m = k + 1 := ⟨m - 1, by omega⟩
      have e1 : (((k + 1 : Nat) : Int) - 1) = (k : Int) := by omega
      rw [e1, Int.toNat_natCast, bs_data, bs_size]
      have hb : (l.getD k 0).toNat ≤ 255 := by have := (l.getD k 0).toNat_lt; omega
      have hst : sumT l (k + 1) = sumT l k + (k + 1) * (l.getD k 0).toNat := rfl
      have e2 : ((k : Int) + 1) * ((l.getD k 0).toNat : Int) = (((k + 1) * (l.getD k 0).toNat : Nat) : Int) := by rw [Int.natCast_mul]; rfl
      rw [e2]
      generalize (k + 1) * (l.getD k 0).toNat = q at *
      generalize (l.getD k 0).toNat = c at *
      refine ⟨⟨by omega, by omega⟩, by omega, by omega, ⟨by omega, by omega⟩, ⟨by omega, by omega⟩, ⟨by omega, by omega⟩, ⟨by omega, by omega⟩, k, by omega, gi ⟨rfl, by omega, rfl, by omega⟩⟩
    · have : m = 0 := by omega
      subst this
      simp [sumT]
  · rintro _ n h' ⟨rfl, rfl⟩
    refine ⟨by decide, ret ?_⟩
    exact hk
end Go.Proofs.YtnppmcgmmdcpiaaGreatDoor
