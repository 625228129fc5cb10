import Derived.WalkKit
import Derived.RegionTactic
import Derived.Lib.FrozenHead
import Derived.Lib.Builder
import Derived.Lib.Walk
import Derived.Lib.AppendStr
import Derived.Lib.UnsafeStr
import Derived.Laws.Externs
import Derived.Test.YtnppmcgmmdcpiaaDoorProg
namespace Go.Proofs.YtnppmcgmmdcpiaaDoor
open Go Go.Proofs Go.RowKit
/-! ### a builder that is a field (cells 3 and 4 of its block), walked by the kit -/
theorem tBp : Tryd.prog.underlying 47 = some (.pointer 50) := by kernel_rfl
theorem tBu : Tryd.prog.underlying 48 = some (.slice 5) := by kernel_rfl
theorem tBs : Tryd.prog.underlying 9 = some .string := by kernel_rfl
theorem tBv : Tryd.prog.underlying 85 = some .unsafePointer := by kernel_rfl
theorem tBy : Tryd.prog.underlying 80 = some (.pointer 5) := by kernel_rfl
theorem sizeB : (Tryd.prog.info? 50).map (·.size) = some 2 := by kernel_rfl
theorem liesB : liesAt Tryd.prog Tryd.prog.depth 52 (6 / Tryd.prog.cellsOf 52) 3 50 1 = true := by kernel_rfl
theorem infoB : (Tryd.prog.info? 5).map (fun i => (i.zero, i.size, i.bytes)) = some (some (.int .u8 0), 1, 1) := by kernel_rfl
theorem cellsB : Tryd.prog.cellsOf 5 = 1 := by kernel_rfl

set_option maxRecDepth 100000 in
set_option maxHeartbeats 1000000 in
theorem cc_used (b : Nat) (w : World) (h0 : w.cell? ⟨b, 3, none⟩ = some (.pointer (some ⟨b, 3, none⟩))) :
    Calls Tryd.prog 53 #[.pointer (some ⟨b, 3, none⟩)] w fun e w' => e = .returned (.tuple #[]) ∧ w' = w := by
  obtain ⟨j, hj, _⟩ := Option.map_eq_some_iff.1 sizeB
  go_enter Tryd.func53, Tryd.ntmps53
  go_wp2
  rw [Lib.run_neq_ptr_same w _ tBp hj]
  go_wp2
  go_end0
  exact ⟨rfl, rfl⟩

set_option maxRecDepth 100000 in
set_option maxHeartbeats 1000000 in
theorem cc_fresh (b : Nat) (w : World) (h0 : w.cell? ⟨b, 3, none⟩ = some (.pointer none)) (hsh : w.shape? b = some (52, 6)) (hfz : w.frozen? ⟨b, 3, none⟩ = false) :
    Calls Tryd.prog 53 #[.pointer (some ⟨b, 3, none⟩)] w fun e w' => e = .returned (.tuple #[]) ∧ w' = w.setCell ⟨b, 3, none⟩ (.pointer (some ⟨b, 3, none⟩)) := by
  obtain ⟨j, hj, hjs⟩ := Option.map_eq_some_iff.1 sizeB
  go_enter Tryd.func53, Tryd.ntmps53
  go_wp2
  rw [Lib.run_to_unsafe w ⟨b, 3, none⟩ tBp tBv hj (by rw [hjs]; decide) hsh (by show 3 < 6; omega)]
  simp only [Result.andThen]
  rw [Oper.upon_value]
  go_wp2
  rw [run_callFunc_extern Tryd.func59 (by kernel_rfl) (by kernel_rfl) (by kernel_rfl) (e := Extern.AbiNoEscape.same) (by kernel_rfl)]
  rw [Lib.run_noEscape]
  simp only [Result.andThen]
  rw [Oper.upon_value]
  go_wp2
  rw [Lib.run_from_unsafe w ⟨b, 3, none⟩ tBv tBp hj hsh liesB]
  simp only [Result.andThen]
  rw [Oper.upon_value]
  go_wp2
  go_end0
  exact ⟨rfl, rfl⟩

theorem shape_row {w : World} {g : Nat} {cur arr : Array Value} {t : TypeId} {fz : Nat × Nat} (hg : w.heap[g]? = some (.cells cur t fz)) (hs : arr.size = cur.size) (r : Nat) : (w.setRow g arr).shape? r = w.shape? r := by
  by_cases h : g = r
  · subst h
    simp [World.shape?, setRow_heap w g cur arr t fz hg, hg, hs]
  · simp only [World.shape?, setRow_other w g r _ (fun e => h e.symm)]
theorem shape_hp {w w' : World} {r : Nat} (h : w'.heap[r]? = w.heap[r]?) : w'.shape? r = w.shape? r := by simp [World.shape?, h]

/-- a string's bytes behind a row whose head may be frozen: as the library's law, and what becomes of the blocks' shapes -/
theorem app_sF {P : Program} (w : World) (t u ty e : TypeId) (i : TypeInfo) (ht : P.underlying t = some (.slice e)) (hu : P.underlying u = some .string) (hi : P.info? e = some i) (hz : i.zero = some (.int .u8 0))
    (hsize : i.size = 1) (hby : i.bytes = 1) (v : Value) (n : Nat) (xs : List Value) (hown : w.ownsRowF 0 e 1 v n xs) (s : ByteArray) (hlen : n + s.size ≤ 1000000000) :
    ∃ v' w', (Builtin.append_ #[t, u] ty #[v, .string s]).run P w = .ok v' w' ∧ w'.ownsRowF 0 e 1 v' (n + s.size) (xs ++ Lib.strCells s) ∧ w.grownBy w' v.ownBlock ∧ (∀ r, r < w.heap.size → w'.shape? r = w.shape? r) ∧
      (v'.ownBlock = v.ownBlock ∨ ∃ g, v'.ownBlock = some g ∧ w.heap.size ≤ g) := by
  have h63 : n + s.size ≤ maxLen := by unfold maxLen; omega
  rcases hown.2 with ⟨rfl, rfl⟩ | ⟨g, cap, cur, fz, rfl, hbg, hg, hfz, hnc, hcm, hcs, htake⟩
  · have hx : xs = [] := List.eq_nil_of_length_eq_zero (by simpa using hown.1)
    subst hx
    obtain ⟨v', w', h1, h2, h3, _⟩ := Lib.run_append_own_string (P := P) w w.heap.size t u ty e i ht hu hi hz hsize hby (.slice none 0 0) 0 [] ⟨hown.1, .inl ⟨rfl, rfl⟩⟩ s h63 (by omega) (Nat.le_refl _)
    have h2' : w'.ownsRow 0 e 1 v' (0 + s.size) ([] ++ Lib.strCells s) := by
      refine ⟨h2.1, ?_⟩
      rcases h2.2 with h | ⟨g, cap, cur, hv, _, r⟩
      · exact .inl h
      · exact .inr ⟨g, cap, cur, hv, Nat.zero_le _, r⟩
    refine ⟨v', w', h1, World.ownsRowF_of h2', h3, fun r hr => shape_hp (h3.block r hr (by simp [Value.ownBlock])), ?_⟩
    rcases h2.2 with ⟨rfl, _⟩ | ⟨g, cap, cur, rfl, hge, _⟩
    · exact .inl rfl
    · exact .inr ⟨g, rfl, hge⟩
  · have hxl : xs.length = n := by simpa using hown.1
    have hl : (xs ++ Lib.strCells s).length = (n + s.size) * 1 := by rw [List.length_append, hxl, Lib.strCells_length, Nat.mul_one]
    by_cases hroom : n + s.size ≤ cap
    · have hcs' : cur.size = cap := by simpa using hcs
      have hr := Lib.run_append_room_stringF (P := P) w t u ty e i ht hu hi hsize g n cap cur fz hg (by simpa using hfz) s hroom (by omega)
      have hsz : (cur.toList.take n ++ Lib.strCells s ++ cur.toList.drop (n + s.size)).toArray.size = cur.size := by
        simp only [List.size_toArray, List.length_append, List.length_take, List.length_drop, Array.length_toList, Lib.strCells_length]
        omega
      refine ⟨_, _, hr, ⟨hl, .inr ⟨g, cap, _, fz, rfl, hbg, setRow_heap w g cur _ e _ hg, by omega, hroom, hcm, by rw [hsz]; exact hcs, ?_⟩⟩, ⟨rfl, rfl, rfl, by simp, fun k _ hk => setRow_other w g k _ (fun e => hk (by simp [Value.ownBlock, e]))⟩, fun r _ => shape_row hg hsz r, .inl rfl⟩
      have ht' : cur.toList.take n = xs := by simpa using htake
      rw [ht', ← hl]
      exact List.take_left
    · have holds : ∀ j u, xs[j]? = some u → w.cell? ((⟨g, 0, none⟩ : Addr).add j) = some u := hown.cells (g := g) rfl
      have hr := Lib.run_append_grow_string (P := P) w t u ty e i (.int .u8 0) ht hu hi hz ⟨g, 0, none⟩ n cap xs (by rw [hsize]; simpa using hxl) holds s (by omega) (by omega) (by rw [hby]; exact growslice_fits (by omega) (by omega))
      have hge := grownCap_ge w (n + s.size) cap e
      have hcm2 : grownCap w (n + s.size) cap e ≤ maxLen := grownCap_le_maxLen w (n + s.size) cap e h63
      refine ⟨_, _, hr, ⟨hl, .inr ⟨w.heap.size, _, _, (0, 0), rfl, Nat.zero_le _, heap_alloc_new w.drew _, Nat.zero_le _, hge, hcm2, ?_, ?_⟩⟩, ⟨rfl, rfl, rfl, by simp, fun k hk _ => heap_alloc_old w.drew _ hk⟩, fun r hr => shape_hp (heap_alloc_old w.drew _ hr), .inr ⟨w.heap.size, rfl, Nat.le_refl _⟩⟩
      · have hz1 : (Value.int IntKind.u8 0).cells.size = 1 := rfl
        simp only [Array.size_append, List.size_toArray, size_zeroCells, hz1, hxl, Lib.strCells_length]
        omega
      · simp only [Array.toList_append, List.append_assoc]
        rw [← List.append_assoc, ← hl]
        exact List.take_left

/-- .. the operation, for the walk -/
theorem wp_app_sF {P : Program} {w : World} {ops : Array Oper} {rest : List Oper} {o : Oper} {a : Act} {Q : Exit → Act → World → Prop} (hgd : o.guard = none) (sl x : Operand) (t u : TypeId)
    (ho : o.op = .call { callee := .builtin .append, args := #[sl, x], argTypes := #[t, u] })
    (e : TypeId) (i : TypeInfo) (ht : P.underlying t = some (.slice e)) (hu : P.underlying u = some .string) (hi : P.info? e = some i) (hz : i.zero = some (.int .u8 0))
    (hsize : i.size = 1) (hby : i.bytes = 1)
    (v : Value) (n : Nat) (xs : List Value) (hs : a.eval sl = v) (hown : w.ownsRowF 0 e 1 v n xs) (s : ByteArray) (hx : a.eval x = .string s) (hlen : n + s.size ≤ 1000000000)
    (h : ∀ v' w', w'.ownsRowF 0 e 1 v' (n + s.size) (xs ++ Lib.strCells s) → w.grownBy w' v.ownBlock → (∀ r, r < w.heap.size → w'.shape? r = w.shape? r) → (v'.ownBlock = v.ownBlock ∨ ∃ g, v'.ownBlock = some g ∧ w.heap.size ≤ g) → wpList P ops Q rest (a.put o.dst v') w') : wpList P ops Q (o :: rest) a w := by
  refine wpList_plain hgd fun K hK => ?_
  obtain ⟨v', w', hr, h2, h3, h4, h5⟩ := app_sF (P := P) w t u o.type e i ht hu hi hz hsize hby v n xs hown s hlen
  unfold Oper.wp execOp
  simp only [ho, resolve, invoke, builtin, Sem.run_bind, Sem.run_pure, Result.andThen_ok, List.map_toArray, List.map_cons, List.map_nil, hs, hx, hr]
  exact hK _ _ (h v' w' h2 h3 h4 h5)

/-- what a builder's field and its buffer are -/
structure BAt (w : World) (b : Nat) (c0 c1 c2 p v c5 : Value) (bs : List Value) : Prop where
  hb : w.heap[b]? = some (.cells #[c0, c1, c2, p, v, c5] 52 (0, 0))
  own : w.ownsRowF 0 5 1 v bs.length bs
  ne : v.ownBlock ≠ some b
/-- what a call leaves as it was: blocks but two -/
structure BFr (w w' : World) (b : Nat) (v v' : Value) : Prop where
  os : w'.os = w.os
  tape : w'.tape = w.tape
  output : w'.output = w.output
  size : w.heap.size ≤ w'.heap.size
  shape : ∀ r, r < w.heap.size → w'.shape? r = w.shape? r
  block : ∀ k, k < w.heap.size → k ≠ b → v.ownBlock ≠ some k → w'.heap[k]? = w.heap[k]?
  row : v'.ownBlock = v.ownBlock ∨ ∃ g, v'.ownBlock = some g ∧ w.heap.size ≤ g

set_option maxHeartbeats 1000000 in
theorem cc_any (b : Nat) (c0 c1 c2 p v c5 : Value) (bs : List Value) (w : World) (hp : p = .pointer none ∨ p = .pointer (some ⟨b, 3, none⟩)) (h : BAt w b c0 c1 c2 p v c5 bs) :
    Calls Tryd.prog 53 #[.pointer (some ⟨b, 3, none⟩)] w fun e w' => e = .returned (.tuple #[]) ∧ BAt w' b c0 c1 c2 (.pointer (some ⟨b, 3, none⟩)) v c5 bs ∧ BFr w w' b v v := by
  rcases hp with rfl | rfl
  · refine (cc_fresh b w (by rw [Lib.cell_of_heap h.hb]; rfl) (by simp [World.shape?, h.hb]) (by simp [World.frozen?, h.hb])).mono ?_
    rintro e w' ⟨rfl, rfl⟩
    refine ⟨rfl, ⟨?_, ?_, h.ne⟩, rfl, rfl, rfl, by simp [World.setCell], fun r _ => ?_, fun k _ hk _ => Below.heap_setCell _ _ _ _ hk, .inl rfl⟩
    · simp [World.setCell, Array.getElem?_modify, h.hb]
    · exact h.own.kept (row := some b) ⟨rfl, rfl, rfl, by simp [World.setCell], fun k _ hk => Below.heap_setCell _ _ _ _ (fun e => hk (by simp [e]))⟩ (Or.inr h.ne)
    · by_cases hr : r = b
      · subst hr; simp [World.shape?, World.setCell, Array.getElem?_modify, h.hb]
      · exact shape_hp (Below.heap_setCell _ _ _ _ hr)
  · refine (cc_used b w (by rw [Lib.cell_of_heap h.hb]; rfl)).mono ?_
    rintro e w' ⟨rfl, rfl⟩
    exact ⟨rfl, h, rfl, rfl, rfl, Nat.le_refl _, fun _ _ => rfl, fun _ _ _ _ => rfl, .inl rfl⟩

set_option maxRecDepth 100000 in
set_option maxHeartbeats 2000000 in
theorem ws_in (b : Nat) (c0 c1 c2 p v c5 : Value) (bs : List Value) (s : ByteArray) (w : World) (hp : p = .pointer none ∨ p = .pointer (some ⟨b, 3, none⟩)) (h : BAt w b c0 c1 c2 p v c5 bs) (hlen : bs.length + s.size ≤ 1000000000) :
    Calls Tryd.prog 40 #[.pointer (some ⟨b, 3, none⟩), .string s] w fun e w' => e = .returned (.tuple #[.int .i64 s.size, .nilIface]) ∧
      ∃ v', BAt w' b c0 c1 c2 (.pointer (some ⟨b, 3, none⟩)) v' c5 (bs ++ Lib.strCells s) ∧ BFr w w' b v v' := by
  obtain ⟨i0, hi, hz0, hz1, hz2⟩ := info_parts infoB
  go_enter Tryd.func40, Tryd.ntmps40
  go_wp2_with (go_at_call 53; refine (cc_any b c0 c1 c2 p v c5 bs _ hp h).mono ?_)
  rintro e w1 ⟨rfl, h1, f1⟩
  have d0 : w1.cell? ⟨b, 4, none⟩ = some v := by rw [Lib.cell_of_heap h1.hb]; rfl
  go_wp2_with (at_builtin; refine wp_app_sF rfl _ _ 48 9 rfl 5 i0 tBu tBs hi hz0 hz1 hz2 _ _ _ rfl h1.own s rfl hlen ?_)
  intro v' w2 hown' hgrow hshp hrow
  have hlt : b < w1.heap.size := by
    rcases Nat.lt_or_ge b w1.heap.size with h' | h'
    · exact h'
    · have := h1.hb; simp [Array.getElem?_eq_none h'] at this
  have hne' : v'.ownBlock ≠ some b := by
    rcases hrow with h | ⟨g, h, hg⟩
    · rw [h]; exact h1.ne
    · rw [h]; intro hc; cases hc; omega
  have hb2 : w2.heap[b]? = some (.cells #[c0, c1, c2, .pointer (some ⟨b, 3, none⟩), v, c5] 52 (0, 0)) := by
    rw [hgrow.block b hlt (fun e => h1.ne e.symm)]
    exact h1.hb
  have f2 : w2.frozen? ⟨b, 4, none⟩ = false := Lib.frozen_of_heap hb2 4
  have d1 : w2.cell? ⟨b, 4, none⟩ = some v := by rw [Lib.cell_of_heap hb2]; rfl
  have d3 : w2.cell? ⟨b, 3, none⟩ = some (.pointer (some ⟨b, 3, none⟩)) := by rw [Lib.cell_of_heap hb2]; rfl
  obtain ⟨ao, n', cap, rfl⟩ : ∃ ao n' cap, v' = .slice ao n' cap := by
    rcases hown'.2 with ⟨hv, _⟩ | ⟨g, cap, cur, fz, hv, _⟩
    · exact ⟨_, _, _, hv⟩
    · exact ⟨_, _, _, hv⟩
  go_wp2
  go_ret2
  refine ⟨rfl, .slice ao n' cap, ⟨?_, ?_, hne'⟩, ?_⟩
  · simp [World.setCell, Array.getElem?_modify, hb2]
  · have : w2.ownsRowF 0 5 1 (.slice ao n' cap) (bs ++ Lib.strCells s).length (bs ++ Lib.strCells s) := by
      rw [List.length_append, Lib.strCells_length]; exact hown'
    exact this.kept (row := some b) ⟨rfl, rfl, rfl, by simp [World.setCell], fun k _ hk => Below.heap_setCell _ _ _ _ (fun e => hk (by simp [e]))⟩ (Or.inr hne')
  · refine ⟨?_, ?_, ?_, ?_, ?_, ?_, ?_⟩
    · exact (show (w2.setCell _ _).os = w2.os from rfl).trans (hgrow.os.trans f1.os)
    · exact (show (w2.setCell _ _).tape = w2.tape from rfl).trans (hgrow.tape.trans f1.tape)
    · exact (show (w2.setCell _ _).output = w2.output from rfl).trans (hgrow.output.trans f1.output)
    · have := f1.size; have := hgrow.size; simp [World.setCell]; omega
    · intro r hr
      have hr1 : r < w1.heap.size := by have := f1.size; omega
      by_cases hrb : r = b
      · subst hrb
        rw [← f1.shape r hr]
        simp [World.shape?, World.setCell, Array.getElem?_modify, hb2, h1.hb]
      · rw [shape_hp (Below.heap_setCell _ _ _ _ hrb), hshp r hr1, f1.shape r hr]
    · intro k hk hkb hkv
      rw [Below.heap_setCell _ _ _ _ hkb, hgrow.block k (by have := f1.size; omega) (fun e => hkv e.symm), f1.block k hk hkb hkv]
    · rcases hrow with h | ⟨g, h, hg⟩
      · exact .inl h
      · exact .inr ⟨g, h, Nat.le_trans f1.size hg⟩

theorem shape_freeze {w : World} {a : Addr} {n r : Nat} : (w.freeze a n).shape? r = w.shape? r := by
  unfold World.freeze
  split
  · rfl
  · simp only [World.shape?, Array.getElem?_modify]
    by_cases h : a.block = r
    · subst h
      simp only [if_true]
      cases hb : w.heap[a.block]? with
      | none => rfl
      | some o => cases o <;> rfl
    · rw [if_neg h]
theorem uStr_nil (w : World) : (Builtin.unsafeString_ #[80, 3] 9 #[.pointer none, .int .i64 0]).run Tryd.prog w = .ok (.string ⟨#[]⟩) w := by kernel_rfl
set_option maxRecDepth 100000 in
set_option maxHeartbeats 2000000 in
theorem str_nil (b : Nat) (c0 c1 c2 p c5 : Value) (w : World) (h : BAt w b c0 c1 c2 p (.slice none 0 0) c5 []) :
    Calls Tryd.prog 30 #[.pointer (some ⟨b, 3, none⟩)] w fun e w' => e = .returned (.string ⟨#[]⟩) ∧ BAt w' b c0 c1 c2 p (.slice none 0 0) c5 [] ∧ BFr w w' b (.slice none 0 0) (.slice none 0 0) := by
  have c1' : w.drew.cell? ⟨b, 4, none⟩ = some (.slice none 0 0) := by
    have : w.drew.heap[b]? = some (.cells #[c0, c1, c2, p, .slice none 0 0, c5] 52 (0, 0)) := h.hb
    rw [Lib.cell_of_heap this]; rfl
  have c2' : w.cell? ⟨b, 4, none⟩ = some (.slice none 0 0) := c1'
  have hSD : (Builtin.unsafeSliceData_ #[48] 80 #[.slice none 0 0]).run Tryd.prog w.drew = .ok (.pointer none) w.drew := rfl
  have hUS := uStr_nil w.drew
  have mixed : Tryd.prog.follows .mixedOrders = true := by kernel_rfl
  go_enter Tryd.func30, Tryd.ntmps30
  go_wp2
  go_region
  all_goals (go_wp2; go_ret; exact ⟨rfl, ⟨h.hb, h.own, h.ne⟩, rfl, rfl, rfl, Nat.le_refl _, fun _ _ => rfl, fun _ _ _ _ => rfl, .inl rfl⟩)
set_option maxRecDepth 100000 in
set_option maxHeartbeats 2000000 in
theorem str_in (b : Nat) (c0 c1 c2 p v c5 : Value) (l : List UInt8) (w : World) (h0 : l ≠ []) (h : BAt w b c0 c1 c2 p v c5 (Lib.byteCells l)) :
    Calls Tryd.prog 30 #[.pointer (some ⟨b, 3, none⟩)] w fun e w' => e = .returned (.string ⟨l.toArray⟩) ∧ BAt w' b c0 c1 c2 p v c5 (Lib.byteCells l) ∧ BFr w w' b v v := by
  obtain ⟨hb, hown, hne⟩ := h
  have hl0 : l.length ≠ 0 := by simpa using h0
  rw [Lib.byteCells_length] at hown
  obtain ⟨g, cap, cur, fz, rfl, hbg, hg, hfz, hnc, hcm, hcs, htake⟩ : ∃ g cap cur fz, v = .slice (some ⟨g, 0, none⟩) l.length cap ∧ 0 ≤ g ∧ w.heap[g]? = some (.cells cur 5 fz) ∧ fz.2 ≤ l.length * 1 ∧ l.length ≤ cap ∧ cap ≤ maxLen ∧ cur.size = cap * 1 ∧ cur.toList.take (l.length * 1) = Lib.byteCells l := by
    rcases hown.2 with ⟨_, hz⟩ | ⟨g, cap, cur, fz, hv, r⟩
    · exact absurd hz hl0
    · exact ⟨g, cap, cur, fz, hv, r⟩
  have hgb : g ≠ b := fun e => hne (by simp [Value.ownBlock, e])
  have c1' : w.drew.cell? ⟨b, 4, none⟩ = some (.slice (some ⟨g, 0, none⟩) l.length cap) := by
    have : w.drew.heap[b]? = some (.cells #[c0, c1, c2, p, .slice (some ⟨g, 0, none⟩) l.length cap, c5] 52 (0, 0)) := hb
    rw [Lib.cell_of_heap this]; rfl
  have c2' : w.cell? ⟨b, 4, none⟩ = some (.slice (some ⟨g, 0, none⟩) l.length cap) := c1'
  have hSD : (Builtin.unsafeSliceData_ #[48] 80 #[.slice (some ⟨g, 0, none⟩) l.length cap]).run Tryd.prog w.drew = .ok (.pointer (some ⟨g, 0, none⟩)) w.drew :=
    Lib.run_unsafeSliceData_row _ _ _ _ _ _ (by omega)
  have hUS : (Builtin.unsafeString_ #[80, 3] 9 #[.pointer (some ⟨g, 0, none⟩), .int .i64 l.length]).run Tryd.prog w.drew = .ok (.string ⟨l.toArray⟩) (w.drew.freeze ⟨g, 0, none⟩ l.length) := by
    refine Lib.run_unsafeString_row w.drew 80 3 9 5 tBy cellsB g cur.size (by have hg' : w.drew.heap[g]? = some (.cells cur 5 fz) := hg; simp [World.shape?, hg']) l h0 (by omega) (by unfold maxLen at hcm; omega) ?_
    intro j x hx
    have := hown.cells (g := g) rfl j (.int .u8 x.toNat) (by simp [Lib.byteCells, hx])
    exact this
  have fin : BAt (w.drew.freeze ⟨g, 0, none⟩ l.length) b c0 c1 c2 p (.slice (some ⟨g, 0, none⟩) l.length cap) c5 (Lib.byteCells l) ∧ BFr w (w.drew.freeze ⟨g, 0, none⟩ l.length) b (.slice (some ⟨g, 0, none⟩) l.length cap) (.slice (some ⟨g, 0, none⟩) l.length cap) := by
    have hoth : ∀ k, k ≠ g → (w.drew.freeze ⟨g, 0, none⟩ l.length).heap[k]? = w.heap[k]? := by
      intro k hk
      unfold World.freeze
      split
      · rfl
      · simp only [Array.getElem?_modify, if_neg hk.symm]; rfl
    have hgf : ∃ fz', (w.drew.freeze ⟨g, 0, none⟩ l.length).heap[g]? = some (.cells cur 5 fz') ∧ fz'.2 ≤ l.length := by
      unfold World.freeze
      have hg' : w.drew.heap[g]? = some (.cells cur 5 fz) := hg
      obtain ⟨lo, hi⟩ := fz
      rw [if_neg hl0]
      simp only [Array.getElem?_modify, if_true, hg', Option.map_some]
      refine ⟨_, rfl, ?_⟩
      simp only at hfz
      split <;> simp <;> omega
    obtain ⟨fz', hg1, hfz1⟩ := hgf
    refine ⟨⟨by rw [hoth b hgb.symm]; exact hb, ?_, hne⟩, ?_⟩
    · rw [Lib.byteCells_length]
      exact ⟨hown.1, .inr ⟨g, cap, cur, fz', rfl, hbg, hg1, by omega, hnc, hcm, hcs, htake⟩⟩
    · refine ⟨?_, ?_, ?_, ?_, fun r _ => shape_freeze, fun k _ _ hkv => hoth k (fun e => hkv (by simp [Value.ownBlock, e])), .inl rfl⟩
      all_goals (unfold World.freeze; split <;> first | rfl | exact Nat.le_refl _ | (simp only [Array.size_modify]; exact Nat.le_refl _))
  have mixed : Tryd.prog.follows .mixedOrders = true := by kernel_rfl
  go_enter Tryd.func30, Tryd.ntmps30
  go_wp2
  go_region
  all_goals (go_wp2; go_ret; exact ⟨rfl, fin⟩)
end Go.Proofs.YtnppmcgmmdcpiaaDoor
