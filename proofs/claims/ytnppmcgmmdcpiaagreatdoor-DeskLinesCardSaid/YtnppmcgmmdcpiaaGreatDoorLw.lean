
import Derived.Lib.FrozenHead2
import Derived.Test.YtnppmcgmmdcpiaaGreatDoorKG
namespace Go.Proofs.YtnppmcgmmdcpiaaGreatDoor
open Go.Eng
set_option maxRecDepth 20000
open Go Go.Proofs Go.RowKit
theorem liesL : liesAt Tryz.prog Tryz.prog.depth 54 (2 / Tryz.prog.cellsOf 54) 0 54 1 = true := by kernel_rfl
set_option maxRecDepth 100000 in
set_option maxHeartbeats 1000000 in
theorem lcc_used (b : Nat) (w : World) (h0 : w.cell? ⟨b, 0, none⟩ = some (.pointer (some ⟨b, 0, none⟩))) :
    Calls Tryz.prog 69 #[.pointer (some ⟨b, 0, none⟩)] w fun e w' => e = .returned (.tuple #[]) ∧ w' = w := by
  obtain ⟨j, hj, _⟩ := Option.map_eq_some_iff.1 sizeB
  go_enter Tryz.func69, Tryz.ntmps69
  go_wp2
  rw [Lib.run_neq_ptr_same w _ tBp hj]
  go_wp2
  go_end0
  exact ⟨rfl, rfl⟩
set_option maxRecDepth 100000 in
set_option maxHeartbeats 1000000 in
theorem lcc_fresh (b : Nat) (w : World) (h0 : w.cell? ⟨b, 0, none⟩ = some (.pointer none)) (hsh : w.shape? b = some (54, 2)) (hfz : w.frozen? ⟨b, 0, none⟩ = false) :
    Calls Tryz.prog 69 #[.pointer (some ⟨b, 0, none⟩)] w fun e w' => e = .returned (.tuple #[]) ∧ w' = w.setCell ⟨b, 0, none⟩ (.pointer (some ⟨b, 0, none⟩)) := by
  obtain ⟨j, hj, hjs⟩ := Option.map_eq_some_iff.1 sizeB
  go_enter Tryz.func69, Tryz.ntmps69
  go_wp2
  rw [Lib.run_to_unsafe w ⟨b, 0, none⟩ tBp tBv hj (by rw [hjs]; decide) hsh (by show 0 < 2; omega)]
  simp only [Result.andThen]
  rw [Oper.upon_value]
  go_wp2
  rw [run_callFunc_extern Tryz.func98 (by kernel_rfl) (by kernel_rfl) (by kernel_rfl) (e := Extern.AbiNoEscape.same) (by kernel_rfl)]
  rw [Lib.run_noEscape]
  simp only [Result.andThen]
  rw [Oper.upon_value]
  go_wp2
  rw [Lib.run_from_unsafe w ⟨b, 0, none⟩ tBv tBp hj hsh liesL]
  simp only [Result.andThen]
  rw [Oper.upon_value]
  go_wp2
  go_end0
  exact ⟨rfl, rfl⟩
/-- what a builder's field and its buffer are -/
structure lBAt (w : World) (b : Nat) (p v : Value) (bs : List Value) : Prop where
  hb : w.heap[b]? = some (.cells #[p, v,] 54 (0, 0))
  own : w.ownsRowF 0 5 1 v bs.length bs
  ne : v.ownBlock ≠ some b
set_option maxHeartbeats 1000000 in
theorem lcc_any (b : Nat) (p v : Value) (bs : List Value) (w : World) (hp : p = .pointer none ∨ p = .pointer (some ⟨b, 0, none⟩)) (h : lBAt w b p v bs) :
    Calls Tryz.prog 69 #[.pointer (some ⟨b, 0, none⟩)] w fun e w' => e = .returned (.tuple #[]) ∧ lBAt w' b (.pointer (some ⟨b, 0, none⟩)) v bs ∧ BFr w w' b v v := by
  rcases hp with rfl | rfl
  · refine (lcc_fresh b w (by rw [Lib.cell_of_heap h.hb]; rfl) (by simp [World.shape?, h.hb]) (by simp [World.frozen?, h.hb])).mono ?_
    rintro e w' ⟨rfl, rfl⟩
    refine ⟨rfl, ⟨?_, ?_, h.ne⟩, rfl, rfl, rfl, by simp [World.setCell], fun r _ => ?_, fun k _ hk _ => Below.heap_setCell _ _ _ _ hk, .inl rfl⟩
    · simp [World.setCell, Array.getElem?_modify, h.hb]
    · exact h.own.kept (row := some b) ⟨rfl, rfl, rfl, by simp [World.setCell], fun k _ hk => Below.heap_setCell _ _ _ _ (fun e => hk (by simp [e]))⟩ (Or.inr h.ne)
    · by_cases hr : r = b
      · subst hr; simp [World.shape?, World.setCell, Array.getElem?_modify, h.hb]
      · exact shape_hp (Below.heap_setCell _ _ _ _ hr)
  · refine (lcc_used b w (by rw [Lib.cell_of_heap h.hb]; rfl)).mono ?_
    rintro e w' ⟨rfl, rfl⟩
    exact ⟨rfl, h, rfl, rfl, rfl, Nat.le_refl _, fun _ _ => rfl, fun _ _ _ _ => rfl, .inl rfl⟩
set_option maxRecDepth 100000 in
set_option maxHeartbeats 2000000 in
theorem lws_in (b : Nat) (p v : Value) (bs : List Value) (s : ByteArray) (w : World) (hp : p = .pointer none ∨ p = .pointer (some ⟨b, 0, none⟩)) (h : lBAt w b p v bs) (hlen : bs.length + s.size ≤ 1000000000) :
    Calls Tryz.prog 42 #[.pointer (some ⟨b, 0, none⟩), .string s] w fun e w' => e = .returned (.tuple #[.int .i64 s.size, .nilIface]) ∧
      ∃ v', lBAt w' b (.pointer (some ⟨b, 0, none⟩)) v' (bs ++ Lib.strCells s) ∧ BFr w w' b v v' := by
  obtain ⟨i0, hi, hz0, hz1, hz2⟩ := info_parts infoB
  go_enter Tryz.func42, Tryz.ntmps42
  go_wp2_with (go_at_call 69; refine (lcc_any b p v bs _ hp h).mono ?_)
  rintro e w1 ⟨rfl, h1, f1⟩
  have d0 : w1.cell? ⟨b, 1, none⟩ = some v := by rw [Lib.cell_of_heap h1.hb]; rfl
  go_wp2_with (at_builtin; refine wp_app_sF rfl _ _ 35 9 rfl 5 i0 tBu tBs hi hz0 hz1 hz2 _ _ _ rfl h1.own s rfl hlen ?_)
  intro v' w2 hown' hgrow hshp hrow
  have hlt : b < w1.heap.size := by
    rcases Nat.lt_or_ge b w1.heap.size with h' | h'
    · exact h'
    · have := h1.hb; simp [Array.getElem?_eq_none h'] at this
  have hne' : v'.ownBlock ≠ some b := by
    rcases hrow with h | ⟨g, h, hg⟩
    · rw [h]; exact h1.ne
    · rw [h]; intro hc; cases hc; omega
  have hb2 : w2.heap[b]? = some (.cells #[.pointer (some ⟨b, 0, none⟩), v,] 54 (0, 0)) := by
    rw [hgrow.block b hlt (fun e => h1.ne e.symm)]
    exact h1.hb
  have f2 : w2.frozen? ⟨b, 1, none⟩ = false := Lib.frozen_of_heap hb2 1
  have d1 : w2.cell? ⟨b, 1, none⟩ = some v := by rw [Lib.cell_of_heap hb2]; rfl
  have d3 : w2.cell? ⟨b, 0, none⟩ = some (.pointer (some ⟨b, 0, none⟩)) := by rw [Lib.cell_of_heap hb2]; rfl
  obtain ⟨ao, n', cap, rfl⟩ : ∃ ao n' cap, v' = .slice ao n' cap := by
    rcases hown'.2 with ⟨hv, _⟩ | ⟨g, cap, cur, fz, hv, _⟩
    · exact ⟨_, _, _, hv⟩
    · exact ⟨_, _, _, hv⟩
  go_wp2
  go_ret2
  refine ⟨rfl, .slice ao n' cap, ⟨?_, ?_, hne'⟩, ?_⟩
  · simp [World.setCell, Array.getElem?_modify, hb2]
  · have : w2.ownsRowF 0 5 1 (.slice ao n' cap) (bs ++ Lib.strCells s).length (bs ++ Lib.strCells s) := by
      rw [List.length_append, Lib.strCells_length]; exact hown'
    exact this.kept (row := some b) ⟨rfl, rfl, rfl, by simp [World.setCell], fun k _ hk => Below.heap_setCell _ _ _ _ (fun e => hk (by simp [e]))⟩ (Or.inr hne')
  · refine ⟨?_, ?_, ?_, ?_, ?_, ?_, ?_⟩
    · exact (show (w2.setCell _ _).os = w2.os from rfl).trans (hgrow.os.trans f1.os)
    · exact (show (w2.setCell _ _).tape = w2.tape from rfl).trans (hgrow.tape.trans f1.tape)
    · exact (show (w2.setCell _ _).output = w2.output from rfl).trans (hgrow.output.trans f1.output)
    · have := f1.size; have := hgrow.size; simp [World.setCell]; omega
    · intro r hr
      have hr1 : r < w1.heap.size := by have := f1.size; omega
      by_cases hrb : r = b
      · subst hrb
        rw [← f1.shape r hr]
        simp [World.shape?, World.setCell, Array.getElem?_modify, hb2, h1.hb]
      · rw [shape_hp (Below.heap_setCell _ _ _ _ hrb), hshp r hr1, f1.shape r hr]
    · intro k hk hkb hkv
      rw [Below.heap_setCell _ _ _ _ hkb, hgrow.block k (by have := f1.size; omega) (fun e => hkv e.symm), f1.block k hk hkb hkv]
    · rcases hrow with h | ⟨g, h, hg⟩
      · exact .inl h
      · exact .inr ⟨g, h, Nat.le_trans f1.size hg⟩
set_option maxRecDepth 100000 in
set_option maxHeartbeats 2000000 in
theorem lstr_nil (b : Nat) (p : Value) (w : World) (h : lBAt w b p (.slice none 0 0) []) :
    Calls Tryz.prog 27 #[.pointer (some ⟨b, 0, none⟩)] w fun e w' => e = .returned (.string ⟨#[]⟩) ∧ lBAt w' b p (.slice none 0 0) [] ∧ BFr w w' b (.slice none 0 0) (.slice none 0 0) := by
  have c1' : w.drew.cell? ⟨b, 1, none⟩ = some (.slice none 0 0) := by
    have : w.drew.heap[b]? = some (.cells #[p, .slice none 0 0,] 54 (0, 0)) := h.hb
    rw [Lib.cell_of_heap this]; rfl
  have c2' : w.cell? ⟨b, 1, none⟩ = some (.slice none 0 0) := c1'
  have hSD : (Builtin.unsafeSliceData_ #[35] 86 #[.slice none 0 0]).run Tryz.prog w.drew = .ok (.pointer none) w.drew := rfl
  have hUS := uStr_nil w.drew
  have mixed : Tryz.prog.follows .mixedOrders = true := by kernel_rfl
  go_enter Tryz.func27, Tryz.ntmps27
  go_wp2
  go_region
  all_goals (go_wp2; go_ret; exact ⟨rfl, ⟨h.hb, h.own, h.ne⟩, rfl, rfl, rfl, Nat.le_refl _, fun _ _ => rfl, fun _ _ _ _ => rfl, .inl rfl⟩)
set_option maxRecDepth 100000 in
set_option maxHeartbeats 2000000 in
theorem lstr_in (b : Nat) (p v : Value) (l : List UInt8) (w : World) (h0 : l ≠ []) (h : lBAt w b p v (Lib.byteCells l)) :
    Calls Tryz.prog 27 #[.pointer (some ⟨b, 0, none⟩)] w fun e w' => e = .returned (.string ⟨l.toArray⟩) ∧ lBAt w' b p v (Lib.byteCells l) ∧ BFr w w' b v v := by
  obtain ⟨hb, hown, hne⟩ := h
  have hl0 : l.length ≠ 0 := by simpa using h0
  rw [Lib.byteCells_length] at hown
  obtain ⟨g, cap, cur, fz, rfl, hbg, hg, hfz, hnc, hcm, hcs, htake⟩ : ∃ g cap cur fz, v = .slice (some ⟨g, 0, none⟩) l.length cap ∧ 0 ≤ g ∧ w.heap[g]? = some (.cells cur 5 fz) ∧ fz.2 ≤ l.length * 1 ∧ l.length ≤ cap ∧ cap ≤ maxLen ∧ cur.size = cap * 1 ∧ cur.toList.take (l.length * 1) = Lib.byteCells l := by
    rcases hown.2 with ⟨_, hz⟩ | ⟨g, cap, cur, fz, hv, r⟩
    · exact absurd hz hl0
    · exact ⟨g, cap, cur, fz, hv, r⟩
  have hgb : g ≠ b := fun e => hne (by simp [Value.ownBlock, e])
  have c1' : w.drew.cell? ⟨b, 1, none⟩ = some (.slice (some ⟨g, 0, none⟩) l.length cap) := by
    have : w.drew.heap[b]? = some (.cells #[p, .slice (some ⟨g, 0, none⟩) l.length cap,] 54 (0, 0)) := hb
    rw [Lib.cell_of_heap this]; rfl
  have c2' : w.cell? ⟨b, 1, none⟩ = some (.slice (some ⟨g, 0, none⟩) l.length cap) := c1'
  have hSD : (Builtin.unsafeSliceData_ #[35] 86 #[.slice (some ⟨g, 0, none⟩) l.length cap]).run Tryz.prog w.drew = .ok (.pointer (some ⟨g, 0, none⟩)) w.drew :=
    Lib.run_unsafeSliceData_row _ _ _ _ _ _ (by omega)
  have hUS : (Builtin.unsafeString_ #[86, 3] 9 #[.pointer (some ⟨g, 0, none⟩), .int .i64 l.length]).run Tryz.prog w.drew = .ok (.string ⟨l.toArray⟩) (w.drew.freeze ⟨g, 0, none⟩ l.length) := by
    refine Lib.run_unsafeString_row w.drew 86 3 9 5 tBy cellsB g cur.size (by have hg' : w.drew.heap[g]? = some (.cells cur 5 fz) := hg; simp [World.shape?, hg']) l h0 (by omega) (by unfold maxLen at hcm; omega) ?_
    intro j x hx
    have := hown.cells (g := g) rfl j (.int .u8 x.toNat) (by simp [Lib.byteCells, hx])
    exact this
  have fin : lBAt (w.drew.freeze ⟨g, 0, none⟩ l.length) b p (.slice (some ⟨g, 0, none⟩) l.length cap) (Lib.byteCells l) ∧ BFr w (w.drew.freeze ⟨g, 0, none⟩ l.length) b (.slice (some ⟨g, 0, none⟩) l.length cap) (.slice (some ⟨g, 0, none⟩) l.length cap) := by
    have hoth : ∀ k, k ≠ g → (w.drew.freeze ⟨g, 0, none⟩ l.length).heap[k]? = w.heap[k]? := by
      intro k hk
      unfold World.freeze
      split
      · rfl
      · simp only [Array.getElem?_modify, if_neg hk.symm]; rfl
    have hgf : ∃ fz', (w.drew.freeze ⟨g, 0, none⟩ l.length).heap[g]? = some (.cells cur 5 fz') ∧ fz'.2 ≤ l.length := by
      unfold World.freeze
      have hg' : w.drew.heap[g]? = some (.cells cur 5 fz) := hg
      obtain ⟨lo, hi⟩ := fz
      rw [if_neg hl0]
      simp only [Array.getElem?_modify, if_true, hg', Option.map_some]
      refine ⟨_, rfl, ?_⟩
      simp only at hfz
      split <;> simp <;> omega
    obtain ⟨fz', hg1, hfz1⟩ := hgf
    refine ⟨⟨by rw [hoth b hgb.symm]; exact hb, ?_, hne⟩, ?_⟩
    · rw [Lib.byteCells_length]
      exact ⟨hown.1, .inr ⟨g, cap, cur, fz', rfl, hbg, hg1, by omega, hnc, hcm, hcs, htake⟩⟩
    · refine ⟨?_, ?_, ?_, ?_, fun r _ => shape_freeze, fun k _ _ hkv => hoth k (fun e => hkv (by simp [Value.ownBlock, e])), .inl rfl⟩
      all_goals (unfold World.freeze; split <;> first | rfl | exact Nat.le_refl _ | (simp only [Array.size_modify]; exact Nat.le_refl _))
  have mixed : Tryz.prog.follows .mixedOrders = true := by kernel_rfl
  go_enter Tryz.func27, Tryz.ntmps27
  go_wp2
  go_region
  all_goals (go_wp2; go_ret; exact ⟨rfl, fin⟩)
/-- a byte behind a row whose head may be frozen: as the library's law, and what becomes of the blocks' shapes -/
theorem app_bF {P : Program} (w : World) (t ty e : TypeId) (i : TypeInfo) (ht : P.underlying t = some (.slice e)) (hi : P.info? e = some i) (hz : i.zero = some (.int .u8 0))
    (hsize : i.size = 1) (hby : i.bytes = 1) (v : Value) (n : Nat) (xs : List Value) (hown : w.ownsRowF 0 e 1 v n xs) (a : Addr) (c : Nat) (x : Value) (hx : w.cell? a = some x) (h1 : x.oneCell' = true) (hlen : n + 1 ≤ 1000000000) :
    ∃ v' w', (Builtin.append_ #[t, t] ty #[v, .slice (some a) 1 c]).run P w = .ok v' w' ∧ w'.ownsRowF 0 e 1 v' (n + 1) (xs ++ [x]) ∧ w.grownBy w' v.ownBlock ∧ (∀ r, r < w.heap.size → w'.shape? r = w.shape? r) ∧
      (v'.ownBlock = v.ownBlock ∨ ∃ g, v'.ownBlock = some g ∧ w.heap.size ≤ g) := by
  have h63 : n + 1 ≤ maxLen := by unfold maxLen; omega
  have hz1 : (Value.int IntKind.u8 0).cells.size = 1 := rfl
  have hnews : ∀ j u, [x][j]? = some u → w.cell? (a.add j) = some u := by
    intro j u hj
    match j, hj with
    | 0, hj => simp at hj; subst hj; rw [Go.Eng.add_zero']; exact hx
  have hones : ∀ u ∈ [x], u.oneCell' = true := by intro u hu; simp at hu; subst hu; exact h1
  rcases hown.2 with ⟨rfl, rfl⟩ | ⟨g, cap, cur, fz, rfl, hbg, hg, hfz, hnc, hcm, hcs, htake⟩
  · have hx0 : xs = [] := List.eq_nil_of_length_eq_zero (by simpa using hown.1)
    subst hx0
    obtain ⟨v', w', h1, h2, h3, _⟩ := run_append_own (P := P) w w.heap.size t ty e i (.int .u8 0) 1 1 ht hi hz hsize hby hz1 (by decide) (.slice none 0 0) 0 [] ⟨hown.1, .inl ⟨rfl, rfl⟩⟩ a 1 c [x] rfl hnews hones h63 (by omega) (Nat.le_refl _)
    have h2' : w'.ownsRow 0 e 1 v' (0 + 1) ([] ++ [x]) := by
      refine ⟨h2.1, ?_⟩
      rcases h2.2 with h | ⟨g, cap, cur, hv, _, r⟩
      · exact .inl h
      · exact .inr ⟨g, cap, cur, hv, Nat.zero_le _, r⟩
    refine ⟨v', w', h1, World.ownsRowF_of h2', h3, fun r hr => shape_hp (h3.block r hr (by simp [Value.ownBlock])), ?_⟩
    rcases h2.2 with ⟨rfl, _⟩ | ⟨g, cap, cur, rfl, hge, _⟩
    · exact .inl rfl
    · exact .inr ⟨g, rfl, hge⟩
  · have hxl : xs.length = n := by simpa using hown.1
    have hl : (xs ++ [x]).length = (n + 1) * 1 := by rw [List.length_append, hxl]; simp
    by_cases hroom : n + 1 ≤ cap
    · have hcs' : cur.size = cap := by simpa using hcs
      have hr := run_append_roomF (P := P) w t ty e i ht hi g n cap cur fz hg (by rw [hsize]; simpa using hfz) a 1 c [x] (by rw [hsize]; rfl) hnews hones hroom (by rw [hsize]; simp; omega)
      rw [hsize] at hr
      simp only [Nat.mul_one, List.length_singleton] at hr
      have hsz : (cur.toList.take n ++ [x] ++ cur.toList.drop (n + 1)).toArray.size = cur.size := by
        simp only [List.size_toArray, List.length_append, List.length_take, List.length_drop, Array.length_toList, List.length_singleton]
        omega
      refine ⟨_, _, hr, ⟨hl, .inr ⟨g, cap, _, fz, rfl, hbg, setRow_heap w g cur _ e _ hg, by omega, hroom, hcm, by rw [hsz]; exact hcs, ?_⟩⟩, ⟨rfl, rfl, rfl, by simp, fun k _ hk => setRow_other w g k _ (fun e => hk (by simp [Value.ownBlock, e]))⟩, fun r _ => shape_row hg hsz r, .inl rfl⟩
      have ht' : cur.toList.take n = xs := by simpa using htake
      rw [ht', ← hl]
      exact List.take_left
    · have holds : ∀ j u, xs[j]? = some u → w.cell? ((⟨g, 0, none⟩ : Addr).add j) = some u := hown.cells (g := g) rfl
      have hr := run_append_grow (P := P) w t ty e i (.int .u8 0) ht hi hz ⟨g, 0, none⟩ n cap xs (by rw [hsize]; simpa using hxl) holds a 1 c [x] (by rw [hsize]; rfl) hnews (by omega) (by omega) (by rw [hby]; exact growslice_fits (by omega) (by omega))
      have hge := grownCap_ge w (n + 1) cap e
      have hcm2 : grownCap w (n + 1) cap e ≤ maxLen := grownCap_le_maxLen w (n + 1) cap e h63
      refine ⟨_, _, hr, ⟨hl, .inr ⟨w.heap.size, _, _, (0, 0), rfl, Nat.zero_le _, heap_alloc_new w.drew _, Nat.zero_le _, hge, hcm2, ?_, ?_⟩⟩, ⟨rfl, rfl, rfl, by simp, fun k hk _ => heap_alloc_old w.drew _ hk⟩, fun r hr => shape_hp (heap_alloc_old w.drew _ hr), .inr ⟨w.heap.size, rfl, Nat.le_refl _⟩⟩
      · simp only [Array.size_append, List.size_toArray, size_zeroCells, hz1, hxl, List.length_singleton]
        omega
      · simp only [Array.toList_append, List.append_assoc]
        rw [← List.append_assoc, ← hl]
        exact List.take_left
theorem wp_app_bF {P : Program} {w : World} {ops : Array Oper} {rest : List Oper} {o : Oper} {a : Act} {Q : Exit → Act → World → Prop} (hgd : o.guard = none) (sl x : Operand) (t : TypeId)
    (ho : o.op = .call { callee := .builtin .append, args := #[sl, x], argTypes := #[t, t] })
    (e : TypeId) (i : TypeInfo) (ht : P.underlying t = some (.slice e)) (hi : P.info? e = some i) (hz : i.zero = some (.int .u8 0)) (hsize : i.size = 1) (hby : i.bytes = 1)
    (v : Value) (n : Nat) (xs : List Value) (hs : a.eval sl = v) (hown : w.ownsRowF 0 e 1 v n xs) (ad : Addr) (c : Nat) (u : Value) (hx : a.eval x = .slice (some ad) 1 c) (hu : w.cell? ad = some u) (h1 : u.oneCell' = true) (hlen : n + 1 ≤ 1000000000)
    (h : ∀ v' w', w'.ownsRowF 0 e 1 v' (n + 1) (xs ++ [u]) → w.grownBy w' v.ownBlock → (∀ r, r < w.heap.size → w'.shape? r = w.shape? r) → (v'.ownBlock = v.ownBlock ∨ ∃ g, v'.ownBlock = some g ∧ w.heap.size ≤ g) → wpList P ops Q rest (a.put o.dst v') w') : wpList P ops Q (o :: rest) a w := by
  refine wpList_plain hgd fun K hK => ?_
  obtain ⟨v', w', hr, h2, h3, h4, h5⟩ := app_bF (P := P) w t o.type e i ht hi hz hsize hby v n xs hown ad c u hu h1 hlen
  unfold Oper.wp execOp
  simp only [ho, resolve, invoke, builtin, Sem.run_bind, Sem.run_pure, Result.andThen_ok, List.map_toArray, List.map_cons, List.map_nil, hs, hx, hr]
  exact hK _ _ (h v' w' h2 h3 h4 h5)
set_option maxRecDepth 100000 in
set_option maxHeartbeats 2000000 in
theorem lwb_in (b : Nat) (p v : Value) (bs : List Value) (c : Int) (w : World) (hp : p = .pointer none ∨ p = .pointer (some ⟨b, 0, none⟩)) (h : lBAt w b p v bs) (hlen : bs.length + 1 ≤ 1000000000) :
    Calls Tryz.prog 45 #[.pointer (some ⟨b, 0, none⟩), .int .u8 c] w fun e w' => e = .returned .nilIface ∧
      ∃ v', lBAt w' b (.pointer (some ⟨b, 0, none⟩)) v' (bs ++ [.int .u8 c]) ∧ BFr w w' b v v' := by
  obtain ⟨i0, hi, hz0, hz1, hz2⟩ := info_parts infoB
  go_enter Tryz.func45, Tryz.ntmps45
  go_wp2_with (go_at_call 69; refine (lcc_any b p v bs _ hp h).mono ?_)
  rintro e w1 ⟨rfl, h1, f1⟩
  have d0 : w1.cell? ⟨b, 1, none⟩ = some v := by rw [Lib.cell_of_heap h1.hb]; rfl
  have hlt : b < w1.heap.size := by
    rcases Nat.lt_or_ge b w1.heap.size with h' | h'
    · exact h'
    · have := h1.hb; simp [Array.getElem?_eq_none h'] at this
  go_wp2_with (at_builtin; refine wp_app_bF rfl _ _ 35 rfl 5 i0 tBu hi hz0 hz1 hz2 _ _ _ rfl (h1.own.alloc _) ⟨w1.heap.size, 0, none⟩ 1 (.int .u8 c) rfl ?c1 rfl hlen ?_)
  case c1 => simp
  intro v' w2 hown' hgrow hshp hrow
  have hal : ∀ (k : Nat), k < w1.heap.size → (w1.alloc (.cells #[.int .u8 c] 5)).heap[k]? = w1.heap[k]? := fun k hk => Go.RowKit.Below.heap_alloc _ _ _ hk
  have hsz : w1.heap.size ≤ (w1.alloc (.cells #[.int .u8 c] 5)).heap.size := by simp
  have hb2 : w2.heap[b]? = some (.cells #[.pointer (some ⟨b, 0, none⟩), v,] 54 (0, 0)) := by
    rw [hgrow.block b (by omega) (fun e => h1.ne e.symm), hal b hlt]
    exact h1.hb
  have hne' : v'.ownBlock ≠ some b := by
    rcases hrow with h | ⟨g, h, hg⟩
    · rw [h]; exact h1.ne
    · rw [h]; intro hc; cases hc; omega
  have f2 : w2.frozen? ⟨b, 1, none⟩ = false := Lib.frozen_of_heap hb2 1
  have d1 : w2.cell? ⟨b, 1, none⟩ = some v := by rw [Lib.cell_of_heap hb2]; rfl
  have d3 : w2.cell? ⟨b, 0, none⟩ = some (.pointer (some ⟨b, 0, none⟩)) := by rw [Lib.cell_of_heap hb2]; rfl
  obtain ⟨ao, n', cap, rfl⟩ : ∃ ao n' cap, v' = .slice ao n' cap := by
    rcases hown'.2 with ⟨hv, _⟩ | ⟨g, cap, cur, fz, hv, _⟩
    · exact ⟨_, _, _, hv⟩
    · exact ⟨_, _, _, hv⟩
  go_wp2
  go_ret
  refine ⟨rfl, .slice ao n' cap, ⟨?_, ?_, hne'⟩, ?_⟩
  · simp [World.setCell, Array.getElem?_modify, hb2]
  · have : w2.ownsRowF 0 5 1 (.slice ao n' cap) (bs ++ [Value.int .u8 c]).length (bs ++ [Value.int .u8 c]) := by
      rw [List.length_append, List.length_singleton]; exact hown'
    exact this.kept (row := some b) ⟨rfl, rfl, rfl, by simp [World.setCell], fun k _ hk => Below.heap_setCell _ _ _ _ (fun e => hk (by simp [e]))⟩ (Or.inr hne')
  · refine ⟨?_, ?_, ?_, ?_, ?_, ?_, ?_⟩
    · exact (show (w2.setCell _ _).os = w2.os from rfl).trans (hgrow.os.trans f1.os)
    · exact (show (w2.setCell _ _).tape = w2.tape from rfl).trans (hgrow.tape.trans f1.tape)
    · exact (show (w2.setCell _ _).output = w2.output from rfl).trans (hgrow.output.trans f1.output)
    · have := f1.size; have := hgrow.size; simp [World.setCell] at *; omega
    · intro r hr
      have hr1 : r < w1.heap.size := by have := f1.size; omega
      by_cases hrb : r = b
      · subst hrb
        rw [← f1.shape r hr]
        simp [World.shape?, World.setCell, Array.getElem?_modify, hb2, h1.hb]
      · rw [shape_hp (Below.heap_setCell _ _ _ _ hrb), hshp r (by omega), shape_hp (hal r hr1), f1.shape r hr]
    · intro k hk hkb hkv
      have hk1 : k < w1.heap.size := by have := f1.size; omega
      rw [Below.heap_setCell _ _ _ _ hkb, hgrow.block k (by omega) (fun e => hkv e.symm), hal k hk1, f1.block k hk hkb hkv]
    · rcases hrow with h | ⟨g, h, hg⟩
      · exact .inl h
      · exact .inr ⟨g, h, by have := f1.size; omega⟩
end Go.Proofs.YtnppmcgmmdcpiaaGreatDoor
