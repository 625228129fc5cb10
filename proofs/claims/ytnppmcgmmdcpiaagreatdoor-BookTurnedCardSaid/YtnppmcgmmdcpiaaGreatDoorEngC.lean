import Derived.Test.YtnppmcgmmdcpiaaGreatDoorEngB
/- The engine, third part: soundness of the operations. -/
namespace Go.Eng
open Go.RowKit

theorem add_mk (b o n : Nat) : (⟨b, o, none⟩ : Addr).add n = ⟨b, o + n, none⟩ := by
  unfold Addr.add; split <;> simp_all
theorem add_zero' (a : Addr) : a.add 0 = a := by simp [Addr.add]
theorem add_block (a : Addr) (n : Nat) : (a.add n).block = a.block := by unfold Addr.add; split <;> simp
theorem add_off (a : Addr) (n : Nat) : (a.add n).off = a.off + n := by unfold Addr.add; split <;> simp_all
theorem add_spot (a : Addr) (n : Nat) (h : a.spot = none) : (a.add n).spot = none := by unfold Addr.add; split <;> simp_all
theorem add_add (a : Addr) (n m : Nat) : (a.add n).add m = a.add (n + m) := by
  unfold Addr.add
  by_cases h1 : n = 0
  · subst h1; simp
  · by_cases h2 : m = 0
    · subst h2; simp [h1]
    · simp [h1, h2]; omega

theorem info_of_under {P : Program} {t : TypeId} (h : (P.underlying t).isSome = true) : ∃ i, P.info? t = some i := by
  unfold Program.underlying at h
  cases hi : P.info? t with
  | none => simp [hi] at h
  | some i => exact ⟨i, rfl⟩
theorem under_some {P : Program} {t : TypeId} (h : (P.underlying t).isSome = true) : ∃ d, P.underlying t = some d := Option.isSome_iff_exists.1 h
theorem cellsOf_eq {P : Program} {t : TypeId} {i : TypeInfo} (h : P.info? t = some i) : P.cellsOf t = i.size := by simp [Program.cellsOf, h]
theorem bytesOf_eq {P : Program} {t : TypeId} {i : TypeInfo} (h : P.info? t = some i) : P.bytesOf t = i.bytes := by simp [Program.bytesOf, h]

theorem run_isAgg {P : Program} {t : TypeId} {d : TypeDesc} (h : P.underlying t = some d) (w : World) : (isAgg t).run P w = .ok (isAggB P t) w := by
  simp only [isAgg, Sem.run_bind, run_underlying h, Result.andThen_ok, isAggB, h]
  cases d <;> rfl

/-! ### reading -/

theorem rd_sound {w : World} {h : H} (hw : Holds w h) {a : Addr} {v : Value} (hr : h.rd a v) : w.cell? a = some v := by
  obtain ⟨hs, hr⟩ := hr
  rcases hr with ⟨e, he, hid, hv⟩ | hr
  · obtain ⟨arr, T, h1, _, h3⟩ := (hw.ok e he).row _ hid
    obtain ⟨tl, htl⟩ := h3
    simp only [World.cell?, h1, hs]
    have hlt : a.off < e.cells.length := (List.getElem?_eq_some_iff.1 hv).1
    have : arr.toList[a.off]? = some v := by rw [← htl, List.getElem?_append_left hlt]; exact hv
    simpa using this
  · exact hw.ro a v hr

theorem cell_block_lt {w : World} {a : Addr} {v : Value} (h : w.cell? a = some v) : a.block < w.heap.size := World.block_lt_of_cell? w a h

/-! ### a new row -/

theorem fresh_size {w : World} {h : H} (hw : Holds w h) : h.fresh w.heap.size :=
  ⟨fun _ he hid => Nat.lt_irrefl _ (ids_lt hw he hid), fun a v hv hb => Nat.lt_irrefl _ (hb ▸ cell_block_lt (hw.ro a v hv))⟩

theorem new_holds {w : World} {h : H} (hw : Holds w h) (cells : List Value) (arr : Array Value) (T : TypeId) (e : Ent) (he : e.aid = some w.heap.size) (hc : e.cells = cells) (hcap : e.cap = arr.size) (hp : cells <+: arr.toList) :
    Holds (w.alloc (.cells arr T)) ⟨h.own ++ [e], h.ro⟩ ∧ Fr w (w.alloc (.cells arr T)) h ⟨h.own ++ [e], h.ro⟩ := by
  have hfr := fresh_size hw
  have heb := Ent.blk_of_id he
  have hnew : (w.alloc (.cells arr T)).heap[w.heap.size]? = some (.cells arr T (0, 0)) := heap_alloc_new w _
  have hold : ∀ r, r < w.heap.size → (w.alloc (.cells arr T)).heap[r]? = w.heap[r]? := fun r hr => Below.heap_alloc w _ r hr
  have hshp : ∀ r, r < w.heap.size → (w.alloc (.cells arr T)).shape? r = w.shape? r := fun r hr => shape_of_heap (hold r hr)
  refine ⟨⟨?_, ?_, ?_, ?_⟩, ⟨rfl, rfl, rfl, by simp, hshp, fun r hr _ => hold r hr, ?_, fun _ _ h => h, fun _ _ h => .inl h⟩⟩
  · simp only [List.filterMap_append, List.filterMap_cons, heb, List.filterMap_nil, List.nodup_append, List.mem_filterMap]
    refine ⟨hw.nd, by simp, ?_⟩
    rintro r ⟨e0, h0, hr⟩ r' hr' rfl
    simp at hr'
    exact hfr.1 e0 h0 (hr' ▸ hr)
  · intro e0 h0
    simp only [List.mem_append, List.mem_singleton] at h0
    rcases h0 with h0 | rfl
    · exact Ent.ok_of_block (fun r hr => hold r (ids_lt hw h0 hr)) hshp (hw.ok e0 h0)
    · refine ⟨fun r hr => ?_, fun a bs hf => (by rw [Ent.fz_of_id he] at hf; cases hf), fun a hf => (by rw [Ent.sh_of_id he] at hf; cases hf)⟩
      have : w.heap.size = r := by rw [he] at hr; exact Option.some.inj hr
      subst this
      exact ⟨arr, T, hnew, hcap.symm, hc ▸ hp⟩
  · intro a v hv
    have h1 := hw.ro a v hv
    exact (World.cell?_of_block (w := w) (hold _ (cell_block_lt h1))).trans h1
  · intro a v hv e0 h0
    simp only [List.mem_append, List.mem_singleton] at h0
    rcases h0 with h0 | rfl
    · exact hw.ap a v hv e0 h0
    · rw [heb]
      intro hb
      exact hfr.2 a v hv (Option.some.inj hb).symm
  · intro e0 h0 r hr
    simp only [List.mem_append, List.mem_singleton] at h0
    rcases h0 with h0 | rfl
    · exact .inl ⟨e0, h0, hr⟩
    · rw [heb] at hr
      exact .inr (Nat.le_of_eq (Option.some.inj hr))

theorem new_sound {w : World} {h : H} (hw : Holds w h) {cells : List Value} {K : Nat → H → Prop} (hn : h.new cells K) (T : TypeId) :
    ∃ h', Holds (w.alloc (.cells cells.toArray T)) h' ∧ Fr w (w.alloc (.cells cells.toArray T)) h h' ∧ K w.heap.size h' :=
  let hh := new_holds hw cells cells.toArray T ⟨some w.heap.size, cells, cells.length⟩ rfl rfl (by simp) (by simp)
  ⟨_, hh.1, hh.2, hn _ (fresh_size hw)⟩

/-! ### writing -/

theorem allOne_iff : ∀ {vs : List Value}, allOne vs ↔ ∀ v ∈ vs, v.oneCell' = true
  | [] => by simp [allOne]
  | v :: vs => by simp [allOne, allOne_iff (vs := vs)]

theorem swap_holds {w w' : World} {A C : List Ent} {en en' : Ent} {ro : Addr → Option Value} (hw : Holds w ⟨A ++ en :: C, ro⟩)
    (hos : w'.os = w.os) (htape : w'.tape = w.tape) (hout : w'.output = w.output) (hsize : w.heap.size ≤ w'.heap.size) (hshp : ∀ r, r < w.heap.size → w'.shape? r = w.shape? r)
    (hk : ∀ r, r < w.heap.size → en.id ≠ some r → w'.heap[r]? = w.heap[r]?) (hok : en'.ok w') (hid : ∀ b, en'.id = some b → en.id = some b ∨ w.heap.size ≤ b) :
    Holds w' ⟨A ++ en' :: C, ro⟩ ∧ Fr w w' ⟨A ++ en :: C, ro⟩ ⟨A ++ en' :: C, ro⟩ := by
  have hnd := hw.nd
  have e1 : (A ++ en :: C).filterMap Ent.id = A.filterMap Ent.id ++ ((en.id.toList) ++ C.filterMap Ent.id) := by
    cases h : en.id <;> simp [List.filterMap_append, h]
  have e2 : (A ++ en' :: C).filterMap Ent.id = A.filterMap Ent.id ++ ((en'.id.toList) ++ C.filterMap Ent.id) := by
    cases h : en'.id <;> simp [List.filterMap_append, h]
  simp only [e1, List.nodup_append, List.mem_append, List.mem_filterMap] at hnd
  obtain ⟨ndA, ⟨_, ndC, dC⟩, dA⟩ := hnd
  have lt : ∀ e ∈ A ++ en :: C, ∀ r, e.id = some r → r < w.heap.size := fun e he r hr => ids_lt hw he hr
  have other : ∀ e, e ∈ A ∨ e ∈ C → ∀ r, e.id = some r → r < w.heap.size ∧ en.id ≠ some r ∧ en'.id ≠ some r := by
    intro e he r hr
    have hlt := lt e (by rcases he with he | he <;> simp [he]) r hr
    have hne : en.id ≠ some r := by
      intro hen
      rcases he with he | he
      · exact dA r ⟨e, he, hr⟩ r (.inl (by simp [hen])) rfl
      · exact dC r (by simp [hen]) r ⟨e, he, hr⟩ rfl
    refine ⟨hlt, hne, fun hen => ?_⟩
    rcases hid r hen with h1 | h1
    · exact hne h1
    · omega
  refine ⟨⟨?_, ?_, ?_, ?_⟩, ⟨hos, htape, hout, hsize, hshp, ?_, ?_, fun _ _ x => x, fun _ _ x => .inl x⟩⟩
  · show ((A ++ en' :: C).filterMap Ent.id).Nodup
    simp only [e2, List.nodup_append, List.mem_append, List.mem_filterMap]
    refine ⟨ndA, ⟨by cases en'.id <;> simp, ndC, ?_⟩, ?_⟩
    · rintro r hr r' ⟨e, he, hr'⟩ rfl
      simp at hr
      exact (other e (.inr he) r hr').2.2 hr
    · rintro r ⟨e, he, hr⟩ r' hr' rfl
      rcases hr' with hr' | hr'
      · simp at hr'
        exact (other e (.inl he) r hr).2.2 hr'
      · exact dA r ⟨e, he, hr⟩ r (.inr hr') rfl
  · intro e he
    simp only [List.mem_append, List.mem_cons] at he
    rcases he with he | rfl | he
    · exact Ent.ok_of_block (fun r hr => let h1 := other e (.inl he) r hr; hk r h1.1 h1.2.1) hshp (hw.ok e (by simp [he]))
    · exact hok
    · exact Ent.ok_of_block (fun r hr => let h1 := other e (.inr he) r hr; hk r h1.1 h1.2.1) hshp (hw.ok e (by simp [he]))
  · intro a v hv
    have h1 := hw.ro a v hv
    exact (World.cell?_of_block (w := w) (hk _ (cell_block_lt h1) (hw.ap a v hv en (by simp)))).trans h1
  · intro a v hv e he
    simp only [List.mem_append, List.mem_cons] at he
    rcases he with he | rfl | he
    · exact hw.ap a v hv e (by simp [he])
    · intro hb
      rcases hid _ hb with h1 | h1
      · exact hw.ap a v hv en (by simp) h1
      · have := cell_block_lt (hw.ro a v hv); omega
    · exact hw.ap a v hv e (by simp [he])
  · intro r hr hn
    exact hk r hr (hn en (by simp))
  · intro e he r hr
    simp only [List.mem_append, List.mem_cons] at he
    rcases he with he | rfl | he
    · exact .inl ⟨e, by simp [he], hr⟩
    · rcases hid r hr with h1 | h1
      · exact .inl ⟨en, by simp, h1⟩
      · exact .inr h1
    · exact .inl ⟨e, by simp [he], hr⟩

theorem shape_setRow {w : World} {g : Nat} {cur arr : Array Value} {t : TypeId} {fz : Nat × Nat} (hg : w.heap[g]? = some (.cells cur t fz)) (hs : arr.size = cur.size) (r : Nat) : (w.setRow g arr).shape? r = w.shape? r := by
  by_cases h : g = r
  · subst h
    simp [World.shape?, setRow_heap w g cur arr t fz hg, hg, hs]
  · exact shape_of_heap (setRow_other w g r _ (fun e => h e.symm))

theorem wr_sound {P : Program} {w : World} {h : H} (hw : Holds w h) {a : Addr} {vs : List Value} {K : H → Prop} (hr : h.wr a vs K) :
    ∃ w' h', (storeCells a vs).run P w = .ok () w' ∧ Holds w' h' ∧ Fr w w' h h' ∧ K h' := by
  obtain ⟨hs, h1, A, e, C, hown, hid, hlen, hk⟩ := hr
  obtain ⟨own, ro⟩ := h
  simp only at hown
  subst hown
  obtain ⟨arr, T, g1, g2, g3⟩ := (hw.ok e (by simp)).row _ hid
  obtain ⟨tl, htl⟩ := g3
  obtain ⟨b, o, sp⟩ := a
  simp only at hs hid hlen g1
  subst hs
  have hsz : o + 0 + vs.length ≤ arr.size := by
    have : arr.toList.length = arr.size := by simp
    rw [← htl] at this
    simp at this
    omega
  have hrun := run_storeCells_at P b o T vs 0 arr w g1 hsz (allOne_iff.1 h1)
  have hok : (⟨e.aid, spl e.cells o vs, e.cap⟩ : Ent).ok (w.setRow b (arr.toList.take (o + 0) ++ vs ++ arr.toList.drop (o + 0 + vs.length)).toArray) := by
    refine ⟨fun r hr => ?_, fun a bs hf => (by rw [Ent.fz_of_id (e := ⟨e.aid, spl e.cells o vs, e.cap⟩) hid] at hf; cases hf), fun a hf => (by rw [Ent.sh_of_id (e := ⟨e.aid, spl e.cells o vs, e.cap⟩) hid] at hf; cases hf)⟩
    have : b = r := Option.some.inj (hid.symm.trans hr)
    subst this
    refine ⟨_, T, setRow_heap w b arr _ T _ g1, ?_, ?_⟩
    · simp only [Nat.add_zero] at hsz
      simp only [← g2, List.size_toArray, List.length_append, List.length_take, List.length_drop, Array.length_toList, Nat.add_zero]
      omega
    · simp only [spl, ← htl, Nat.add_zero]
      rw [List.take_append_of_le_length (by omega), List.drop_append_of_le_length (by omega)]
      exact ⟨tl, by simp⟩
  have hsw := swap_holds (w' := w.setRow b (arr.toList.take (o + 0) ++ vs ++ arr.toList.drop (o + 0 + vs.length)).toArray) (en' := ⟨e.aid, spl e.cells o vs, e.cap⟩) hw rfl rfl rfl (by simp) (fun r _ => shape_setRow g1 (by simp only [List.size_toArray, List.length_append, List.length_take, List.length_drop, Array.length_toList]; omega) r)
    (fun r _ hne => setRow_other w b r _ (fun e => hne (by rw [Ent.blk_of_id hid, e]))) hok (fun b' hb' => .inl (by rw [Ent.blk_of_id (e := ⟨e.aid, spl e.cells o vs, e.cap⟩) hid] at hb'; rw [Ent.blk_of_id hid]; exact hb'))
  exact ⟨_, _, hrun, hsw.1, hsw.2, hk⟩

end Go.Eng
