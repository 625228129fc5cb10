import Derived.Test.YtnppmcgmmdcpiaaGreatDoorEngE
/- The engine, sixth part: append, calls, regions, code. -/
namespace Go.Eng
open Go.RowKit

section
variable {P : Program} {f : F} {w : World} {h : H}

theorem append_run {t e ty : TypeId} {a xa : Option Addr} {l c n c' : Nat} {ys : List Value} {A C : List Ent} {en : Ent} {xs : List Value} {ro : Addr → Option Value}
    (hu : P.underlying t = some (.slice e)) (hw : Holds w ⟨A ++ en :: C, ro⟩) (hl : ys.length = n * P.cellsOf e) (hr : rdS h xa ys) (hh : Holds w h) (h1 : allOne ys) (hxa : xa = none → n = 0)
    (ho : OwnsSl (P.cellsOf e) ⟨a, l, c⟩ en xs) (hb : l + n ≤ 1000000000) (_ : P.cellsOf e ≠ 0) (hby : P.bytesOf e ≤ 100000) (hzz : ∃ z, (P.info? e).bind (·.zero) = some z ∧ z.cells.size = P.cellsOf e) :
    ∃ w' s' en', (Builtin.append_ #[t, t] ty #[.slice a l c, .slice xa n c']).run P w = .ok (.slice s'.a s'.len s'.cap) w' ∧
      Holds w' ⟨A ++ en' :: C, ro⟩ ∧ Fr w w' ⟨A ++ en :: C, ro⟩ ⟨A ++ en' :: C, ro⟩ ∧ OwnsSl (P.cellsOf e) s' en' (xs ++ ys) ∧ s'.len = l + n ∧ ((s'.a = none ↔ a = none ∧ n = 0) ∧ (l + n ≤ c → s'.cap = c ∧ s'.a = a ∧ en'.id = en.id ∧ en'.cap = en.cap)) ∧
      (∀ b, en'.id = some b → en.id = some b ∨ (⟨A ++ en :: C, ro⟩ : H).fresh b) := by
  obtain ⟨z, hz1, hz2⟩ := hzz
  obtain ⟨i, hi, hz1⟩ := zero_of hz1
  have hsz : i.size = P.cellsOf e := (cellsOf_eq hi).symm
  have hbytes : i.bytes ≤ 100000 := by rw [← bytesOf_eq hi]; exact hby
  have hbb : (l + n) * i.bytes ≤ 100000000000000 := Nat.le_trans (Nat.mul_le_mul hb hbytes) (by decide)
  have hone := allOne_iff.1 h1
  have hread : ∀ ad, xa = some ad → ∀ j v, ys[j]? = some v → w.cell? (ad.add j) = some v := by
    intro ad hx j v hv
    subst hx
    exact rd_sound hh (hr j v hv)
  have hfresh := fresh_size hw
  -- a fresh row
  have grown : ∀ (need old : Nat) (cells : List Value) (w1 : World), w1 = w.drew.alloc (.cells (cells.toArray ++ Builtin.zeroCells z.cells (grownCap w need old e - need)) e) → cells.length = need * P.cellsOf e → need = l + n → cells = xs ++ ys →
      Holds w1 ⟨A ++ ⟨some w.heap.size, cells, grownCap w need old e * P.cellsOf e⟩ :: C, ro⟩ ∧ Fr w w1 ⟨A ++ en :: C, ro⟩ ⟨A ++ ⟨some w.heap.size, cells, grownCap w need old e * P.cellsOf e⟩ :: C, ro⟩ ∧
      OwnsSl (P.cellsOf e) ⟨some ⟨w.heap.size, 0, none⟩, need, grownCap w need old e⟩ ⟨some w.heap.size, cells, grownCap w need old e * P.cellsOf e⟩ (xs ++ ys) := by
    intro need old cells w1 hw1 hcl hneed hc
    have hge := grownCap_ge w need old e
    have hcm : grownCap w need old e ≤ maxLen := grownCap_le_maxLen w need old e (by unfold maxLen; omega)
    subst hw1
    have hok : (⟨some w.heap.size, cells, grownCap w need old e * P.cellsOf e⟩ : Ent).ok (w.drew.alloc (.cells (cells.toArray ++ Builtin.zeroCells z.cells (grownCap w need old e - need)) e)) := by
      refine ⟨fun r hr => ?_, fun a bs hf => (by rw [Ent.fz_mk] at hf; cases hf), fun a hf => (by rw [Ent.sh_mk] at hf; cases hf)⟩
      have : w.heap.size = r := Option.some.inj hr
      subst this
      refine ⟨_, e, heap_alloc_new w.drew _, ?_, ?_⟩
      · simp only [Array.size_append, List.size_toArray, size_zeroCells, hz2, hcl, ← Nat.add_mul]
        congr 1
        omega
      · simp only [Array.toList_append]
        exact List.prefix_append _ _
    have hsw := swap_holds (w' := w.drew.alloc (.cells (cells.toArray ++ Builtin.zeroCells z.cells (grownCap w need old e - need)) e)) (en' := ⟨some w.heap.size, cells, grownCap w need old e * P.cellsOf e⟩) hw rfl rfl rfl (by simp) (fun r hr => shape_of_heap (Below.heap_alloc w.drew _ r hr))
      (fun r hr _ => Below.heap_alloc w.drew _ r hr) hok (fun b hb => .inr (Nat.le_of_eq (Option.some.inj hb)))
    exact ⟨hsw.1, hsw.2, .inr ⟨w.heap.size, 0, rfl, rfl, by simp [hcl], by simp, hge, hcm, by simp [hc]⟩⟩
  rcases ho with ⟨ha, hl0, hc0, hid, hcells, hxs⟩ | ⟨b, off, ha, hid, hlen, hcap, hlc, hcm, hdrop⟩
  · simp only at ha hl0 hc0
    subst ha; subst hl0; subst hc0; subst hxs
    by_cases hn : n = 0
    · subst hn
      have hys : ys = [] := List.eq_nil_of_length_eq_zero (by simpa using hl)
      subst hys
      refine ⟨w, ⟨none, 0, 0⟩, en, ?_, hw, Fr.refl _ _, .inl ⟨rfl, rfl, rfl, hid, hcells, rfl⟩, rfl, ⟨by simp, fun _ => ⟨rfl, rfl, rfl, rfl⟩⟩, fun b hb => .inl hb⟩
      cases xa with
      | none => simp [Builtin.append_, run_underlying hu, sizeOf, typeInfo, hi, Builtin.lenOf, Builtin.firstCells]
      | some ad => simp [Builtin.append_, run_underlying hu, sizeOf, typeInfo, hi, Builtin.lenOf, Builtin.firstCells, loadCells, loadCellsFrom]
    · cases xa with
      | none => exact absurd (hxa rfl) hn
      | some ad =>
        have hr' := run_append_nil (P := P) w t ty e i z hu hi hz1 ad n c' ys (by rw [hl, hsz]) (hread ad rfl) (by omega) (by omega) (by have := hbb; simp only [Nat.zero_add] at this; omega)
        obtain ⟨g1, g2, g3⟩ := grown n 0 ys _ rfl hl (by omega) (by simp)
        refine ⟨_, _, _, hr', g1, g2, g3, by simp, ⟨by simp [hn], fun hx => absurd hx (by omega)⟩, fun b hb => .inr ?_⟩
        rw [← Option.some.inj hb]; exact hfresh
  · simp only at ha hlen hcap hlc hcm
    subst ha
    have hxl : xs.length = l * P.cellsOf e := by rw [← hdrop, List.length_drop, hlen]; omega
    by_cases hroom : l + n ≤ c
    · -- in place
      obtain ⟨arr, T, g1, g2, g3⟩ := (hw.ok en (by simp)).row _ hid
      obtain ⟨tl, htl⟩ := g3
      have hfit : off + l * P.cellsOf e + ys.length ≤ arr.size := by
        rw [g2, hl, Nat.add_assoc, ← Nat.add_mul]
        exact Nat.le_trans (Nat.add_le_add_left (Nat.mul_le_mul_right _ hroom) _) hcap
      have hst := run_storeCells_at P b (off + l * P.cellsOf e) T ys 0 arr w g1 (by simpa using hfit) hone
      have hrun : (Builtin.append_ #[t, t] ty #[.slice (some ⟨b, off, none⟩) l c, .slice xa n c']).run P w =
          .ok (.slice (some ⟨b, off, none⟩) (l + n) c) (w.setRow b (arr.toList.take (off + l * P.cellsOf e + 0) ++ ys ++ arr.toList.drop (off + l * P.cellsOf e + 0 + ys.length)).toArray) := by
        cases xa with
        | none =>
          have hn := hxa rfl
          subst hn
          have hys : ys = [] := List.eq_nil_of_length_eq_zero (by simpa using hl)
          subst hys
          have := hst
          simp only [Nat.add_zero] at this hroom ⊢
          simp [Builtin.append_, run_underlying hu, sizeOf, typeInfo, hi, Builtin.lenOf, Builtin.firstCells, add_mk, hsz, this, hroom]
        | some ad =>
          have hf := run_firstCells_some (P := P) w (P.cellsOf e) n ad n c' ys hl (hread ad rfl)
          simp only [Nat.add_zero, List.append_assoc] at hst ⊢
          simp [Builtin.append_, run_underlying hu, sizeOf, typeInfo, hi, Builtin.lenOf, hf, add_mk, hsz, hst, hroom]
      have hok : (⟨some b, en.cells ++ ys, en.cap⟩ : Ent).ok (w.setRow b (arr.toList.take (off + l * P.cellsOf e + 0) ++ ys ++ arr.toList.drop (off + l * P.cellsOf e + 0 + ys.length)).toArray) := by
        refine ⟨fun r hr => ?_, fun a bs hf => (by rw [Ent.fz_mk] at hf; cases hf), fun a hf => (by rw [Ent.sh_mk] at hf; cases hf)⟩
        have : b = r := Option.some.inj hr
        subst this
        refine ⟨_, T, setRow_heap w b arr _ T _ g1, ?_, ?_⟩
        · simp only [← g2, List.size_toArray, List.length_append, List.length_take, List.length_drop, Array.length_toList]
          omega
        · have htake : arr.toList.take (off + l * P.cellsOf e + 0) = en.cells := by
            rw [← htl, Nat.add_zero, ← hlen]; exact List.take_left
          simp only [htake]
          exact List.prefix_append _ _
      have hsw := swap_holds (w' := w.setRow b (arr.toList.take (off + l * P.cellsOf e + 0) ++ ys ++ arr.toList.drop (off + l * P.cellsOf e + 0 + ys.length)).toArray) (en' := ⟨some b, en.cells ++ ys, en.cap⟩) hw rfl rfl rfl (by simp) (fun r _ => shape_setRow g1 (by simp only [List.size_toArray, List.length_append, List.length_take, List.length_drop, Array.length_toList]; omega) r)
        (fun r _ hne => setRow_other w b r _ (fun e => hne (by rw [Ent.blk_of_id hid, e]))) hok (fun b' hb' => .inl (by rw [Ent.blk_of_id hid, ← Option.some.inj hb']))
      refine ⟨_, ⟨some ⟨b, off, none⟩, l + n, c⟩, _, hrun, hsw.1, hsw.2, .inr ⟨b, off, rfl, rfl, ?_, hcap, hroom, hcm, ?_⟩, rfl, ⟨by simp, fun _ => ⟨rfl, rfl, (Ent.blk_of_id hid).symm, rfl⟩⟩, fun b' hb' => .inl (by rw [Ent.blk_of_id hid, ← Option.some.inj hb'])⟩
      · simp only [List.length_append, hlen, hl, Nat.add_assoc, ← Nat.add_mul]
      · show (en.cells ++ ys).drop off = xs ++ ys
        rw [List.drop_append_of_le_length (by omega), hdrop]
    · -- a fresh row
      cases xa with
      | none => exact absurd (hxa rfl) (by omega)
      | some ad =>
        have holds : ∀ j v, xs[j]? = some v → w.cell? ((⟨b, off, none⟩ : Addr).add j) = some v := by
          intro j v hv
          rw [add_mk]
          refine rd_sound (h := ⟨[en], ro⟩) ⟨by simp [Ent.blk_of_id hid], fun e he => by simp at he; subst he; exact hw.ok e (by simp), hw.ro, fun a v hv e he => by simp at he; subst he; exact hw.ap a v hv e (by simp)⟩ ⟨rfl, .inl ⟨en, by simp, hid, ?_⟩⟩
          rw [← hdrop, List.getElem?_drop] at hv
          exact hv
        have hr' := run_append_grow (P := P) w t ty e i z hu hi hz1 ⟨b, off, none⟩ l c xs (by rw [hxl, hsz]) holds ad n c' ys (by rw [hl, hsz]) (hread ad rfl) (by omega) (by omega) (growslice_fits (by omega) (by omega))
        obtain ⟨g1, g2, g3⟩ := grown (l + n) c (xs ++ ys) (w.drew.alloc (.cells (xs.toArray ++ ys.toArray ++ Builtin.zeroCells z.cells (grownCap w (l + n) c e - (l + n))) e)) (by simp) (by rw [List.length_append, hxl, hl, ← Nat.add_mul]) rfl rfl
        refine ⟨_, _, _, hr', g1, g2, g3, rfl, ⟨by simp, fun hx => absurd hx hroom⟩, fun b' hb' => .inr ?_⟩
        rw [← Option.some.inj hb']; exact hfresh

theorem appVC_sound {o : Oper} {args : Array Operand} {t : TypeId} {s x : Operand} {K : Value → H → Prop} (ho : o.op = .call { callee := .builtin .append, args := args, argTypes := #[t, t] }) (ha : args = #[s, x])
    (hw : Holds w h) (hr : appVC P t (ev f s) (ev f x) h fun s' h' => K (.slice s'.a s'.len s'.cap) h') : WVal P f o w h K := by
  unfold appVC at hr
  split at hr
  · rename_i e a l c xa n c' hu hs hx
    obtain ⟨ys, h1, h2, h3, h4, h2', hg, A, en, C, xs, hown, h5, h6, h7, h8, h9, hk⟩ := hr
    have hw2 := hg.holds w hw
    obtain ⟨own2, ro2⟩ := h2'
    simp only at hown
    subst hown
    obtain ⟨w', s', en', g1, g2, g3, g4, g5, g6, g7⟩ := append_run (c' := c') (ty := o.type) hu hw2 h1 h2 hw h3 h4 h5 h6 h7 h8 h9
    refine ⟨_, _, w', _, ?_, .inl rfl, g2, (hg.fr w).trans g3, hk s' en' g4 g5 g6 g7⟩
    have e2 : args.map (ev f) = #[.slice a l c, .slice xa n c'] := by subst ha; simp [hs, hx]
    simp only [execOp, ho, resolve, invoke, builtin, Sem.run_bind, Sem.run_pure, Result.andThen_ok, e2, g1]
  · exact hr.elim

theorem clearVC_sound {o : Oper} {tys : Array TypeId} {args : Array Operand} {t : TypeId} {ts : List TypeId} {s : Operand} {ss : List Operand} {K : Value → H → Prop} (ho : o.op = .call { callee := .builtin .clear, args := args, argTypes := tys }) (ht : tys.toList = t :: ts) (ha : args.toList = s :: ss)
    (hw : Holds w h) (hr : clearVC P t (ev f s) h fun h' => K undef h') : WVal P f o w h K := by
  unfold clearVC at hr
  have e1 : tys = (t :: ts).toArray := by rw [← ht]
  have e2 : args.map (ev f) = (ev f s :: ss.map (ev f)).toArray := by apply Array.ext'; simp [ha]
  split at hr
  · rename_i e a n c hu hs
    rw [hs] at e2
    rcases hr with ⟨rfl, hk⟩ | ⟨b, A, en, C, rfl, hsp, hown, hid, h1, h2, ⟨z, hz, hz2, hz3⟩, hk⟩
    · refine ⟨_, undef, w, h, ?_, .inl rfl, hw, Fr.refl _ _, hk⟩
      cases a <;> simp [execOp, ho, resolve, invoke, builtin, e2, e1, Builtin.clear_, run_underlying hu, undef]
    · by_cases hn : n = 0
      · subst hn
        refine ⟨_, undef, w, h, ?_, .inl rfl, hw, Fr.refl _ _, hk⟩
        simp [execOp, ho, resolve, invoke, builtin, e2, e1, Builtin.clear_, run_underlying hu, undef]
      obtain ⟨i, hi, hz⟩ := zero_of hz
      obtain ⟨own, ro⟩ := h
      simp only at hown
      subst hown
      obtain ⟨arr, T, g1, g2, g3⟩ := (hw.ok en (by simp)).row _ hid
      obtain ⟨tl, htl⟩ := g3
      obtain ⟨bb, off, sp⟩ := b
      simp only at hsp hid h1 h2 g1
      subst hsp
      have hlen : (Builtin.zeroCells z.cells n).toList.length = n * P.cellsOf e := by simp [size_zeroCells, hz2]
      have hone : ∀ v ∈ (Builtin.zeroCells z.cells n).toList, v.oneCell' = true := by
        intro v hv
        simp only [Builtin.zeroCells, Array.toList_map, Array.toList_range, List.mem_map, List.mem_range] at hv
        obtain ⟨j, hj, rfl⟩ := hv
        have hpos : 0 < z.cells.size := by
          rcases Nat.eq_zero_or_pos z.cells.size with h0 | h0
          · rw [h0] at hj; simp at hj
          · exact h0
        have hlt := Nat.mod_lt j hpos
        rw [getElem!_pos z.cells _ hlt]
        exact allOne_iff.1 hz3 _ (by simp)
      have hst := run_storeCells_at P bb off T (Builtin.zeroCells z.cells n).toList 0 arr w g1 (by rw [hlen, g2]; simpa using h2) hone
      have hok : en.ok (w.setRow bb (arr.toList.take (off + 0) ++ (Builtin.zeroCells z.cells n).toList ++ arr.toList.drop (off + 0 + (Builtin.zeroCells z.cells n).toList.length)).toArray) := by
        refine ⟨fun r hr => ?_, fun a bs hf => (by rw [Ent.fz_of_id hid] at hf; cases hf), fun a hf => (by rw [Ent.sh_of_id hid] at hf; cases hf)⟩
        have : bb = r := Option.some.inj (hid.symm.trans hr)
        subst this
        refine ⟨_, T, setRow_heap w bb arr _ T _ g1, ?_, ?_⟩
        · rw [← g2] at h2
          simp only [← g2, List.size_toArray, List.length_append, List.length_take, List.length_drop, Array.length_toList, hlen]
          omega
        · simp only [Nat.add_zero]
          refine ⟨(arr.toList.take off).drop en.cells.length ++ ((Builtin.zeroCells z.cells n).toList ++ arr.toList.drop (off + (Builtin.zeroCells z.cells n).toList.length)), ?_⟩
          have : en.cells = (arr.toList.take off).take en.cells.length := by
            rw [List.take_take, Nat.min_eq_left h1, ← htl]; exact List.take_left.symm
          rw [← List.append_assoc, ← List.append_assoc]
          congr 2
          conv => lhs; lhs; rw [this]
          rw [← this]
          conv => lhs; lhs; rw [this]
          exact List.take_append_drop _ _
      have hsw := swap_holds (w' := w.setRow bb (arr.toList.take (off + 0) ++ (Builtin.zeroCells z.cells n).toList ++ arr.toList.drop (off + 0 + (Builtin.zeroCells z.cells n).toList.length)).toArray) (en' := en) hw rfl rfl rfl (by simp) (fun r _ => shape_setRow g1 (by simp only [List.size_toArray, List.length_append, List.length_take, List.length_drop, Array.length_toList]; have hlen2 := hlen; rw [Array.length_toList] at hlen2; rw [← g2] at h2; omega) r)
        (fun r _ hne => setRow_other w bb r _ (fun e => hne (by rw [Ent.blk_of_id hid, e]))) hok (fun b' hb' => .inl hb')
      refine ⟨_, undef, _, _, ?_, .inl rfl, hsw.1, hsw.2, hk⟩
      have hzr : ∀ w, (zeroValue e).run P w = .ok z w := fun w => by simp [zeroValue, typeInfo, hi, hz]
      simp only [execOp, ho, resolve, invoke, builtin, Sem.run_bind, Sem.run_pure, Result.andThen_ok, e2, e1, Builtin.clear_, List.getElem?_toArray, List.getElem?_cons_zero, run_underlying hu]
      cases n with
      | zero => exact absurd rfl hn
      | succ n =>
        simp only [hzr, Result.andThen_ok, hst]
        rfl
  · exact hr.elim

/-! ### results -/

theorem exKs_spec : ∀ {ks : List Kd} {K : List Value → Prop}, exKs ks K → ∃ vs, K vs
  | [], _, h => ⟨[], h⟩
  | _ :: _, _, ⟨_, h⟩ => let ⟨_, hv⟩ := exKs_spec h; ⟨_, hv⟩

theorem valK_spec {t : TypeId} {K : Value → Prop} (h : valK P t K) : ∃ v, K v := by
  unfold valK at h
  cases hb : isAggB P t <;> simp only [hb, cond_true, cond_false] at h
  · obtain ⟨x, hx⟩ := h; exact ⟨_, hx⟩
  · cases hc : Nat.ble (flat P 6 t).length 20 <;> simp only [hc, cond_true, cond_false] at h
    · obtain ⟨x, hx⟩ := h; exact ⟨_, hx⟩
    · obtain ⟨vs, hv⟩ := exKs_spec h; exact ⟨_, hv⟩

theorem tupK_spec : ∀ {ts : List TypeId} {K : List Value → Prop}, tupK P ts K → ∃ vs, K vs
  | [], _, h => ⟨[], h⟩
  | _ :: _, _, h => let ⟨_, hv⟩ := valK_spec h; let ⟨_, hvs⟩ := tupK_spec hv; ⟨_, hvs⟩

theorem resVC_spec {t : TypeId} {v : Value} {K : Value → Prop} (h : resVC P t v K) : K v := by
  unfold resVC at h
  split at h
  · obtain ⟨vs, rfl, hk⟩ := tupK_spec h; exact hk
  · obtain ⟨v', rfl, hk⟩ := valK_spec h; exact hk

/-! ### one operation -/

theorem callee_run {o : Oper} {c : Call} {n : FuncId} {args : List Value} (ho : o.op = .call c) (hc : callee f c = some (n, args)) (hb : bodied P n = true) :
    (execOp (ev f) o).run P w = .ok (.enter n args.toArray) w := by
  obtain ⟨cal, as, tys⟩ := c
  unfold callee at hc
  split at hc
  · rename_i x hx
    simp only at hx
    subst hx
    split at hc
    · rename_i m first captured hf
      simp only [Option.some.injEq, Prod.mk.injEq] at hc
      obtain ⟨rfl, rfl⟩ := hc
      unfold bodied at hb
      cases hfn : P.funcs[m]? with
      | none => simp [hfn] at hb
      | some fn =>
        simp only [hfn, Bool.and_eq_true, Bool.not_eq_true'] at hb
        obtain ⟨hb1, hb2⟩ := hb
        have hbn : fn.body.isNone = false := by cases h : fn.body <;> simp_all
        have e : first ++ as.map (ev f) ++ captured = (first.toList ++ (as.toList.map (ev f) ++ captured.toList)).toArray := by
          apply Array.ext'; simp
        simp only [execOp, ho, resolve, hf, Deferred.ofValue, invoke, callFunc, Sem.run_bind, Sem.run_pure, Result.andThen_ok, run_program, hfn, hb2, hbn, Bool.false_eq_true, if_false, e]
    · cases hc
  · cases hc

theorem inv_run {o : Oper} {c : Call} {x : Operand} {m : String} {t : TypeId} {u : Value} {n : FuncId} (ho : o.op = .call c) (hc : c.callee = .invoke x m) (he : ev f x = .iface t u) (hm : methodAt P t m = some n) (hb : bodied P n = true) :
    (execOp (ev f) o).run P w = .ok (.enter n (List.toArray (u :: c.args.toList.map (ev f)))) w := by
  unfold methodAt at hm
  split at hm
  · cases hm
  · rename_i ti hi
    split at hm
    · rename_i y hy
      obtain ⟨hp, hm⟩ : y.path.isEmpty = true ∧ (match y.func, P.underlying t with | some (n, true), some (.pointer _) => some n | _, _ => none) = some n := by
        cases h : y.path.isEmpty <;> simp only [h, cond_true, cond_false] at hm
        · cases hm
        · exact ⟨rfl, hm⟩
      split at hm
      · rename_i n' d e hf hu
        cases hm
        have hpl : y.path.toList = [] := by simpa using hp
        unfold bodied at hb
        cases hfn : P.funcs[n]? with
        | none => simp [hfn] at hb
        | some fn =>
          simp only [hfn, Bool.and_eq_true, Bool.not_eq_true'] at hb
          obtain ⟨hb1, hb2⟩ := hb
          have hbn : fn.body.isNone = false := by cases h : fn.body <;> simp_all
          have hk : P.types.size + Made.depth = (P.types.size + 99) + 1 := rfl
          have hmeth : (method (P.types.size + Made.depth) t u m).run P w = .ok (n, u) w := by
            rw [hk, method]
            simp only [Sem.run_bind, typeInfo, run_program, Result.andThen_ok, hi, Sem.run_pure, hy, hpl, follow, hf, receiverAt, run_underlying hu, Place.get]
          obtain ⟨as, has⟩ : ∃ as, as = c.args.map (ev f) := ⟨_, rfl⟩
          have hlist : as.toList = c.args.toList.map (ev f) := by rw [has, Array.toList_map]
          have e1 : (#[Value.iface t u] ++ as)[0]? = some (.iface t u) := by rw [Array.getElem?_append]; simp
          have e2 : #[u] ++ (#[Value.iface t u] ++ as).extract 1 (#[Value.iface t u] ++ as).size = List.toArray (u :: c.args.toList.map (ev f)) := by
            apply Array.ext'
            rw [← hlist]
            simp [Array.toList_append, List.extract]
          simp only [execOp, ho, resolve, hc, he, invoke, callMethod, callFunc, Sem.run_bind, Sem.run_pure, Result.andThen_ok, run_program, ← has, hmeth, e1, e2, hfn, hb2, hbn, Bool.false_eq_true, if_false]
      · cases hm
    · cases hm

theorem opVC_wp {o : Oper} {K : Value → H → Prop} {a : Act} {next : Act → World → Prop} {Q : Exit → Act → World → Prop} (he : a.eval = ev f) (hw : Holds w h) (hr : opVC P false f h o K)
    (hn : ∀ v w' h', Holds w' h' → Fr w w' h h' → K v h' → next (a.put o.dst v) w') : o.wp P a w next Q := by
  unfold Oper.wp
  rw [he]
  have rd : ∀ {K' : Value → Prop}, readVC P f h o.op K' → (∀ v, K' v → next (a.put o.dst v) w) → o.upon P a next Q ((execOp (ev f) o).run P w) := by
    intro K' hr' hk
    obtain ⟨v, h1, h2⟩ := readVC_sound hr'
    have h1 := h1 w hw
    unfold Val at h1
    rw [h1, Oper.upon_value]
    exact hk v h2
  have wr : WVal P f o w h K → o.upon P a next Q ((execOp (ev f) o).run P w) := by
    rintro ⟨n, v, w', h', h1, h2, h3, h4, h5⟩
    rw [h1]
    rcases h2 with rfl | ⟨rfl, rfl⟩
    · rw [Oper.upon_value]; exact hn v w' h' h3 h4 h5
    · rw [Oper.upon_skip]; exact hn _ w' h' h3 h4 h5
  unfold opVC at hr
  split at hr
  · rename_i c ho
    split at hr
    · rename_i hc
      simp only [cond_false] at hr
      have hr' := hr
      simp only [writeVC, hc] at hr'
      split at hr'
      · rename_i t t' s x ht hx
        obtain ⟨he1, hr2⟩ := cond_some hr'
        have := Nat.eq_of_beq_eq_true he1
        subst this
        obtain ⟨cal, as, tys⟩ := c
        simp only at hc ht hx
        subst hc
        have e1 : tys = #[t, t] := by apply Array.ext'; simpa using ht
        have e2 : as = #[s, x] := by apply Array.ext'; simpa using hx
        subst e1
        exact wr (appVC_sound ho e2 hw hr2)
      · exact hr'.elim
    · rename_i hc
      simp only [cond_false] at hr
      have hr' := hr
      simp only [writeVC, hc] at hr'
      split at hr'
      · rename_i t ts s ss ht hs
        obtain ⟨cal, as, tys⟩ := c
        simp only at hc ht hs
        subst hc
        exact wr (clearVC_sound ho ht hs hw hr')
      · exact hr'.elim
    · exact rd (K' := fun v => K v h) (by rw [ho]; exact hr) (fun v hv => hn v w h hw (Fr.refl _ _) hv)
    · rename_i x m hc
      simp only [cond_false] at hr
      obtain ⟨t, u, n, he1, hm, hb, hr⟩ := hr
      rw [inv_run ho hc he1 hm hb, Oper.upon_enter]
      refine (hr w hw).mono fun e w' ⟨v, h', he', hh, hf, hp⟩ => ?_
      subst he'
      exact hn v w' h' hh hf (resVC_spec hp)
    · split at hr
      · rename_i n args hcal
        obtain ⟨hb, hr⟩ := cond_some hr
        simp only [cond_false] at hr
        rw [callee_run ho hcal hb, Oper.upon_enter]
        refine (hr w hw).mono fun e w' ⟨v, h', he', hh, hf, hp⟩ => ?_
        subst he'
        exact hn v w' h' hh hf (resVC_spec hp)
      · exact hr.elim
  · rename_i hne
    cases hwr : isWrite o.op <;> simp only [hwr, cond_true, cond_false] at hr
    · exact rd (K' := fun v => K v h) hr (fun v hv => hn v w h hw (Fr.refl _ _) hv)
    · exact wr (writeVC_sound hw hr (fun c hc => hne c hc))

theorem opVC_still {o : Oper} {K : Value → H → Prop} {a : Act} {next : Act → Prop} (he : a.eval = ev f) (hw : Holds w h) (hr : opVC P true f h o K)
    (hn : ∀ v, K v h → next (a.put o.dst v)) : o.still P a w next := by
  unfold Oper.still
  rw [he]
  have rd : ∀ {K' : Value → Prop}, readVC P f h o.op K' → (∀ v, K' v → next (a.put o.dst v)) → o.stillUpon P a w next ((execOp (ev f) o).run P w) := by
    intro K' hr' hk
    obtain ⟨v, h1, h2⟩ := readVC_sound hr'
    have h1 := h1 w hw
    unfold Val at h1
    rw [h1, Oper.stillUpon_value]
    exact hk v h2
  unfold opVC at hr
  split at hr
  · rename_i c ho
    split at hr
    · exact hr.elim
    · exact hr.elim
    · exact rd (K' := fun v => K v h) (by rw [ho]; exact hr) hn
    · exact hr.elim
    · split at hr
      · rename_i n args hcal
        obtain ⟨hb, hr⟩ := cond_some hr
        simp only [cond_true] at hr
        obtain ⟨v, hp, hres⟩ := hr
        rw [callee_run ho hcal hb]
        exact ⟨rfl, v, hp w, hn v (resVC_spec hres)⟩
      · exact hr.elim
  · cases hwr : isWrite o.op <;> simp only [hwr, cond_true, cond_false] at hr
    · exact rd (K' := fun v => K v h) hr hn

end
end Go.Eng
