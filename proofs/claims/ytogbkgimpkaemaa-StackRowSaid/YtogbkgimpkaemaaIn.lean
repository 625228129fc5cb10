import Derived.Shelf.Spec.SlicesInsertGrow
import Derived.Shelf.Spec.SlicesInsert
import Derived.Test.YtogbkgimpkaemaaC
namespace Go.Proofs.Ytogbkgimpkaemaa
open Go.Eng
set_option maxRecDepth 20000
def lays21_ren : Go.Shelf.Ren := ⟨fun | 21 => 67 | 27 => 68 | 28 => 69 | 35 => 70 | 39 => 71 | n => n, fun | 22 => 22 | 3 => 3 | 4 => 4 | 0 => 0 | n => n, fun | n => n⟩
theorem lays21 : Go.Proofs.Lays2.n21 Try.prog lays21_ren := {
  mixed := by kernel_rfl
  f21 := Try.func67.trans (congrArg some (by kernel_rfl))
  f27 := Try.func68.trans (congrArg some (by kernel_rfl))
  f28 := Try.func69.trans (congrArg some (by kernel_rfl))
  f35 := Try.func70.trans (congrArg some (by kernel_rfl))
  f39 := Try.func71.trans (congrArg some (by kernel_rfl))
  t0 := Try.underlying0
  a0 := Try.isAgg0
  z0 := Try.sizeOf0
  v0 := Try.zeroValue0
  t3 := Try.underlying3
  a3 := Try.isAgg3
  z3 := Try.sizeOf3
  v3 := Try.zeroValue3
  t4 := Try.underlying4
  a4 := Try.isAgg4
  z4 := Try.sizeOf4
  v4 := Try.zeroValue4
  t22 := Try.underlying22
  a22 := Try.isAgg22
  z22 := Try.sizeOf22
  v22 := Try.zeroValue22
  i3 := by kernel_rfl }
/-! ### slices.Insert at the front, one int -/
theorem setCells_row (b : Nat) : ∀ (vs : List Value) (o : Nat) (w : World) (arr : Array Value) (T : TypeId), w.heap[b]? = some (.cells arr T (0, 0)) → o + vs.length ≤ arr.size →
    ∃ arr' : Array Value, (w.setCells b o vs).heap[b]? = some (.cells arr' T (0, 0)) ∧ arr'.toList = spl arr.toList o vs ∧ arr'.size = arr.size ∧ (∀ r, r ≠ b → (w.setCells b o vs).heap[r]? = w.heap[r]?) ∧
      (w.setCells b o vs).os = w.os ∧ (w.setCells b o vs).tape = w.tape ∧ (w.setCells b o vs).output = w.output ∧ (w.setCells b o vs).heap.size = w.heap.size
  | [], o, w, arr, T, h, _ => ⟨arr, h, by simp [spl], rfl, fun _ _ => rfl, rfl, rfl, rfl, rfl⟩
  | v :: vs, o, w, arr, T, h, hl => by
    simp only [List.length_cons] at hl
    have h1 : (w.setCell ⟨b, o, none⟩ v).heap[b]? = some (.cells (arr.setIfInBounds o v) T (0, 0)) := by
      simp only [World.setCell, Array.getElem?_modify, h, if_true, Option.map_some, Option.isSome_none, Bool.false_eq_true, if_false]
    obtain ⟨arr', a1, a2, a3, a4, a5, a6, a7, a8⟩ := setCells_row b vs (o + 1) (w.setCell ⟨b, o, none⟩ v) _ T h1 (by simp; omega)
    refine ⟨arr', a1, ?_, by rw [a3]; simp, fun r hr => by rw [show (w.setCells b o (v :: vs)) = (w.setCell ⟨b, o, none⟩ v).setCells b (o + 1) vs from rfl, a4 r hr]; exact Go.RowKit.Below.heap_setCell _ _ _ _ hr, a5, a6, a7, by rw [show (w.setCells b o (v :: vs)) = (w.setCell ⟨b, o, none⟩ v).setCells b (o + 1) vs from rfl, a8]; simp [World.setCell]⟩
    rw [a2]
    simp only [spl, Array.toList_setIfInBounds, List.length_cons]
    rw [List.take_set, List.take_add_one]
    have hol : o < arr.toList.length := by simpa using (by omega : o < arr.size)
    rw [List.getElem?_eq_getElem hol]
    simp only [Option.toList_some]
    rw [List.set_append, if_neg (by simp; omega), List.drop_set_of_lt (by omega)]
    have e1 : o - (List.take o arr.toList).length = 0 := by simp; omega
    rw [e1]
    simp only [List.set_cons_zero, List.append_assoc, List.singleton_append, List.cons_append, List.nil_append]
    rw [show o + (vs.length + 1) = o + 1 + vs.length by omega]
theorem insert0_c {s : SV} {xs : List Int} {v : Int} {r9 : Nat} {own : List Ent} {ro : Addr → Option Value} {post : Value → H → Prop} (A : List Ent) (e : Ent) (C : List Ent) (hown : own = A ++ e :: C) (h9 : (⟨some r9, [.int .i64 v], 1⟩ : Ent) ∈ A ++ C) (ho : OwnsSl 1 s e (ints xs)) (hl : s.len ≤ 1000)
    (hk : ∀ (s' : SV) (e' : Ent), OwnsSl 1 s' e' (ints (v :: xs)) → post (.slice s'.a s'.len s'.cap) ⟨A ++ e' :: C, ro⟩) :
    SemCall Try.prog 67 (List.toArray [.slice s.a s.len s.cap, .int .i64 0, .slice (some (Addr.mk r9 0 none)) 1 1]) ⟨own, ro⟩ post := by
  subst hown
  intro w hw
  have h9' : (⟨some r9, [.int .i64 v], 1⟩ : Ent) ∈ A ++ e :: C := by
    simp only [List.mem_append, List.mem_cons] at h9 ⊢
    rcases h9 with h | h
    · exact .inl h
    · exact .inr (.inr h)
  obtain ⟨ar9, T9, g1, g2, g3⟩ := hw.ok _ h9' r9 rfl
  have hvs : ∀ (j : Nat) (u : Value), [Value.int .i64 v][j]? = some u → w.cell? ⟨r9, 0 + j, none⟩ = some u := fun j u hj => rd_sound hw ⟨rfl, .inl ⟨_, h9', rfl, by rw [Nat.zero_add]; exact hj⟩⟩
  have h1v : ∀ u ∈ [Value.int .i64 v], u.oneCell' = true := by intro u hu; simp at hu; subst hu; rfl
  have hcap := ho.cap_le
  have hxl := ho.sl_len
  rw [ints_length] at hxl
  have h1c : ∀ u ∈ ints xs, u.oneCell' = true := allOne_iff.1 (allOne_ints xs)
  -- a new row
  have newrow : ∀ (w' : World) (cells : List Value) (arr : Array Value) (c : Nat), w'.heap[w.heap.size]? = some (.cells arr 3 (0, 0)) → (∀ r, r < w.heap.size → w'.heap[r]? = w.heap[r]?) → w'.os = w.os → w'.tape = w.tape → w'.output = w.output → w.heap.size ≤ w'.heap.size →
      cells = ints (v :: xs) → cells <+: arr.toList → arr.size = c → s.len + 1 ≤ c → c ≤ maxLen →
      ∃ v1 h', Ending.returned (.slice (some ⟨w.heap.size, 0, none⟩) (s.len + 1) c) = .returned v1 ∧ Holds w' h' ∧ Fr w w' ⟨A ++ e :: C, ro⟩ h' ∧ post v1 h' := by
    intro w' cells arr c q1 q2 q3 q4 q5 q6 q7 q8 q9 q10 q11
    have hok : (⟨some w.heap.size, cells, c⟩ : Ent).ok w' := by
      intro r hr
      cases hr
      exact ⟨arr, _, q1, q9, q8⟩
    have hsw := swap_holds (en' := ⟨some w.heap.size, cells, c⟩) hw q3 q4 q5 q6 (fun r hr _ => q2 r hr) hok (fun b hb => .inr (Nat.le_of_eq (Option.some.inj hb)))
    refine ⟨_, _, rfl, hsw.1, hsw.2, hk ⟨some ⟨w.heap.size, 0, none⟩, s.len + 1, c⟩ ⟨some w.heap.size, cells, c⟩ ?_⟩
    refine .inr ⟨w.heap.size, 0, rfl, rfl, ?_, by simp, by simpa using q10, q11, by simp [q7]⟩
    rw [q7, ints_length]
    simp [hxl]
  have zsz : ∀ n, (Builtin.zeroCells (Value.int .i64 0).cells n).size = n := fun n => by rw [size_zeroCells]; show n * 1 = n; omega
  have endgrow : ∀ (base : Option Addr), s.a = base → s.len = 0 → s.cap < 1 → Calls Try.prog 67 (List.toArray [.slice s.a s.len s.cap, .int .i64 0, .slice (some (Addr.mk r9 0 none)) 1 1]) w fun e_1 w' => ∃ v1 h', e_1 = .returned v1 ∧ Holds w' h' ∧ Fr w w' ⟨A ++ e :: C, ro⟩ h' ∧ post v1 h' := by
    intro base hb h0 hc
    have hx0 : xs = [] := List.eq_nil_of_length_eq_zero (by omega)
    have := Go.Proofs.Any2.slices_Insert_int_end_grow lays21 base s.len s.cap r9 0 1 1 [] [.int .i64 v] w (by omega) hcap (by omega) (by omega) (by simp [h0]) rfl (fun _ => h0) (by simp) hvs h1v
    rw [h0] at this
    rw [hb, h0]
    refine this.mono ?_
    rintro e1 w' ⟨rfl, rfl⟩
    have gc := grownCap_ge w (0 + 1) s.cap 3
    rw [show (Value.slice (some ⟨w.heap.size, 0, none⟩) (0 + 1) (grownCap w (0 + 1) s.cap (lays21_ren.t 3))) = .slice (some ⟨w.heap.size, 0, none⟩) (s.len + 1) (grownCap w (0 + 1) s.cap (lays21_ren.t 3)) by rw [h0]]
    refine newrow _ [.int .i64 v] _ (grownCap w (0 + 1) s.cap 3) (heap_alloc_new w.drew _) (fun r hr => Go.RowKit.Below.heap_alloc w.drew _ r hr) rfl rfl rfl (by simp) (by rw [hx0]; rfl) ?_ ?_ (by omega) (grownCap_le_maxLen w _ _ _ (by unfold maxLen; omega))
    · simp only [List.nil_append, Array.toList_append]
      exact List.prefix_append _ _
    · rw [Array.size_append, zsz]
      show 1 + (grownCap w (0 + 1) s.cap 3 - (0 + 1)) = _
      omega
  rcases ho with ⟨h1, h2, h3, h4, h5, h6⟩ | ⟨b, off, h1, h2, h3, h4, h5, h6, h7⟩
  · exact endgrow none h1 h2 (by omega)
  · by_cases hn0 : s.len = 0
    · have hx0 : xs = [] := List.eq_nil_of_length_eq_zero (by omega)
      by_cases hc : s.cap < 1
      · exact endgrow _ h1 hn0 hc
      · obtain ⟨arr, T, k1, k2, k3⟩ := hw.ok e (by simp) b h2
        have := Go.Proofs.Any2.slices_Insert_int_end_room lays21 b off s.len s.cap r9 0 1 1 [.int .i64 v] w (by omega) (by omega) (by unfold maxLen at h6; omega) rfl (fun j hj => by
          simp only [World.cell?, k1]
          rw [Array.getElem?_eq_getElem (by omega)]; rfl) (fun j hj => by simp [World.frozen?, k1]) hvs h1v
        rw [hn0] at *
        rw [h1]
        refine this.mono ?_
        rintro e1 w' ⟨rfl, rfl⟩
        obtain ⟨arr', a1, a2, a3, a4, a5, a6, a7, a8⟩ := setCells_row b [.int .i64 v] (off + 0) w arr T k1 (by simp; omega)
        have hok : (⟨e.id, e.cells.take off ++ [.int .i64 v], e.cap⟩ : Ent).ok (w.setCells b (off + 0) [.int .i64 v]) := by
          intro r hr
          rw [h2] at hr
          cases hr
          refine ⟨arr', T, a1, by rw [a3]; exact k2, ?_⟩
          rw [a2]
          obtain ⟨tl, htl⟩ := k3
          simp only [spl, Nat.add_zero, List.length_cons, List.length_nil]
          rw [← htl, List.take_append_of_le_length (by omega)]
          rw [← List.append_assoc]
          exact List.prefix_append _ _
        have hsw := swap_holds (en' := ⟨e.id, e.cells.take off ++ [.int .i64 v], e.cap⟩) hw a5 a6 a7 (by rw [a8]; exact Nat.le_refl _) (fun r _ hne => a4 r (fun he => hne (by rw [he]; exact h2))) hok (fun b hb => .inl hb)
        refine ⟨_, _, rfl, hsw.1, hsw.2, hk ⟨some ⟨b, off, none⟩, 0 + 1, s.cap⟩ _ ?_⟩
        refine .inr ⟨b, off, rfl, h2, ?_, by simpa using h4, by dsimp only; omega, h6, ?_⟩
        · simp; omega
        · dsimp only
          rw [List.drop_append_of_le_length (by simp; omega), List.drop_of_length_le (by simp; omega), hx0]
          rfl
    · have hne : r9 ≠ b := by
        intro he
        have nd := hw.nd
        simp only [List.filterMap_append, List.nodup_append, List.mem_append, List.mem_filterMap, List.filterMap_cons, h2] at nd
        simp only [List.mem_append] at h9
        rcases h9 with h | h
        · exact nd.2.2 r9 ⟨_, h, rfl⟩ b (by simp) he
        · have := (List.nodup_cons.1 nd.2.1).1
          exact this (List.mem_filterMap.2 ⟨_, h, by rw [← he]⟩)
      obtain ⟨arr, T, k1, k2, k3⟩ := hw.ok e (by simp) b h2
      obtain ⟨tl, htl⟩ := k3
      have hcl : arr.toList.length = e.cap := by simp [k2]
      have hcs : ∀ (j : Nat) (u : Value), (ints xs)[j]? = some u → w.cell? ⟨b, off + j, none⟩ = some u := fun j u hj => rd_sound hw ⟨rfl, .inl ⟨e, by simp, h2, by rw [← h7, List.getElem?_drop] at hj; exact hj⟩⟩
      have a9 : ar9.size = 1 := g2
      by_cases hc : s.len + 1 ≤ s.cap
      · have := Go.Proofs.Any2.slices_Insert_int_shift lays21 b off s.len s.cap 0 r9 0 1 1 (ints xs) [.int .i64 v] w (by omega) (by omega) hc (by unfold maxLen at h6; omega) hne (by simp [hxl]) rfl hcs (fun j hj => by
          simp only [World.cell?, k1]
          rw [Array.getElem?_eq_getElem (by omega)]; rfl) (fun j hj => by simp [World.frozen?, k1]) hvs h1c h1v T9 T 1 arr.size (by simp [World.shape?, g1, a9]) (by simp [World.shape?, k1]) (by omega) (by simp [World.frozen?, g1]) (by simp [World.frozen?, g1])
        rw [h1]
        refine this.mono ?_
        rintro e1 w' ⟨rfl, rfl⟩
        obtain ⟨ar1, b1, b2, b3, b4, b5, b6, b7, b8⟩ := setCells_row b ((ints xs).drop 0) (off + (0 + 1)) w.drew arr T k1 (by simp; omega)
        obtain ⟨ar2, c1, c2, c3, c4, c5, c6, c7, c8⟩ := setCells_row b [.int .i64 v] (off + 0) _ ar1 T b1 (by simp; omega)
        have hok : (⟨e.id, e.cells.take off ++ ints (v :: xs), e.cap⟩ : Ent).ok ((w.drew.setCells b (off + (0 + 1)) ((ints xs).drop 0)).setCells b (off + 0) [.int .i64 v]) := by
          intro r hr
          rw [h2] at hr
          cases hr
          refine ⟨ar2, T, c1, by rw [c3, b3]; exact k2, ?_⟩
          rw [c2, b2, ← htl]
          simp only [spl, Nat.add_zero, Nat.zero_add, List.length_cons, List.length_nil, List.drop_zero, ints_length]
          rw [List.take_append_of_le_length (by simp; omega), List.take_take, Nat.min_eq_left (by omega), List.take_append_of_le_length (by omega), List.drop_append_of_le_length (by simp; omega), List.drop_of_length_le (by simp; omega)]
          simp only [List.nil_append, ints, List.map_cons, List.cons_append, List.append_assoc]
          exact ⟨_, by simp [intV]; rfl⟩
        have hsw := swap_holds (en' := ⟨e.id, e.cells.take off ++ ints (v :: xs), e.cap⟩) hw (c5.trans b5) (c6.trans b6) (c7.trans b7) (by rw [c8, b8]; exact Nat.le_refl _) (fun r _ hne => by
          have : r ≠ b := fun he => hne (by rw [he]; exact h2)
          rw [c4 r this, b4 r this]; rfl) hok (fun b hb => .inl hb)
        refine ⟨_, _, rfl, hsw.1, hsw.2, hk ⟨some ⟨b, off, none⟩, s.len + 1, s.cap⟩ _ ?_⟩
        refine .inr ⟨b, off, rfl, h2, ?_, by simpa using h4, hc, h6, ?_⟩
        · simp; omega
        · dsimp only
          rw [List.drop_append_of_le_length (by simp; omega), List.drop_of_length_le (by simp; omega)]
          rfl
      · have := Go.Proofs.Any2.slices_Insert_int_grow lays21 b off s.len s.cap 0 r9 0 1 1 (ints xs) [.int .i64 v] w (by omega) (by omega) hcap (by omega) (by omega) (by simp [hxl]) rfl hcs hvs h1c h1v
        rw [h1]
        refine this.mono ?_
        rintro e1 w' ⟨rfl, rfl⟩
        have gc := grownCap_ge w (s.len + 1) s.cap 3
        obtain ⟨G, hG⟩ : ∃ G, G = grownCap w (s.len + 1) s.cap 3 := ⟨_, rfl⟩
        have e0 : ∀ X : Array Value, ((w.alloc (.cells X 3)).drew).heap[w.heap.size]? = some (.cells X 3 (0, 0)) := fun X => heap_alloc_new w _
        obtain ⟨X, hX⟩ : ∃ X, X = ((ints xs).take 0).toArray ++ Builtin.zeroCells (Value.int .i64 0).cells (s.len + 1 - 0) ++ Builtin.zeroCells (Value.int .i64 0).cells (G - (s.len + 1)) := ⟨_, rfl⟩
        have hXs : X.size = G := by
          rw [hX, Array.size_append, Array.size_append, zsz, zsz]
          simp
          omega
        have e3 : lays21_ren.t 3 = 3 := rfl
        rw [e3, ← hG, ← hX]
        obtain ⟨ar1, b1, b2, b3, b4, b5, b6, b7, b8⟩ := setCells_row w.heap.size [.int .i64 v] 0 _ X 3 (e0 X) (by simp; omega)
        obtain ⟨ar2, c1, c2, c3, c4, c5, c6, c7, c8⟩ := setCells_row w.heap.size ((ints xs).drop 0) (0 + 1) ((w.alloc (.cells X 3)).drew.setCells w.heap.size 0 [.int .i64 v]).drew ar1 3 b1 (by simp; omega)
        refine newrow _ (ints (v :: xs)) ar2 G c1 (fun r hr => ?_) (c5.trans b5) (c6.trans b6) (c7.trans b7) ?_ rfl ?_ (by rw [c3, b3, hXs]) (by omega) (by rw [hG]; exact grownCap_le_maxLen w _ _ _ (by unfold maxLen; omega))
        · rw [c4 r (by omega)]
          exact (b4 r (by omega)).trans (Go.RowKit.Below.heap_alloc w _ r hr)
        · rw [c8]
          show _ ≤ ((w.alloc (.cells X 3)).drew.setCells w.heap.size 0 [.int .i64 v]).heap.size
          rw [b8]
          simp
        · rw [c2, b2]
          simp only [spl, List.take_zero, List.nil_append, List.length_cons, List.length_nil, Nat.zero_add, List.drop_zero, List.cons_append, List.take_succ_cons, ints, List.map_cons]
          exact ⟨_, rfl⟩
end Go.Proofs.Ytogbkgimpkaemaa
