import Derived.RangeFuncBox
import Derived.RangeFuncLeaves
import Derived.Shelf.Abstract
import Derived.WalkKit
import Derived.OwnWalkIn
import Derived.TacticsInMore
import Derived.LoopNIn
import Derived.LoopIn
import Derived.Maps.AppendAt
import Derived.Test.YtkokdeenniejjaaDoorProg
namespace Go.Proofs.YtkokdeenniejjaaDoor
open Go Go.Proofs Go.RowKit Go.Shelf
/-- what has come when k rounds are over -/
def pUpto (f : Nat → Int) (k : Nat) : List Int := (List.range k).map f
theorem pUpto_succ (f : Nat → Int) (k : Nat) : pUpto f (k + 1) = pUpto f k ++ [f k] := by simp [pUpto, List.range_succ]
theorem pUpto_length (f : Nat → Int) (k : Nat) : (pUpto f k).length = k := by simp [pUpto]
/-- a cell of the memory -/
structure PAt (W : World) (b j : Nat) (x y z : Int) (t : Bool) : Prop where
  a0 : W.cell? ⟨b, j * 4, none⟩ = some (.int .i64 x)
  a1 : W.cell? ⟨b, j * 4 + 1, none⟩ = some (.int .i64 y)
  a2 : W.cell? ⟨b, j * 4 + 2, none⟩ = some (.int .i64 z)
  a3 : W.cell? ⟨b, j * 4 + 3, none⟩ = some (.bool t)
theorem PAt.below {n₀ : Nat} {A B : World} (h : Below n₀ A B) {b j : Nat} {x y z : Int} {t : Bool} (hb : b < n₀) (p : PAt A b j x y z t) : PAt B b j x y z t :=
  ⟨(h.cell (p := ⟨b, j * 4, none⟩) hb).trans p.a0, (h.cell (p := ⟨b, j * 4 + 1, none⟩) hb).trans p.a1, (h.cell (p := ⟨b, j * 4 + 2, none⟩) hb).trans p.a2, (h.cell (p := ⟨b, j * 4 + 3, none⟩) hb).trans p.a3⟩
set_option maxRecDepth 100000 in
set_option maxHeartbeats 2000000 in
theorem cells1_in (F : Fence) (n : Nat) (h36 : F.fn 47) (hro : F.round = none) (hn : 1 ≤ n) (l Bm n₀ pm b len cap : Nat) (zs ys xs : Nat → Int) (ts : Nat → Bool) (hreach : len ≤ 1000) (hb : b < n₀) (hpm : pm < n₀) (J Jx : List Int → World → Prop)
    (hY : ∀ pre x W, J pre W → pre.length < len → YieldAt F (n - 1) Tryd.prog l #[.int .i64 x] W fun e W' =>
      (e = .returned (.bool true) ∧ J (pre ++ [x]) W' ∧ Below n₀ W W') ∨ (e = .returned (.bool false) ∧ Jx (pre ++ [x]) W'))
    (W : World) (hJ : AbidesFrom W.heap.size J) (hn₀ : n₀ ≤ W.heap.size) (hBm : W.cell? ⟨Bm, 0, none⟩ = some (.pointer (some ⟨pm, 0, none⟩))) (hm : W.cell? ⟨pm, 0, none⟩ = some (.slice (some ⟨b, 0, none⟩) len cap)) (hc : ∀ j, j < len → PAt W b j (zs j) (ys j) (xs j) (ts j)) (h0 : J [] W) :
    CallsIn F n Tryd.prog 47 #[.func (.yield l) #[] #[], .pointer (some ⟨Bm, 0, none⟩)] W fun e W' => (∃ v, e = .returned v) ∧
      ((∃ ys, ys = pUpto zs len ∧ J ys W') ∨ (∃ pre, True ∧ Jx pre W')) := by
  refine callsIn_of_wp Tryd.func47 rfl h36 ?_ hro
  simp only [Tryd.ntmps47, List.size_toArray, List.length_cons, List.length_nil, Nat.reduceAdd, Nat.reduceSub, Array.replicate_succ, Array.replicate_zero, List.push_toArray, List.append_toArray, List.nil_append, List.cons_append]
  gi_wp2
  gi_loopw [10] (fun i wr => ∃ k : Nat, k ≤ len ∧ i = .int .i64 k ∧ J (pUpto zs k) wr ∧ Below n₀ W wr)
    (fun i _ => len - (intOf i).toNat)
  case atStart => exact ⟨0, Nat.zero_le _, rfl, h0, Below.refl _ _⟩
  case round =>
    obtain ⟨k, hk, rfl, hJs, hnx⟩ := hrel
    by_cases hlt : k < len
    · obtain ⟨c0, c1, c2, c3⟩ := (hc k hlt).below hnx hb
      have hJ2 : J (pUpto zs k) (wr.alloc (.cells #[.int .i64 (zs k), .int .i64 (ys k), .int .i64 (xs k), .bool (ts k)] 78)) := hJ _ wr _ none hJs (World.grownBy_alloc wr _ none) (fun r e => by cases e)
      obtain ⟨fn, tmps, assign, body, hy, hR⟩ := hY _ (zs k) _ hJ2 (by rw [pUpto_length]; exact hlt)
      gi_wp2
      refine hR.mono ?_
      rintro e W3 (⟨rfl, hJ3, hk3⟩ | ⟨rfl, hJx3⟩)
      · gi_wp2
        go_roundw
        case rel => exact ⟨k + 1, by omega, by simp, by rw [pUpto_succ]; exact hJ3, (hnx.alloc (Nat.le_trans hn₀ hnx.size) _).trans hk3⟩
        case measure => simp [intOf]; omega
      · gi_wp2
        refine bodyPost_ret (results_none rfl _ _ _) rfl ?_
        exact ⟨⟨_, rfl⟩, .inr ⟨_, trivial, hJx3⟩⟩
    · obtain rfl : k = len := by omega
      gi_wp2
      go_end0
      exact ⟨⟨_, rfl⟩, .inl ⟨_, rfl, hJs⟩⟩
theorem cells_stops (F : Fence) (n : Nat) (h36 : F.fn 47) (hro : F.round = none) (hn : 1 ≤ n) (Bm n₀ pm b len cap : Nat) (zs ys xs : Nat → Int) (ts : Nat → Bool) (hreach : len ≤ 1000) (hb : b < n₀) (hpm : pm < n₀) (w : World) (hBm' : Bm < w.heap.size) (hn₀ : n₀ ≤ w.heap.size)
    (hBm : w.cell? ⟨Bm, 0, none⟩ = some (.pointer (some ⟨pm, 0, none⟩))) (hm : w.cell? ⟨pm, 0, none⟩ = some (.slice (some ⟨b, 0, none⟩) len cap)) (hc : ∀ j, j < len → PAt w b j (zs j) (ys j) (xs j) (ts j)) :
    SeqStopsK F n Tryd.prog 47 #[.pointer (some ⟨Bm, 0, none⟩)] (fun x : Int => #[Value.int .i64 x]) (Below n₀) (fun ys => ys = pUpto zs len) (fun _ => True) len w := fun l J Jx W hW hJ _ hY h0 =>
  cells1_in F n h36 hro hn l Bm n₀ pm b len cap zs ys xs ts hreach hb hpm J Jx hY W hJ (Nat.le_trans hn₀ hW.size) ((hW.cell (p := ⟨Bm, 0, none⟩) hBm').trans hBm) ((hW.cell (p := ⟨pm, 0, none⟩) (show pm < w.heap.size by omega)).trans hm) (fun j hj => (hc j hj).below hW (by omega)) h0
theorem pk_info : (Tryd.prog.info? 3).map (fun i => (i.zero, i.size, i.bytes)) = some (some (.int .i64 0), 1, 8) := by kernel_rfl
set_option maxRecDepth 100000 in
set_option maxHeartbeats 2000000 in
/-- what is given by an iterator that reads memory, appended to nothing -/
theorem append_in (F : Fence) (n : Nat) (h47 : F.fn 56) (hro : F.round = none) (hn : 2 ≤ n) (gf : Nat) (lb : Array Value) (hFg : F.fn gf) (eg : ∀ args w, (callFunc gf args).run Tryd.prog w = .ok (.enter gf args) w) (zs : List Int) (hlen : zs.length ≤ 1000) (w : World)
    (hseq : SeqStopsK F (n - 1) Tryd.prog gf lb (fun x : Int => #[Value.int .i64 x]) (Below w.heap.size) (fun ys => ys = zs) (fun _ => True) zs.length w) :
    CallsIn F n Tryd.prog 56 #[.slice none 0 0, .func (.func gf) #[] lb] w fun e W' => ∃ v, e = .returned v ∧ W'.ownsRow w.heap.size 3 1 v zs.length (zs.map (Value.int .i64)) ∧ (v = .slice none 0 0 ↔ zs = []) ∧ Below w.heap.size w W' := by
  have h1 : 1 ≤ n := by omega
  have hmax : (1000 : Nat) ≤ maxLen := by decide
  obtain ⟨i0, hi, hz0, hz1, hz2⟩ := info_parts pk_info
  refine callsIn_of_wp_marks Tryd.func56 rfl h47 ?_ hro
  simp only [Tryd.ntmps56, List.size_toArray, List.length_cons, List.length_nil, Nat.reduceAdd, Nat.reduceSub, Array.replicate_succ, Array.replicate_zero, List.push_toArray, List.append_toArray, List.nil_append, List.cons_append]
  gi_wp2
  have bO := Boxed.new w 22 (.slice none 0 0)
  have hB0 : Below w.heap.size w (w.alloc (.cells #[.slice none 0 0] 22)) := (Below.refl _ w).alloc (Nat.le_refl _) _
  refine wpIn_rangeFunc_ownG hro h1 (gf := gf) (lb := lb) rfl hFg eg hseq belowK_t (belowK_b (by simp)) hB0 (fun _ => rfl)
    (fun pre W => (∃ v, Boxed W w.heap.size 22 v ∧ W.ownsRow w.heap.size 3 1 v pre.length (pre.map (Value.int .i64)) ∧ (v = .slice none 0 0 ↔ pre = [])) ∧ Below w.heap.size w W)
    (fun _ _ _ => False)
    (OwnFrom.and (Own.from (holdsRow_own w.heap.size w.heap.size 22 3 1 (fun pre => pre.length) (fun pre => pre.map (Value.int .i64)) (fun pre v => v = .slice none 0 0 ↔ pre = [])) _) (ownFrom_below (Nat.le_refl _) (by simp)))
    (fun _ _ _ _ _ hs _ _ => hs)
    ⟨⟨_, bO, World.ownsRow_nil _ _ _ _, by simp⟩, hB0⟩
    (fun x => { tmps := #[.slice none 0 0, .func (.func gf) #[] lb, .pointer (some ⟨w.heap.size, 0, none⟩), undef, .slice none 0 0, .int .i64 x, .func (.func gf) #[] lb, .int .i64 x, undef, undef, undef, undef, undef], defers := [] }) ?assign ?body ?done ?stop
  case assign =>
    intro l x W K hK
    gi_wp2_with (rw [Oper.semAt_eq _ _ _ (fun c h => by cases h)]; go_simp; try go_bits)
    exact hK
  case body =>
    rintro l pre x W ⟨⟨v, hv, hrow, hnil⟩, hB⟩ hlt
    have hc := hv.cell
    gi_wp2_with (first | (gi_at_builtin; refine wpListIn_append_own _ rfl _ _ 22 rfl w.heap.size 3 i0 (.int .i64 0) 1 8 Tryd.underlying22 hi hz0 hz1 hz2 rfl (by decide) _ _ _ rfl (hrow.alloc _) ⟨W.heap.size, 0, none⟩ 1 1 [.int .i64 x] rfl rfl (cell_one_new _ _ _) (by simp [Value.oneCell']) (by omega) (by omega) (by have := hB.size; simp; omega) ?_; intro v' w1 hown' hgrow _; obtain ⟨g', cap', rfl⟩ := ownsRow_succ hown'; obtain ⟨hv1, hv2, hr2, hk2, hb2⟩ := hv.appended (by decide) hrow hB.size (Nat.le_refl _) hown' hgrow; have hc1 := hv1.cell; have hf1 := hv1.frozen) | (rw [Oper.semAt_eq _ _ _ (fun c h => by cases h)]; go_simp; try go_bits))
    exact ⟨hk2.from _, hb2, ⟨_, hv2, by simpa using hr2, by simp⟩, hB.trans hb2⟩
  case done =>
    rintro D ys W hD rfl ⟨⟨v, hv, hrow, hnil⟩, hB⟩ hK
    have hc := hv.cell
    gi_wp2
    refine ⟨by simp, .inl ⟨_, _, rfl, run_takeDeferred hK, ?_⟩⟩
    exact ⟨_, results_tmp rfl _ _ _, v, rfl, ownsRow_putObj hrow _ hK rfl, hnil, hB.trans (belowK_b (w := w) (Nat.le_refl _) W D _ _ (by simp at hD; omega) hK rfl rfl)⟩
  case stop =>
    rintro D c pre W _ _ h _
    exact h.elim
set_option maxHeartbeats 1000000 in
theorem collect_in (F : Fence) (n : Nat) (h35 : F.fn 46) (h47 : F.fn 56) (hro : F.round = none) (hn : 3 ≤ n) (gf : Nat) (lb : Array Value) (hFg : F.fn gf) (eg : ∀ args w, (callFunc gf args).run Tryd.prog w = .ok (.enter gf args) w) (zs : List Int) (hlen : zs.length ≤ 1000) (w : World)
    (hseq : SeqStopsK F (n - 1 - 1) Tryd.prog gf lb (fun x : Int => #[Value.int .i64 x]) (Below w.heap.size) (fun ys => ys = zs) (fun _ => True) zs.length w) :
    CallsIn F n Tryd.prog 46 #[.func (.func gf) #[] lb] w fun e W' => ∃ v, e = .returned v ∧ W'.ownsRow w.heap.size 3 1 v zs.length (zs.map (Value.int .i64)) ∧ (v = .slice none 0 0 ↔ zs = []) ∧ Below w.heap.size w W' := by
  have h1 : 1 ≤ n := by omega
  refine callsIn_of_wp Tryd.func46 rfl h35 ?_ hro
  simp only [Tryd.ntmps46, List.size_toArray, List.length_cons, List.length_nil, Nat.reduceAdd, Nat.reduceSub, Array.replicate_succ, Array.replicate_zero, List.push_toArray, List.append_toArray, List.nil_append, List.cons_append]
  gi_wp2_with (gi_at_call 56; refine (append_in F (n - 1) h47 hro (by omega) gf lb hFg eg zs hlen _ hseq).mono ?_; rintro e w' ⟨v, rfl, hrow, hnil, hb⟩)
  go_ret
  exact ⟨v, rfl, hrow, hnil, hb⟩
set_option maxHeartbeats 1000000 in
theorem cells_in (F : Fence) (n : Nat) (h13 : F.fn 25) (h35 : F.fn 46) (h36 : F.fn 47) (h47 : F.fn 56) (hro : F.round = none) (hn : 5 ≤ n) (pm b len cap : Nat) (zs ys xs : Nat → Int) (ts : Nat → Bool) (hreach : len ≤ 1000) (w : World) (hb : b < w.heap.size) (hpm : pm < w.heap.size)
    (hm : w.cell? ⟨pm, 0, none⟩ = some (.slice (some ⟨b, 0, none⟩) len cap)) (hc : ∀ j, j < len → PAt w b j (zs j) (ys j) (xs j) (ts j)) :
    CallsIn F n Tryd.prog 25 #[.pointer (some ⟨pm, 0, none⟩)] w fun e W' => ∃ v, e = .returned v ∧ W'.ownsRow w.heap.size 3 1 v len ((pUpto zs len).map (Value.int .i64)) ∧ (v = .slice none 0 0 ↔ pUpto zs len = []) ∧ Below w.heap.size w W' := by
  have h1 : 1 ≤ n := by omega
  have bM := Boxed.new w 39 (.pointer (some ⟨pm, 0, none⟩))
  have hB0 : Below w.heap.size w (w.alloc (.cells #[.pointer (some ⟨pm, 0, none⟩)] 39)) := (Below.refl _ w).alloc (Nat.le_refl _) _
  have hseq := cells_stops F (n - 1 - 1 - 1) h36 hro (by omega) w.heap.size (w.heap.size + 1) pm b len cap zs ys xs ts hreach (by omega) (by omega) (w.alloc (.cells #[.pointer (some ⟨pm, 0, none⟩)] 39)) (by simp) (by simp) bM.cell ((hB0.cell (p := ⟨pm, 0, none⟩) hpm).trans hm) (fun j hj => (hc j hj).below hB0 hb)
  have hl : (pUpto zs len).length = len := pUpto_length zs len
  refine callsIn_of_wp Tryd.func25 rfl h13 ?_ hro
  simp only [Tryd.ntmps25, List.size_toArray, List.length_cons, List.length_nil, Nat.reduceAdd, Nat.reduceSub, Array.replicate_succ, Array.replicate_zero, List.push_toArray, List.append_toArray, List.nil_append, List.cons_append]
  gi_wp2_with (gi_at_call 46; refine (collect_in F (n - 1) h35 h47 hro (by omega) 47 #[.pointer (some ⟨w.heap.size, 0, none⟩)] h36 (enters_of Tryd.func47 (by kernel_rfl) rfl) (pUpto zs len) (by omega) _ (by rw [hl]; simpa using hseq)).mono ?_; rintro e w' ⟨v, rfl, hrow, hnil, hb'⟩)
  go_ret
  rw [hl] at hrow
  refine ⟨v, rfl, ?_, hnil, hB0.trans (hb'.mono (by simp))⟩
  obtain ⟨r1, r2⟩ := hrow
  refine ⟨r1, ?_⟩
  rcases r2 with r2 | ⟨g, cap', cur, e1, e2, e3⟩
  · exact .inl r2
  · exact .inr ⟨g, cap', cur, e1, by simp at e2; omega, e3⟩
end Go.Proofs.YtkokdeenniejjaaDoor
