import Derived.Test.YtkokdeenniejjaaDoorRf
import Derived.Test.YtkokdeenniejjaaDoorPk
import Derived.Test.YtkokdeenniejjaaDoorEngK
namespace Go.Proofs.YtkokdeenniejjaaDoor
open Go.Eng
set_option maxRecDepth 20000
/-! ### hands, and words that are changed if they are as told -/
theorem within_i {n lo hi : Int} {h : H} {post : Value → H → Prop} (h1 : ¬ (lo ≤ n ∧ n ≤ hi) → post (.bool false) h) (h2 : lo ≤ n → n ≤ hi → post (.bool true) h) : SemCall Tryd.prog 36 (List.toArray [.int .i64 n, .int .i64 lo, .int .i64 hi]) h post := by
  refine within_c ?_
  by_cases h : lo ≤ n ∧ n ≤ hi
  · rw [decide_eq_true h]; exact h2 h.1 h.2
  · rw [decide_eq_false h]; exact h1 h
theorem in_i {n lo hi : Int} {h : H} {post : Value → H → Prop} (h1 : ¬ (lo ≤ n ∧ n ≤ hi) → post (.bool false) h) (h2 : lo ≤ n → n ≤ hi → post (.bool true) h) : SemCall Tryd.prog 7 (List.toArray [.int .i64 n, .int .i64 lo, .int .i64 hi]) h post := by
  refine in_c ?_
  by_cases h : lo ≤ n ∧ n ≤ hi
  · rw [decide_eq_true h]; exact h2 h.1 h.2
  · rw [decide_eq_false h]; exact h1 h
def rm {α : Type} (n : Nat) (f : Nat → α) : List α := (List.range n).map f
theorem rm_len {α : Type} (n : Nat) (f : Nat → α) : (rm n f).length = n := by simp [rm]
theorem rm_get {α : Type} {n k : Nat} (f : Nat → α) (h : k < n) : (rm n f)[k]? = some (f k) := by simp [rm, h]
theorem rm_succ {α : Type} (n : Nat) (f : Nat → α) : rm (n + 1) f = rm n f ++ [f n] := by simp [rm, List.range_succ]
def updN {α : Type} (f : Nat → α) (q : Nat) (v : α) : Nat → α := fun p => if p = q then v else f p
theorem updN_same {α : Type} (f : Nat → α) (q : Nat) (v : α) : updN f q v q = v := if_pos rfl
theorem updN_ne {α : Type} {f : Nat → α} {q p : Nat} {v : α} (h : p ≠ q) : updN f q v p = f p := if_neg h
theorem rm_set {α : Type} (n k : Nat) (f : Nat → α) (v : α) : (rm n f).set k v = rm n (updN f k v) := by
  refine List.ext_getElem? fun i => ?_
  by_cases hi : i < n
  · rw [rm_get _ hi]
    by_cases hk : k = i
    · subst hk; rw [List.getElem?_set_self (by rw [rm_len]; exact hi), updN_same]
    · rw [List.getElem?_set_ne hk, rm_get _ hi, updN_ne (Ne.symm hk)]
  · rw [List.getElem?_eq_none (by simp [rm_len]; omega), List.getElem?_eq_none (by simp [rm_len]; omega)]
theorem updN_cases {α : Type} {f : Nat → α} {q : Nat} {v : α} (p : Nat) : (p = q ∧ updN f q v p = v) ∨ (p ≠ q ∧ updN f q v p = f p) := by
  by_cases h : p = q
  · subst h; exact .inl ⟨rfl, updN_same _ _ _⟩
  · exact .inr ⟨h, updN_ne h⟩
theorem gI_rm {n k : Nat} {f : Nat → Int} (h : k < n) : gI (rm n f) k = f k := by unfold gI; rw [rm_get _ h]; rfl
theorem rm_spl {n o : Nat} {f : Nat → Int} {vs : List Int} (h : o + vs.length ≤ n) : splI (rm n f) o vs = rm n fun k => if o ≤ k ∧ k < o + vs.length then gI vs (k - o) else f k := by
  refine List.ext_getElem? fun k => ?_
  have hl : (splI (rm n f) o vs).length = n := by rw [splI_length (by rw [rm_len]; exact h), rm_len]
  by_cases hk : k < n
  · rw [rm_get _ hk]
    have e := gI_spl (m := rm n f) (vs := vs) (o := o) (by rw [rm_len]; exact h) k
    rw [gI_rm hk] at e
    unfold gI at e
    rw [List.getElem?_eq_getElem (by omega)] at e ⊢
    exact congrArg some e
  · rw [List.getElem?_eq_none (by omega), List.getElem?_eq_none (by rw [rm_len]; omega)]
theorem idxI {h : H} {s : SV} {xs : List Int} (r : RdSl h s (ints xs)) {i : Int} (h0 : 0 ≤ i) (h1 : i < (xs.length : Int)) {K : Int → Prop} (hK : K (gI xs i.toNat)) :
    ∃ b : Addr, s.a = some b ∧ 0 ≤ i ∧ i < ((s.len : Nat) : Int) ∧ ∃ x : Int, H.rd h (Addr.add (Addr.add b (i.toNat * 1)) 0) (Value.int .i64 x) ∧ K x := by
  have hl := r.len
  rw [ints_length] at hl
  refine r.idx h0 (by omega) fun x hx => ?_
  have : gI xs i.toNat = x := by unfold gI; rw [hx]; rfl
  rw [← this]; exact hK
theorem idx0 {h : H} {s : SV} {xs : List Int} (r : RdSl h s (ints xs)) (h1 : 0 < xs.length) {K : Int → Prop} (hK : K (gI xs 0)) :
    ∃ b : Addr, s.a = some b ∧ 0 ≤ (0 : Int) ∧ (0 : Int) < ((s.len : Nat) : Int) ∧ ∃ x : Int, H.rd h (Addr.add (Addr.add b ((0 : Int).toNat * 1)) 0) (Value.int .i64 x) ∧ K x := idxI r (by omega) (by omega) hK
theorem idx1 {h : H} {s : SV} {xs : List Int} (r : RdSl h s (ints xs)) (h1 : 1 < xs.length) {K : Int → Prop} (hK : K (gI xs 1)) :
    ∃ b : Addr, s.a = some b ∧ 0 ≤ (1 : Int) ∧ (1 : Int) < ((s.len : Nat) : Int) ∧ ∃ x : Int, H.rd h (Addr.add (Addr.add b ((1 : Int).toNat * 1)) 0) (Value.int .i64 x) ∧ K x := idxI r (by omega) (by omega) hK
theorem gI_of {m : List Int} {k : Nat} {x : Int} (h : m[k]? = some x) : gI m k = x := by unfold gI; rw [h]; rfl
theorem gI_ex {m : List Int} {k : Nat} (h : k < m.length) : m[k]? = some (gI m k) := by unfold gI; rw [List.getElem?_eq_getElem h]; rfl
/-! ### memory that lasts -/
structure PCell where
  a : Int
  s : Int
  x : Int
  f : Bool
def pcV (c : PCell) : List Value := [.int .i64 c.a, .int .i64 c.s, .int .i64 c.x, .bool c.f]
theorem pcV_len (c : PCell) : (pcV c).length = 4 := rfl
/-- the memory as it lies: a row of cells, and the slice of it -/
def MemAt (p n : Nat) (F : Nat → PCell) (L : List Ent) : Prop := ∃ b c, L = [⟨some b, (rm n F).flatMap pcV, c⟩, ⟨some p, [.slice (some (Addr.mk b 0 none)) n n], 1⟩]
theorem MemAt.congr {p n : Nat} {F G : Nat → PCell} {L : List Ent} (h : MemAt p n F L) (e : ∀ k, k < n → F k = G k) : MemAt p n G L := by
  obtain ⟨b, c, rfl⟩ := h
  have : rm n F = rm n G := List.map_congr_left fun k hk => e k (List.mem_range.1 hk)
  exact ⟨b, c, by rw [this]⟩
set_option maxHeartbeats 1000000 in
theorem pmem_cells_c {p n : Nat} {F : Nat → PCell} {L own : List Ent} {ro : Addr → Option Value} {post : Value → H → Prop} (hs : MemAt p n F L) (hL : ∀ e ∈ L, e ∈ own) (h0 : 0 < n) (hn : n ≤ 1000)
    (hk : ∀ (s' : SV) (e' : Ent), OwnsSl 1 s' e' (ints (rm n fun k => (F k).a)) → s'.len = n → post (.slice s'.a s'.len s'.cap) ⟨own ++ [e'], ro⟩) :
    SemCall Tryd.prog 25 (List.toArray [.pointer (some (Addr.mk p 0 none))]) ⟨own, ro⟩ post := by
  obtain ⟨b, c, rfl⟩ := hs
  intro w hw
  have r1 : ∀ j i v, j < n → (pcV (F j))[i]? = some v → w.cell? ⟨b, j * 4 + i, none⟩ = some v := fun j i v hj hv => rd_sound hw (rd_row pcV_len ⟨some b, (rm n F).flatMap pcV, c⟩ (hL _ (by simp)) rfl rfl (rm_get F hj) rfl hv)
  have r2 : w.cell? ⟨p, 0, none⟩ = some (.slice (some ⟨b, 0, none⟩) n n) := rd_sound hw (rdo ⟨some p, [.slice (some (Addr.mk b 0 none)) n n], 1⟩ (hL _ (by simp)) rfl rfl)
  have hb : b < w.heap.size := ids_lt hw (e := ⟨some b, (rm n F).flatMap pcV, c⟩) (hL _ (by simp)) rfl
  have hp : p < w.heap.size := ids_lt hw (e := ⟨some p, [.slice (some (Addr.mk b 0 none)) n n], 1⟩) (hL _ (by simp)) rfl
  refine (callsIn_wide (n := 5)).1 ((cells_in Fence.wide 5 trivial trivial trivial trivial rfl (by omega) p b n n (fun j => (F j).a) (fun j => (F j).s) (fun j => (F j).x) (fun j => (F j).f) hn w hb hp r2 (fun j hj => ⟨r1 j 0 _ hj rfl, r1 j 1 _ hj rfl, r1 j 2 _ hj rfl, r1 j 3 _ hj rfl⟩)).mono ?_)
  rintro e w' ⟨v, rfl, ⟨hlen, hrow⟩, _, hbel⟩
  rcases hrow with ⟨_, h⟩ | ⟨g, cap, cur, rfl, hg, hheap, hcap, hmax, hsz, htake⟩
  · omega
  have hw2 : Holds w ⟨own ++ ⟨none, [], 0⟩ :: [], ro⟩ := (Gh.phantom own [] ro 0).holds w (by simpa using hw)
  have hints : (pUpto (fun j => (F j).a) n).map (Value.int .i64) = ints (rm n fun k => (F k).a) := rfl
  rw [hints] at htake
  have hlen2 : (ints (rm n fun k => (F k).a)).length = n := by rw [ints_length, rm_len]
  obtain ⟨z1, z2⟩ := swap_holds (en' := ⟨some g, ints (rm n fun k => (F k).a), cap⟩) hw2 hbel.os hbel.tape hbel.output hbel.size (fun r hr _ => hbel.block r hr) (fun r hr => by
    cases hr
    exact ⟨cur, _, hheap, by simpa using hsz, by rw [← htake]; exact List.take_prefix _ _⟩) (fun b' hb' => by cases hb'; exact .inr hg)
  refine ⟨_, ⟨own ++ [⟨some g, ints (rm n fun k => (F k).a), cap⟩], ro⟩, rfl, z1, ?_, hk ⟨some ⟨g, 0, none⟩, n, cap⟩ _ (.inr ⟨g, 0, rfl, rfl, by rw [hlen2]; simp, by simp, hcap, hmax, by simp⟩) rfl⟩
  have g0 : Gh ⟨own, ro⟩ ⟨own ++ ⟨none, [], 0⟩ :: [], ro⟩ := by simpa using Gh.phantom own [] ro 0
  exact (g0.fr w).trans z2
end Go.Proofs.YtkokdeenniejjaaDoor
