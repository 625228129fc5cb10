import Derived.Lib.IndexLaws
import Derived.Lib.LastIndexByte
import Derived.Lib.SplitLaws
import Derived.Lib.IndexBytes
import Derived.Test.YtnppmcgmmdcpiaaGreatDoorKE
import Derived.Test.YtnppmcgmmdcpiaaGreatDoorT4
import Derived.WalkKit
import Derived.WideMake
import Derived.MapKept
import Derived.RangeFuncRecord
import Derived.Laws.Strings
import Derived.RangeFuncLeaves
namespace Go.Proofs.YtnppmcgmmdcpiaaGreatDoor
open Go.Eng
set_option maxRecDepth 20000
/-! ### cutting, and numbers in a row: the plain law -/
def consH (b : UInt8) : List (List UInt8) → List (List UInt8)
  | [] => [[b]]
  | x :: xs => (b :: x) :: xs
def cutB (c : UInt8) : List UInt8 → List (List UInt8)
  | [] => [[]]
  | b :: l => if b = c then [] :: cutB c l else consH b (cutB c l)
theorem cutB_ne (c : UInt8) : ∀ l, cutB c l ≠ []
  | [] => by simp [cutB]
  | b :: l => by
    unfold cutB
    split
    · simp
    · cases h : cutB c l <;> simp [consH]
theorem cutB_none {c : UInt8} : ∀ {l : List UInt8}, c ∉ l → cutB c l = [l]
  | [], _ => rfl
  | b :: l, h => by
    simp only [List.mem_cons, not_or] at h
    unfold cutB
    rw [if_neg (fun e => h.1 e.symm), cutB_none h.2]
    rfl
theorem cutB_app {c : UInt8} : ∀ {a r : List UInt8}, c ∉ a → cutB c (a ++ c :: r) = a :: cutB c r
  | [], r, _ => by simp [cutB]
  | b :: a, r, h => by
    simp only [List.mem_cons, not_or] at h
    rw [List.cons_append]
    rw [show cutB c (b :: (a ++ c :: r)) = if b = c then [] :: cutB c (a ++ c :: r) else consH b (cutB c (a ++ c :: r)) from rfl, if_neg (fun e => h.1 e.symm), cutB_app h.2]
    rfl
theorem idx_split {c : UInt8} {l : List UInt8} {o : Nat} (h : Lib.indexByte l c = o) : l = l.take o ++ c :: l.drop (o + 1) ∧ c ∉ l.take o ∧ o < l.length := by
  obtain ⟨h1, h2⟩ := Lib.indexByte_some h
  obtain ⟨h3, h4⟩ := List.getElem?_eq_some_iff.1 h1
  refine ⟨?_, ?_, h3⟩
  · rw [← h4, List.getElem_cons_drop, List.take_append_drop]
  · intro hm
    obtain ⟨k, hk, e⟩ := List.mem_iff_getElem.1 hm
    simp only [List.length_take] at hk
    rw [List.getElem_take] at e
    exact h2 k (by omega) (by rw [List.getElem?_eq_getElem (by omega), e])
theorem idx_none {c : UInt8} {l : List UInt8} (h : Lib.indexByte l c = -1) : c ∉ l := by
  intro hm
  obtain ⟨k, hk, e⟩ := List.mem_iff_getElem.1 hm
  exact Lib.indexByte_none h k (by rw [List.getElem?_eq_getElem hk, e])
theorem indexB_one (l : List UInt8) (c : UInt8) : Lib.indexB (bs l) (bs [c]) = Lib.indexByte l c := by
  rw [Lib.indexB, bs_data, bs_data, Lib.index_one]
theorem bs_ex (l : List UInt8) (k m : Nat) : (bs l).extract k m = bs ((l.drop k).take (m - k)) := by
  apply ByteArray.ext
  simp [bs, ByteArray.data_extract]
theorem splitB_cut (c : UInt8) : ∀ (n : Nat) (l : List UInt8), l.length = n → Lib.splitB (bs [c]) 0 (Lib.countB (bs l) (bs [c])) (bs l) = (cutB c l).map bs := by
  intro n
  induction n using Nat.strongRecOn with
  | _ n ih =>
    intro l hl
    have hge := Lib.indexByte_ge l c
    by_cases h : Lib.indexByte l c = -1
    · rw [Lib.splitB_miss _ _ _ _ (by rw [indexB_one, h]), cutB_none (idx_none h)]
      rfl
    · obtain ⟨o, ho⟩ : ∃ o : Nat, Lib.indexByte l c = o := ⟨(Lib.indexByte l c).toNat, by omega⟩
      obtain ⟨h1, h2, h3⟩ := idx_split ho
      have h1s : (bs [c]).size = 1 := rfl
      rw [Lib.countB_hit _ _ o (by rw [h1s]; exact Nat.le_refl _) (by rw [indexB_one, ho]), Nat.add_comm 1, Lib.splitB_hit _ _ _ _ o (by rw [indexB_one, ho]), h1s, Nat.add_zero, bs_size, bs_ex, bs_ex]
      rw [show (l.drop 0).take (o - 0) = l.take o by simp, show (l.drop (o + 1)).take (l.length - (o + 1)) = l.drop (o + 1) from List.take_of_length_le (by simp)]
      rw [ih (l.drop (o + 1)).length (by simp; omega) _ rfl]
      conv => rhs; rw [h1, cutB_app h2]
      rfl
/-- the last place of a byte among the first k -/
def lastB (l : List UInt8) (c : UInt8) : Nat → Option Nat
  | 0 => none
  | k + 1 => if l[k]? = some c then some k else lastB l c k
theorem lastB_lt {l : List UInt8} {c : UInt8} : ∀ {k j : Nat}, lastB l c k = some j → j < k ∧ l[j]? = some c
  | 0, j, h => nomatch h
  | k + 1, j, h => by
    unfold lastB at h
    split at h
    · rename_i hc
      cases h
      exact ⟨Nat.lt_succ_self _, hc⟩
    · have := lastB_lt h
      exact ⟨by omega, this.2⟩
def lastV (o : Option Nat) : Int := match o with | some k => k | none => -1
theorem lastIdx_eq (l : List UInt8) (c : UInt8) : ∀ k, k ≤ l.length → Lib.lastIdx (bs l) (c.toNat : Int) k = lastV (lastB l c k)
  | 0, _ => rfl
  | k + 1, hk => by
    have e : ((bs l).data[k]!) = l[k]'(by omega) := by
      simp only [bs]
      rw [getElem!_pos _ _ (by simp; omega)]
      simp
    unfold Lib.lastIdx lastB
    rw [e, List.getElem?_eq_getElem (by omega)]
    by_cases h : l[k]'(by omega) = c
    · rw [if_pos (by rw [h]), if_pos (by rw [h])]
      rfl
    · rw [if_neg (fun hh => h (UInt8.toNat_inj.1 (by omega))), if_neg (by simpa using h)]
      exact lastIdx_eq l c k (by omega)
/-- the number that a text is -/
def numV (l : List UInt8) : Option Nat := match Lib.parseUint10 0 l with | .ok u => if u ≤ 9223372036854775807 ∧ l = Lib.decDigits u then some u else none | _ => none
theorem numV_iff {l : List UInt8} {v : Nat} : numV l = some v ↔ isNum l v := by
  constructor
  · intro h
    unfold numV at h
    split at h
    · split at h
      · rename_i hh
        cases h
        exact hh
      · cases h
    · cases h
  · rintro ⟨h1, h2⟩
    unfold numV
    have := parse_dec v h1
    rw [← h2] at this
    rw [this]
    simp only []
    rw [if_pos ⟨h1, h2⟩]
theorem numV_none {l : List UInt8} (h : ¬ ∃ v, isNum l v) : numV l = none := by
  cases hn : numV l with
  | none => rfl
  | some v => exact absurd ⟨v, numV_iff.1 hn⟩ h
def nums : List (List UInt8) → Option (List Nat)
  | [] => some []
  | a :: r => match numV a with | none => none | some v => match nums r with | none => none | some vs => some (v :: vs)
theorem nums_snoc (a : List UInt8) : ∀ (l : List (List UInt8)), nums (l ++ [a]) = (match nums l with | none => none | some vs => match numV a with | none => none | some v => some (vs ++ [v]))
  | [] => by simp only [List.nil_append, nums]
  | b :: l => by
    simp only [List.cons_append, nums, nums_snoc a l]
    cases numV b with
    | none => rfl
    | some v =>
      cases nums l with
      | none => rfl
      | some vs => cases numV a <;> rfl
theorem nums_none {l : List (List UInt8)} {a : List UInt8} (ha : a ∈ l) (hn : numV a = none) : nums l = none := by
  induction l with
  | nil => cases ha
  | cons b l ih =>
    simp only [List.mem_cons] at ha
    unfold nums
    rcases ha with rfl | ha
    · rw [hn]
    · cases numV b with
      | none => rfl
      | some v => rw [ih ha]
theorem nums_len : ∀ {l : List (List UInt8)} {vs : List Nat}, nums l = some vs → vs.length = l.length
  | [], vs, h => by cases h; rfl
  | a :: l, vs, h => by
    unfold nums at h
    split at h
    · cases h
    · split at h
      · cases h
      · rename_i vs' hv
        cases h
        simp [nums_len hv]
theorem nums_le : ∀ {l : List (List UInt8)} {vs : List Nat}, nums l = some vs → ∀ v ∈ vs, v ≤ 9223372036854775807
  | [], vs, h => by cases h; simp
  | a :: l, vs, h => by
    unfold nums at h
    split at h
    · cases h
    · rename_i v hv
      split at h
      · cases h
      · rename_i vs' hv'
        cases h
        intro u hu
        simp only [List.mem_cons] at hu
        rcases hu with rfl | hu
        · exact (numV_iff.1 hv).1
        · exact nums_le hv' u hu
def btail (ws : List (List UInt8)) : Int ⊕ (List (List UInt8) × List Nat) := match nums ws.tail with | none => .inl 2 | some vs => .inr (ws, vs)
/-- a line, up to what it does -/
def bpre (l : List UInt8) : Int ⊕ (List (List UInt8) × List Nat) :=
  match lastB l 32 l.length with
  | none => .inl 2
  | some k => match numV (l.drop (k + 1)) with
    | none => .inl 2
    | some n => if n ≠ sumB (l.take k) then .inl 6 else btail (cutB 32 (l.take k))
/-- a line -/
noncomputable def bline (x : Bo) (l : List UInt8) : Bo × Int :=
  match bpre l with
  | .inl e => (x, e)
  | .inr (ws, vs) => if (ws.headD [] = [97] ∨ ws.headD [] = [98]) ∧ vs.length = 1 + x.b.free.length then
      (bput x (decide (ws.headD [] = [98])) ((vs.headD 0 : Nat) : Int) (vs.tail.map fun v : Nat => (v : Int)), bcode x (decide (ws.headD [] = [98])) ((vs.headD 0 : Nat) : Int) (vs.tail.map fun v : Nat => (v : Int)))
    else (x, 2)
theorem cutB_len (c : UInt8) : ∀ l, (cutB c l).length ≤ l.length + 1
  | [] => by simp [cutB]
  | b :: l => by
    have := cutB_len c l
    unfold cutB
    split
    · simp; omega
    · cases h : cutB c l with
      | nil => simp [consH]
      | cons x xs => rw [h] at this; simp [consH] at this ⊢; omega
theorem cutB_mem {c : UInt8} : ∀ {l x : List UInt8}, x ∈ cutB c l → x.length ≤ l.length
  | [], x, h => by simp [cutB] at h; simp [h]
  | b :: l, x, h => by
    unfold cutB at h
    split at h
    · simp only [List.mem_cons] at h
      rcases h with rfl | h
      · simp
      · have := cutB_mem h; simp; omega
    · cases hc : cutB c l with
      | nil => rw [hc] at h; simp [consH] at h; simp [h]
      | cons y ys =>
        rw [hc] at h
        simp only [consH, List.mem_cons] at h
        rcases h with rfl | h
        · have := cutB_mem (c := c) (l := l) (x := y) (by rw [hc]; simp)
          simp; omega
        · have := cutB_mem (c := c) (l := l) (x := x) (by rw [hc]; simp [h])
          simp; omega
end Go.Proofs.YtnppmcgmmdcpiaaGreatDoor
namespace Go.Proofs.YtnppmcgmmdcpiaaGreatDoor
open Go.Eng
set_option maxRecDepth 20000
/-! ### book.line, up to what it does -/
theorem calls_same {f : FuncId} {args : Array Value} {v : Value} {h : H} {post : Value → H → Prop} (H1 : ∀ w, Calls Tryz.prog f args w fun e w' => e = .returned v ∧ w' = w) (hk : post v h) : SemCall Tryz.prog f args h post :=
  fun w hw => (H1 w).mono (by rintro e w' ⟨rfl, rfl⟩; exact ⟨_, _, rfl, hw, Fr.refl _ _, hk⟩)
theorem lastidx_c {l : List UInt8} (hl : l.length ≤ 1000000) {h : H} {post : Value → H → Prop} (hk : post (.int .i64 (lastV (lastB l 32 l.length))) h) : SemCall Tryz.prog 53 (List.toArray [.string (bs l), .int .u8 32]) h post :=
  calls_same (v := .int .i64 (lastV (lastB l 32 l.length))) (fun w => by
    have := Any.strings_LastIndexByte slib_Lays_n149 (bs l) 32 (by rw [bs_size]; omega) w
    rw [Lib.lastIndexByte, bs_size, show (32 : Int) = ((32 : UInt8).toNat : Int) from rfl, lastIdx_eq l 32 _ (Nat.le_refl _)] at this
    exact this) hk
def HasMax (ro : Addr → Option Value) : Prop := ∃ m, ro ⟨1, 0, none⟩ = some (.int .i64 m)
theorem HasMax.up {ro ro' : Addr → Option Value} (h : HasMax ro) (m : ∀ a v, ro a = some v → ro' a = some v) : HasMax ro' := h.imp fun _ h => m _ _ h
theorem hi9 : (Tryz.prog.info? 9).map (fun i => (i.zero, i.size, i.bytes)) = some (some (.string ByteArray.empty), 1, 16) := by kernel_rfl
def strs (ws : List (List UInt8)) : List Value := ws.map fun w => .string (bs w)
theorem split_c {l : List UInt8} (hl : l.length ≤ 1000000) {own : List Ent} {ro : Addr → Option Value} {post : Value → H → Prop} (hM : HasMax ro)
    (hk : ∀ r, post (.slice (some (Addr.mk r 0 none)) (cutB 32 l).length (cutB 32 l).length) ⟨own ++ [⟨some r, strs (cutB 32 l), (cutB 32 l).length⟩], ro⟩) :
    SemCall Tryz.prog 56 (List.toArray [.string (bs l), .string (bs [32])]) ⟨own, ro⟩ post := by
  intro w hw
  obtain ⟨m, hm⟩ := hM
  have hm' := hw.ro _ _ hm
  have hc := splitB_cut 32 l.length l rfl
  have hlen := Lib.splitB_all (bs [32]) (Nat.le_refl _) 0 _ (bs l) rfl
  rw [hc, List.length_map] at hlen
  refine (Any.strings_Split slib_Lays_n146 hi9 (bs l) (bs [32]) m w (by rw [bs_size]; omega) hm' (Nat.le_refl _)).mono ?_
  rintro e w' ⟨rfl, rfl⟩
  rw [← hlen, hc]
  have e1 : ((cutB 32 l).map bs).map Value.string = strs (cutB 32 l) := by simp [strs]
  rw [e1]
  obtain ⟨h1, h2⟩ := new_holds hw (strs (cutB 32 l)) (strs (cutB 32 l)).toArray 9 ⟨some w.heap.size, strs (cutB 32 l), (cutB 32 l).length⟩ rfl rfl (by simp [strs]) (List.prefix_refl _)
  exact ⟨_, _, rfl, h1, h2, hk _⟩
theorem strs_get {ws : List (List UInt8)} {i : Nat} {w : List UInt8} (h : ws[i]? = some w) : (strs ws)[i]? = some (.string (bs w)) := by simp [strs, h]
theorem bs_drop' (l : List UInt8) (k : Nat) : (bs l).extract k (bs l).size = bs (l.drop k) := by rw [bs_size]; exact bs_drop l k
set_option maxHeartbeats 1000000 in
theorem line_pre {l : List UInt8} (hl : l.length ≤ 1000000) {pb : Option Addr} {own : List Ent} {ro : Addr → Option Value} {post : Value → H → Prop} {N : Option Addr → SV → SV → H → Prop} {T : Nat} (hN : HasNum ro) (hT : shE 4 T 20 ∈ own) (hTab : HasTab ro) (hM : HasMax ro)
    (hE : ∀ c, bpre l = .inl c → post (.iface 57 (.int .i64 c)) ⟨own, ro⟩)
    (hK : ∀ ws vs r sl el, bpre l = .inr (ws, vs) → ws ≠ [] → OwnsSl 1 sl el (ints (vs.map fun v : Nat => (v : Int))) → N pb ⟨some (Addr.mk r 0 none), ws.length, ws.length⟩ sl ⟨own ++ [⟨some r, strs ws, ws.length⟩, el], ro⟩) :
    p30_sem pb (bs l) N ⟨own, ro⟩ post := by
  unfold p30_sem
  cases hlb : lastB l 32 l.length with
  | none =>
    refine lastidx_c hl ⟨_, rfl, VIf_dec (fun hx => ret (hE 2 (by simp only [bpre, hlb]))) (fun hx => ?_)⟩
    rw [hlb] at hx
    exact absurd (show (-1 : Int) < 0 by omega) hx
  | some k =>
    obtain ⟨hkl, hkc⟩ := lastB_lt hlb
    refine lastidx_c hl ?_
    rw [hlb, show lastV (some k) = (k : Int) from rfl]
    refine ⟨(k : Int), rfl, VIf_dec (fun hx => by omega) (fun hx => ⟨⟨by omega, by omega⟩, by omega, by rw [bs_size]; omega, ?_⟩)⟩
    rw [show ((k : Int) + 1).toNat = k + 1 by omega, bs_drop', Int.toNat_natCast, bs_take l k (by omega)]
    refine number_c (by simp; omega) hN hT hTab (fun v hv => ⟨_, _, rfl, VIf_nb (fun hc => nomatch hc) (fun _ => ⟨by omega, by rw [bs_size]; omega, ?_⟩)⟩) (fun hno x => ⟨_, _, rfl, VIf_nb (fun _ => ret (hE 2 (by simp only [bpre, hlb, numV_none hno]))) (fun hc => nomatch hc)⟩)
    have hnv := numV_iff.2 hv
    refine sum_c (by rw [bs_size]; simp; omega) ⟨_, rfl, ?_⟩
    rw [bs_data]
    refine VIf_ne (fun hne => ret (hE 6 (by simp only [bpre, hlb, hnv]; rw [if_pos (by omega)]))) (fun heq => ⟨by omega, by rw [bs_size]; omega, ?_⟩)
    have hsum : ¬ v ≠ sumB (l.take k) := by omega
    refine split_c (l := l.take k) (by simp; omega) hM (fun r => ?_)
    have hne := cutB_ne 32 (l.take k)
    have hbp : bpre l = btail (cutB 32 (l.take k)) := by
      simp only [bpre, hlb, hnv]
      rw [if_neg hsum]
    have hwl := cutB_len 32 (l.take k)
    have hwm : ∀ x ∈ cutB 32 (l.take k), x.length ≤ l.length := fun x hx => by have := cutB_mem hx; simp at this; omega
    generalize cutB 32 (l.take k) = ws at hne hbp hwl hwm
    have hpos : 0 < ws.length := List.length_pos_iff.2 hne
    simp only [List.length_take] at hwl
    refine ⟨⟨some (Addr.mk r 0 none), ws.length, ws.length⟩, rfl, by omega, by simp only []; omega, ?_⟩
    have rd0 : ∀ X, RdSl ⟨own ++ ⟨some r, strs ws, ws.length⟩ :: X, ro⟩ ⟨some (Addr.mk r 0 none), ws.length, ws.length⟩ (strs ws) := fun X => by
      have := RdSl.row (own := own ++ ⟨some r, strs ws, ws.length⟩ :: X) (ro := ro) (r := r) (n := ws.length) (vs := strs ws) (e := ⟨some r, strs ws, ws.length⟩) (by simp) rfl rfl
      rw [show (strs ws).length = ws.length by simp [strs]] at this
      exact this
    have rd1 := fun X => (rd0 X).drop (n := (1 : Int).toNat) (by simp only []; omega) (Nat.le_refl _)
    obtain ⟨sv, hsv⟩ : ∃ sv : SV, sv = ⟨if ws.length = (1 : Int).toNat then some (Addr.mk r 0 none) else Option.map (fun z => Addr.add z ((1 : Int).toNat * 1)) (some (Addr.mk r 0 none)), ws.length - (1 : Int).toNat, ws.length - (1 : Int).toNat⟩ := ⟨_, rfl⟩
    simp only [← hsv] at rd1
    have hvl : sv.len = ws.length - 1 := by rw [hsv]; rfl
    have hva : (if ws.length = (1 : Int).toNat then some (Addr.mk r 0 none) else Option.map (fun z => Addr.add z ((1 : Int).toNat * 1)) (some (Addr.mk r 0 none))) = sv.a := by rw [hsv]
    have htl : (strs ws).drop (1 : Int).toNat = strs ws.tail := by simp [strs]
    rw [htl] at rd1
    have htlen : ws.tail.length = ws.length - 1 := List.length_tail
    have gph : Gh ⟨own ++ [⟨some r, strs ws, ws.length⟩], ro⟩ ⟨own ++ [⟨some r, strs ws, ws.length⟩, ⟨none, [], 0⟩], ro⟩ := by
      have := Gh.phantom (own ++ [⟨some r, strs ws, ws.length⟩]) [] ro 0
      rw [List.append_nil, List.append_assoc] at this
      exact this
    refine ⟨fun x h => ∃ vs el, h = (⟨own ++ [⟨some r, strs ws, ws.length⟩, el], ro⟩ : H) ∧ OwnsSl 1 x el (ints (vs.map fun v : Nat => (v : Int))) ∧ nums ws.tail = some vs,
      ⟨fun n x i h => ∃ (k : Nat) (vs : List Nat) (el : Ent), i = (k : Int) ∧ k ≤ ws.tail.length ∧ n = ws.tail.length - k ∧ h = (⟨own ++ [⟨some r, strs ws, ws.length⟩, el], ro⟩ : H) ∧ OwnsSl 1 x el (ints (vs.map fun v : Nat => (v : Int))) ∧ nums (ws.tail.take k) = some vs,
        ⟨_, ⟨_, gph, 0, [], ⟨none, [], 0⟩, rfl, Nat.zero_le _, rfl, rfl, OwnsSl.nil 1, rfl⟩⟩, ?_⟩, ?_⟩
    · rintro n _ x i h ⟨k, vs, el, rfl, hkn, rfl, rfl, ho, hns⟩
      unfold p30_L1
      refine VIf_dec (fun hx => ?_) (fun hx => gi ⟨vs, el, rfl, ho, ?_⟩)
      · have hx : k < ws.tail.length := by
          have : ws.length - (1 : Int).toNat = ws.tail.length := by rw [htlen]; rfl
          rw [this] at hx
          omega
        have r2 := rd1 [el]
        obtain ⟨b, hb⟩ := r2.addr (by simp [strs]; omega)
        have hw : ws.tail[k]? = some (ws.tail[k]) := List.getElem?_eq_getElem hx
        have hns1 := nums_snoc ws.tail[k] (ws.tail.take k)
        rw [← List.take_succ_eq_append_getElem hx, hns] at hns1
        have hvl2 := nums_len hns
        simp only [List.length_take] at hvl2
        have hol := ho.sl_len
        simp only [ints_length, List.length_map] at hol
        refine ⟨b, hva.trans hb, by omega, by rw [show ws.length - (1 : Int).toNat = ws.tail.length by rw [htlen]; rfl]; omega, bs ws.tail[k], ?_, ?_⟩
        · have := r2.get hb (strs_get hw)
          simpa [Addr.add_zero'] using this
        · refine number_c (by have := hwm ws.tail[k] (List.mem_of_mem_tail (List.getElem_mem hx)); omega) (T := T) hN (List.mem_append_left _ hT) hTab (fun u hu => ⟨_, _, rfl, VIf_nb (fun hc => nomatch hc) (fun _ => ?_)⟩) (fun hno y => ⟨_, _, rfl, VIf_nb (fun _ => ⟨_, Gh.drop (by simp), hE 2 (by rw [hbp, btail, nums_none (List.getElem_mem hx) (numV_none hno)])⟩) (fun hc => nomatch hc)⟩)
          rw [numV_iff.2 hu] at hns1
          refine app_row grows_ints (vs := [.int .i64 (u : Int)]) rfl ⟨rfl, trivial⟩ (own ++ [⟨some r, strs ws, ws.length⟩]) el [] (by simp) ho (by omega) (fun s' el' o' l' => ⟨⟨by omega, by omega⟩, ws.tail.length - (k + 1), by omega, gi ⟨k + 1, vs ++ [u], el', by omega, by omega, rfl, by simp, ?_, hns1⟩⟩)
          have e1 : ints ((vs ++ [u]).map fun v : Nat => (v : Int)) = ints (vs.map fun v : Nat => (v : Int)) ++ [.int .i64 (u : Int)] := by simp [ints, intV]
          rw [e1]
          exact o'
      · have : k = ws.tail.length := by
          have h1 : ws.length - (1 : Int).toNat = ws.tail.length := by rw [htlen]; rfl
          rw [h1] at hx
          omega
        subst this
        rwa [List.take_length] at hns
    · rintro _ x h ⟨vs, el, rfl, ho, hns⟩
      rw [btail, hns] at hbp
      exact gi (hK ws vs r x el hbp hne ho)
end Go.Proofs.YtnppmcgmmdcpiaaGreatDoor
namespace Go.Proofs.YtnppmcgmmdcpiaaGreatDoor
open Go.Eng
set_option maxRecDepth 20000
/-! ### maps that a function builds and looks into -/
def mEs : Nat → List (ByteArray × Value) → List MapEntry
  | _, [] => []
  | n, (k, v) :: r => { key := .string k, val := v, born := n } :: mEs (n + 1) r
theorem mEs_snoc (k : ByteArray) (v : Value) : ∀ (l : List (ByteArray × Value)) (n : Nat), mEs n (l ++ [(k, v)]) = mEs n l ++ [{ key := .string k, val := v, born := n + l.length }]
  | [], n => rfl
  | (k', v') :: l, n => by
    simp only [List.cons_append, mEs, mEs_snoc k v l, List.length_cons]
    rw [Nat.add_assoc, Nat.add_comm 1]
def kfind (k : ByteArray) : Nat → List (ByteArray × Value) → Option (Nat × Value)
  | _, [] => none
  | i, (k', v) :: r => if k == k' then some (i, v) else kfind k (i + 1) r
theorem findNow_mEs (k : ByteArray) : ∀ (l : List (ByteArray × Value)) (n i : Nat), Instr.findNow .string (.string k) (mEs n l) i = some (kfind k i l)
  | [], n, i => rfl
  | (k', v) :: l, n, i => by
    simp only [mEs, Instr.findNow, Instr.sameNow, kfind]
    cases h : (k == k') with
    | true => simp
    | false => simpa using findNow_mEs k l (n + 1) (i + 1)
theorem map_put {P : Program} {w : World} {mty kt et : TypeId} {r : Nat} {l : List (ByteArray × Value)} {k : ByteArray} {v : Value} (hm : P.underlying mty = some (.map kt et)) (hk : P.underlying kt = some .string) (hb : w.heap[r]? = some (.map (mEs 0 l).toArray l.length)) (hn : kfind k 0 l = none) :
    (Instr.mapUpdate mty (.map (some r)) (.string k) v).run P w = .ok () (w.putObj r (.map (mEs 0 (l ++ [(k, v)])).toArray (l ++ [(k, v)]).length)) := by
  have hf : Instr.findNow .string (.string k) (mEs 0 l).toArray.toList 0 = some none := by rw [List.toList_toArray, findNow_mEs, hn]
  have hc : (Instr.checkKey false 10000 kt (.string k)).run P w = .ok () w := MapKept.run_checkKey (k := .string k) hk (by simp [MapKept.IsKey]) false 9999
  rw [mEs_snoc]
  simp only [Instr.mapUpdate, Sem.run_bind, run_underlying hm, MapKept.run_getObj_map hb, hc, MapKept.run_findKey hk hf, MapKept.run_setObj_map _ hb, Result.andThen]
  simp [World.putObj]
theorem map_get {P : Program} {w : World} {mty kt et : TypeId} {r : Nat} {l : List (ByteArray × Value)} {k : ByteArray} {z : Value} (hm : P.underlying mty = some (.map kt et)) (hk : P.underlying kt = some .string) (hz : (zeroValue et).run P w = .ok z w) (hb : w.heap[r]? = some (.map (mEs 0 l).toArray l.length)) :
    (Instr.lookup mty (.map (some r)) (.string k) true).run P w = .ok (.tuple #[((kfind k 0 l).map (·.2)).getD z, .bool (kfind k 0 l).isSome]) w := by
  have hf : Instr.findNow .string (.string k) (mEs 0 l).toArray.toList 0 = some (kfind k 0 l) := by rw [List.toList_toArray, findNow_mEs]
  have hc : ∀ e, (Instr.checkKey e 10000 kt (.string k)).run P w = .ok () w := fun e => MapKept.run_checkKey (k := .string k) hk (by simp [MapKept.IsKey]) e 9999
  simp only [Instr.lookup, Sem.run_bind, run_underlying hm, MapKept.run_getObj_map hb, hc, MapKept.run_findKey hk hf, Result.andThen, Sem.run_pure]
  cases kfind k 0 l with
  | none => simp [hz, Result.andThen]
  | some p => simp
theorem below_put {n : Nat} {w w' : World} (h : Go.RowKit.Below n w w') {r : Nat} (hr : n ≤ r) (o : Obj) : Go.RowKit.Below n w (w'.putObj r o) :=
  ⟨h.os, h.tape, h.output, by rw [World.putObj_size]; exact h.size, fun k hk => (World.putObj_heap_other (by omega)).trans (h.block k hk)⟩
theorem rel_lit {n : Nat} {f : F} {a : Act} (h : Rel n f a) : a = { tmps := ((List.range n).map f).toArray, defers := [] } := by
  obtain ⟨t, d⟩ := a
  obtain ⟨h1, h2, h3⟩ := h
  simp only at h1 h2 h3
  subst h1
  congr 1
  apply Array.ext
  · simp [h2]
  · intro i hi hj
    have := h3 i
    simp only [Array.getD] at this
    rw [dif_pos hi] at this
    simpa using this
/-- a slot that is as it is -/
theorem rel_self {n : Nat} {a : Act} (hs : a.tmps.size = n) (hd : a.defers = []) : Rel n (fun t => a.tmps.getD t undef) a := ⟨hd, hs, fun _ => rfl⟩
def bmapL (b : Addr) : List (ByteArray × Value) := [(⟨#[97]⟩, .func (.func 19) #[.pointer (some b)] #[]), (⟨#[98]⟩, .func (.func 26) #[.pointer (some b)] #[])]
def seqL : Code → Code
  | .seq a _ => a
  | c => c
def seqR : Code → Code
  | .seq _ b => b
  | c => c
def blkB : Code → Code
  | .block _ b => b
  | c => c
def rfA : Code → Code
  | .rangeFunc _ _ a _ => a
  | c => c
def rfB : Code → Code
  | .rangeFunc _ _ _ b => b
  | c => c
noncomputable def r9_30 : Code := seqL (restOf 9 (bodyOf Tryz.f30))
noncomputable def r10_30 : Code := seqL (restOf 10 (bodyOf Tryz.f30))
theorem mid30_code : restOf 9 (bodyOf Tryz.f30) = r9_30.seq (r10_30.seq (restOf 11 (bodyOf Tryz.f30))) := by kernel_rfl
theorem u92 : Tryz.prog.underlying 92 = some (.map 9 45) := by kernel_rfl
theorem u9s : Tryz.prog.underlying 9 = some .string := by kernel_rfl
theorem z45 (w : World) : (zeroValue 45).run Tryz.prog w = .ok .nilFunc w := by
  have : (Tryz.prog.info? 45).bind (·.zero) = some .nilFunc := by kernel_rfl
  obtain ⟨i, hi, hz⟩ := Option.bind_eq_some_iff.1 this
  simp [zeroValue, typeInfo, hi, hz]
open Go.RowKit in
set_option maxRecDepth 100000 in
set_option maxHeartbeats 1000000 in
theorem mid30 {Qf : Exit → Act → World → Prop} {w : World} {f : F} {a : Act} {b : Addr} {r8 n8 : Nat} {w0 : List UInt8} (hr : Rel 99 f a) (h0 : f 0 = .pointer (some b)) (h8 : f 8 = .slice (some ⟨r8, 0, none⟩) n8 n8) (hn8 : 0 < n8) (hc : w.cell? ⟨r8, 0, none⟩ = some (.string (bs w0)))
    (hK : ∀ (a' : Act) (w' : World), a'.defers = [] → a'.tmps.size = 99 → a'.tmps.getD 0 undef = .pointer (some b) → a'.tmps.getD 9 undef = f 9 → a'.tmps.getD 7 undef = .bool (kfind (bs w0) 0 (bmapL b)).isSome → a'.tmps.getD 15 undef = ((kfind (bs w0) 0 (bmapL b)).map (·.2)).getD .nilFunc → Below w.heap.size w w' →
      (restOf 11 (bodyOf Tryz.f30)).wp Tryz.prog Qf a' w') : (restOf 9 (bodyOf Tryz.f30)).wp Tryz.prog Qf a w := by
  have hlt : r8 < w.heap.size := World.block_lt_of_cell? w ⟨r8, 0, none⟩ hc
  rw [mid30_code]
  generalize restOf 11 (bodyOf Tryz.f30) = C at hK ⊢
  simp only [r9_30, r10_30, seqL, restOf, bodyOf, Tryz.f30, Option.getD_some]
  rw [rel_lit hr]
  have e : ((List.range 99).map f).toArray = #[.pointer (some b), f 1, f 2, f 3, f 4, f 5, f 6, f 7, .slice (some ⟨r8, 0, none⟩) n8 n8, f 9, f 10, f 11, f 12, f 13, f 14, f 15, f 16, f 17, f 18, f 19, f 20, f 21, f 22, f 23, f 24, f 25, f 26, f 27, f 28, f 29, f 30, f 31, f 32, f 33, f 34, f 35, f 36, f 37, f 38, f 39, f 40, f 41, f 42, f 43, f 44, f 45, f 46, f 47, f 48, f 49, f 50, f 51, f 52, f 53, f 54, f 55, f 56, f 57, f 58, f 59, f 60, f 61, f 62, f 63, f 64, f 65, f 66, f 67, f 68, f 69, f 70, f 71, f 72, f 73, f 74, f 75, f 76, f 77, f 78, f 79, f 80, f 81, f 82, f 83, f 84, f 85, f 86, f 87, f 88, f 89, f 90, f 91, f 92, f 93, f 94, f 95, f 96, f 97, f 98] := by
    rw [← h0, ← h8]; rfl
  rw [e]
  clear e hr h0 h8
  have hnp : (0 : Int) < (n8 : Int) := by omega
  go_wp2
  rw [run_makeMap_plain]
  have B1 : Below w.heap.size w (w.alloc (.map #[] 0)) := (Below.refl _ w).alloc (Nat.le_refl _) _
  have M1 : (w.alloc (.map #[] 0)).heap[w.heap.size]? = some (.map (mEs 0 []).toArray 0) := World.alloc_heap_new w _
  have C1 := (B1.cell (p := ⟨r8, 0, none⟩) hlt).trans hc
  generalize w.alloc (.map #[] 0) = w1 at B1 M1 C1
  go_wp2
  rw [map_put (l := []) u92 u9s M1 rfl]
  have B2 := below_put B1 (Nat.le_refl _) (.map (mEs 0 ([] ++ [((⟨#[97]⟩ : ByteArray), Value.func (.func 19) #[.pointer (some b)] #[])])).toArray 1)
  have M2 := World.putObj_heap_same (w := w1) (r := w.heap.size) (o := .map (mEs 0 ([] ++ [((⟨#[97]⟩ : ByteArray), Value.func (.func 19) #[.pointer (some b)] #[])])).toArray 1) (Array.getElem?_eq_some_iff.1 M1).1
  have C2 := (B2.cell (p := ⟨r8, 0, none⟩) hlt).trans hc
  simp only [List.length_append, List.length_nil, List.length_cons, Nat.zero_add]
  generalize w1.putObj w.heap.size (.map (mEs 0 ([] ++ [((⟨#[97]⟩ : ByteArray), Value.func (.func 19) #[.pointer (some b)] #[])])).toArray 1) = w2 at B2 M2 C2
  go_wp2
  rw [map_put (l := [] ++ [((⟨#[97]⟩ : ByteArray), Value.func (.func 19) #[.pointer (some b)] #[])]) u92 u9s M2 rfl]
  have B3 := below_put B2 (Nat.le_refl _) (.map (mEs 0 ([] ++ [((⟨#[97]⟩ : ByteArray), Value.func (.func 19) #[.pointer (some b)] #[])] ++ [((⟨#[98]⟩ : ByteArray), Value.func (.func 26) #[.pointer (some b)] #[])])).toArray 2)
  have M3 := World.putObj_heap_same (w := w2) (r := w.heap.size) (o := .map (mEs 0 ([] ++ [((⟨#[97]⟩ : ByteArray), Value.func (.func 19) #[.pointer (some b)] #[])] ++ [((⟨#[98]⟩ : ByteArray), Value.func (.func 26) #[.pointer (some b)] #[])])).toArray 2) (Array.getElem?_eq_some_iff.1 M2).1
  have C3 := (B3.cell (p := ⟨r8, 0, none⟩) hlt).trans hc
  simp only [List.length_append, List.length_nil, List.length_cons, Nat.zero_add, Nat.reduceAdd]
  generalize w2.putObj w.heap.size (.map (mEs 0 ([] ++ [((⟨#[97]⟩ : ByteArray), Value.func (.func 19) #[.pointer (some b)] #[])] ++ [((⟨#[98]⟩ : ByteArray), Value.func (.func 26) #[.pointer (some b)] #[])])).toArray 2) = w3 at B3 M3 C3
  clear M1 M2 B1 B2 C1 C2
  go_wp2
  rw [map_get (l := bmapL b) u92 u9s (z45 _) M3]
  go_wp2
  refine hK _ w3 rfl rfl rfl rfl rfl rfl B3
end Go.Proofs.YtnppmcgmmdcpiaaGreatDoor
namespace Go.Proofs.YtnppmcgmmdcpiaaGreatDoor
open Go.Eng
set_option maxRecDepth 20000
/-! ### book.line -/
theorem bpre_code {l : List UInt8} {c : Int} (h : bpre l = .inl c) : c = 2 ∨ c = 6 := by
  unfold bpre at h
  split at h
  · cases h; exact .inl rfl
  · split at h
    · cases h; exact .inl rfl
    · split at h
      · cases h; exact .inr rfl
      · unfold btail at h
        split at h
        · cases h; exact .inl rfl
        · cases h
theorem bline_inl {x : Bo} {l : List UInt8} {c : Int} (h : bpre l = .inl c) : bline x l = (x, c) := by unfold bline; rw [h]
theorem bline_inr {x : Bo} {l : List UInt8} {ws : List (List UInt8)} {vs : List Nat} (h : bpre l = .inr (ws, vs)) : bline x l = if (ws.headD [] = [97] ∨ ws.headD [] = [98]) ∧ vs.length = 1 + x.b.free.length then
      (bput x (decide (ws.headD [] = [98])) ((vs.headD 0 : Nat) : Int) (vs.tail.map fun v : Nat => (v : Int)), bcode x (decide (ws.headD [] = [98])) ((vs.headD 0 : Nat) : Int) (vs.tail.map fun v : Nat => (v : Int)))
    else (x, 2) := by unfold bline; rw [h]
theorem rdSl_tail {h : H} {sl : SV} {v : Nat} {vs : List Nat} (r : RdSl h sl (ints ((v :: vs).map fun v : Nat => (v : Int)))) (hc : sl.len ≤ sl.cap) :
    RdSl h ⟨if sl.cap = (1 : Int).toNat then sl.a else Option.map (fun z => Addr.add z ((1 : Int).toNat * 1)) sl.a, sl.len - (1 : Int).toNat, sl.cap - (1 : Int).toNat⟩ (ints (vs.map fun v : Nat => (v : Int))) := by
  have hl := r.len
  simp at hl
  have := r.drop (n := (1 : Int).toNat) (by rw [hl]; simp) hc
  simpa [ints] using this
set_option maxHeartbeats 1000000 in
/-- what is behind the map: a known verb -/
theorem line_do {s : BkS} {x : Bo} {sl : SV} {vs : List Nat} (back : Bool) {own : List Ent} {ro : Addr → Option Value} {post : Value → H → Prop} {T : Nat} (A C : List Ent) (hown : own = A ++ (boL s ++ C)) (hT : shE 4 T 20 ∈ A ++ C) (hTab : HasTab ro)
    (h : BOO s x ro) (hr : RdSl ⟨[], ro⟩ sl (ints (vs.map fun v : Nat => (v : Int)))) (hcap : sl.len ≤ sl.cap)
    (h2 : vs.length ≠ 1 + x.b.free.length → post (.iface 57 (.int .i64 2)) ⟨own, ro⟩)
    (hk : vs.length = 1 + x.b.free.length → ∀ s' ro', (∀ a v, ro a = some v → ro' a = some v) → BOO s' (bput x back ((vs.headD 0 : Nat) : Int) (vs.tail.map fun v : Nat => (v : Int))) ro' → s'.r = s.r →
      post (errV (eno 57 (bcode x back ((vs.headD 0 : Nat) : Int) (vs.tail.map fun v : Nat => (v : Int))))) ⟨A ++ (boL s' ++ C), ro'⟩) (g : F) :
    if back = true then r30b_sem g (Addr.mk s.r 0 none) sl ⟨own, ro⟩ post else r30a_sem g (Addr.mk s.r 0 none) sl ⟨own, ro⟩ post := by
  have hm : boE s ∈ own := by rw [hown]; simp [boL]
  have hlen := hr.len
  simp at hlen
  have hfl := h.rd.f.len
  simp at hfl
  have hn3 := h.sh.n3
  have key : ∀ (n : FuncId), (∀ (t : Int) (want : List Int) (sw : SV), RdSl ⟨[], ro⟩ sw (ints want) → (∀ s' ro', (∀ a v, ro a = some v → ro' a = some v) → BOO s' (bput x back t want) ro' → s'.r = s.r → ∃ x12 : Option (TypeId × Value), errV (eno 57 (bcode x back t want)) = errV x12 ∧ VRet ⟨A ++ (boL s' ++ C), ro'⟩ (errV x12) post) →
      SemCall Tryz.prog n (List.toArray [.pointer (some (Addr.mk s.r 0 none)), .int .i64 t, .slice sw.a sw.len sw.cap]) ⟨own, ro⟩ (fun v h => ∃ x12 : Option (TypeId × Value), v = errV x12 ∧ VRet h (errV x12) post)) →
      (∃ R1 : Bool → H → Prop, (VIf (!true) (∃ h2, Gh ⟨own, ro⟩ h2 ∧ R1 true h2) (∃ a3 : Addr, some (Addr.mk s.r 0 none) = some a3 ∧ ∃ x4 : SV, H.rd ⟨own, ro⟩ (Addr.add (Addr.add (Addr.add a3 0) 0) 0) (.slice x4.a x4.len x4.cap) ∧ In64 (1 + ((x4.len : Nat) : Int)) ∧ (∃ h5, Gh ⟨own, ro⟩ h5 ∧ R1 (((sl.len : Nat) : Int) != (1 + ((x4.len : Nat) : Int))) h5))) ∧
        ∀ (_ : F) (x6 : Bool) (h7 : H), R1 x6 h7 → VIf x6 (VRet h7 (.iface 57 (.int .i64 2)) post) (∃ b8 : Addr, sl.a = some b8 ∧ (0 : Int) ≤ 0 ∧ 0 < ((sl.len : Nat) : Int) ∧ ∃ x9 : Int, H.rd h7 (Addr.add (Addr.add b8 ((0 : Int).toNat * 1)) 0) (.int .i64 x9) ∧ (0 : Int) ≤ 1 ∧ 1 ≤ ((sl.len : Nat) : Int) ∧
          SemCall Tryz.prog n (List.toArray [.pointer (some (Addr.mk s.r 0 none)), .int .i64 x9, .slice (if sl.cap = (1 : Int).toNat then sl.a else Option.map (fun z => Addr.add z ((1 : Int).toNat * 1)) sl.a) (sl.len - (1 : Int).toNat) (sl.cap - (1 : Int).toNat)]) h7 fun v10 h11 => ∃ x12 : Option (TypeId × Value), v10 = errV x12 ∧ VRet h11 (errV x12) post)) := by
    intro n hcall
    refine ⟨fun c h => c = decide (vs.length ≠ 1 + x.b.free.length) ∧ h = (⟨own, ro⟩ : H), VIf_nb (fun hc => nomatch hc) (fun _ => ⟨_, rfl, s.sf, ?_, ⟨by omega, by omega⟩, ⟨_, Gh.refl _, ?_, rfl⟩⟩), ?_⟩
    · simp only [add_mk', Nat.zero_add]
      exact bo_rd hm 0 rfl
    · rw [hlen, hfl]
      by_cases hv : vs.length = 1 + x.b.free.length
      · simp [hv]
      · have : ((vs.length : Nat) : Int) ≠ 1 + ((x.b.free.length : Nat) : Int) := by omega
        simp [hv, this]
    · rintro _ c h7 ⟨rfl, rfl⟩
      refine VIf_dec (fun hv => ret (h2 hv)) (fun hv => ?_)
      have hv : vs.length = 1 + x.b.free.length := by omega
      have hk := hk hv
      obtain ⟨v, vs', rfl⟩ : ∃ v vs', vs = v :: vs' := by
        cases vs with
        | nil => simp at hv; omega
        | cons v vs => exact ⟨v, vs, rfl⟩
      have hpos : 0 < sl.len := by rw [hlen]; simp
      obtain ⟨b, hb⟩ := hr.addr (by simp)
      refine ⟨b, hb, by omega, by omega, (v : Int), ?_, by omega, by omega, ?_⟩
      · exact (hr.ro (own := own)).rdi hb (i := 0) (by simp)
      · have hrt := rdSl_tail hr hcap
        obtain ⟨sw, hsw⟩ : ∃ sw : SV, sw = ⟨if sl.cap = (1 : Int).toNat then sl.a else Option.map (fun z => Addr.add z ((1 : Int).toNat * 1)) sl.a, sl.len - (1 : Int).toNat, sl.cap - (1 : Int).toNat⟩ := ⟨_, rfl⟩
        have e1 : (if sl.cap = (1 : Int).toNat then sl.a else Option.map (fun z => Addr.add z ((1 : Int).toNat * 1)) sl.a) = sw.a := by rw [hsw]
        have e2 : sl.len - (1 : Int).toNat = sw.len := by rw [hsw]
        have e3 : sl.cap - (1 : Int).toNat = sw.cap := by rw [hsw]
        rw [← hsw] at hrt
        rw [e1, e2, e3]
        exact hcall (v : Int) _ sw hrt (fun s' ro' m h' e => ⟨_, rfl, ret (hk s' ro' m h' e)⟩)
  cases back with
  | true => rw [if_pos rfl]; exact key _ (fun t want sw hw hk => back_c A C hown hT hTab h hw (fun s' ro' m h' e => hk s' ro' m h' e))
  | false => rw [if_neg (by simp)]; exact key _ (fun t want sw hw hk => ask_c A C hown hT hTab h hw (fun s' ro' m h' e => hk s' ro' m h' e))
set_option maxRecDepth 100000 in
set_option maxHeartbeats 1000000 in
theorem line_c {s : BkS} {x : Bo} {l : List UInt8} (hl : l.length ≤ 1000000) {own : List Ent} {ro : Addr → Option Value} {post : Value → H → Prop} {T : Nat} (A C : List Ent) (hown : own = A ++ (boL s ++ C)) (hT : shE 4 T 20 ∈ A ++ C) (hTab : HasTab ro) (hN : HasNum ro) (hM : HasMax ro)
    (h : BOO s x ro)
    (hk : ∀ s' ro', (∀ a v, ro a = some v → ro' a = some v) → BOO s' (bline x l).1 ro' → s'.r = s.r → post (errV (eno 57 (bline x l).2)) ⟨A ++ (boL s' ++ C), ro'⟩) :
    SemCall Tryz.prog 30 (List.toArray [.pointer (some (Addr.mk s.r 0 none)), .string (bs l)]) ⟨own, ro⟩ post := by
  have hTo : shE 4 T 20 ∈ own := by
    rw [hown]
    simp only [List.mem_append] at hT ⊢
    rcases hT with h | h
    · exact .inl h
    · exact .inr (.inr h)
  refine p30_call (some (Addr.mk s.r 0 none)) (bs l) (fun p sw sl h => ∃ ws vs r el, p = some (Addr.mk s.r 0 none) ∧ bpre l = .inr (ws, vs) ∧ ws ≠ [] ∧ OwnsSl 1 sl el (ints (vs.map fun v : Nat => (v : Int))) ∧ sw = ⟨some (Addr.mk r 0 none), ws.length, ws.length⟩ ∧ h = (⟨own ++ [⟨some r, strs ws, ws.length⟩, el], ro⟩ : H)) _ post
    (line_pre hl hN hTo hTab hM (fun c hc => ?_) (fun ws vs r sl el hb hne ho => ⟨ws, vs, r, el, rfl, hb, hne, ho, rfl, rfl⟩)) ?_
  · have e := bline_inl (x := x) hc
    have := hk s ro (fun _ _ h => h) (by rw [e]; exact h) rfl
    rw [e, ← hown] at this
    have hc0 : c ≠ 0 := by rcases bpre_code hc with rfl | rfl <;> decide
    rw [eno_ne hc0] at this
    exact this
  · intro w f h2 a w2 hw hi hap
    obtain ⟨p, hp0, hap⟩ := Kd.elim_spec _ _ _ hap
    obtain ⟨sw, hs8, hap⟩ := Kd.elim_spec _ _ _ hap
    obtain ⟨sl, hs9, hap⟩ := Kd.elim_spec _ _ _ hap
    obtain ⟨h3, g3, ws, vs, r, el, rfl, hb, hne, ho, rfl, rfl⟩ := hap
    have hi := hi.gh g3
    obtain ⟨w0, wt, rfl⟩ : ∃ w0 wt, ws = w0 :: wt := by
      cases ws with
      | nil => exact absurd rfl hne
      | cons a b => exact ⟨a, b, rfl⟩
    have hcell : w2.cell? ⟨r, 0, none⟩ = some (.string (bs w0)) := rd_sound hi.holds (rdo (b := r) (o := 0) ⟨some r, strs (w0 :: wt), (w0 :: wt).length⟩ (by simp) rfl rfl)
    have hap := hi.holds.ap
    have gz := Gh.freeze (own ++ [⟨some r, strs (w0 :: wt), (w0 :: wt).length⟩]) [] ro el (fun a v hv => hap a v hv el (by simp))
    rw [List.append_nil, List.append_assoc] at gz
    have mz : ∀ a v, ro a = some v → Go.Eng.frozen el ro a = some v := frozen_mono (fun a v hv => hap a v hv el (by simp))
    have hrz := RdSl.frozen (ro := ro) ho
    have hcap := ho.cap_le
    have hi := (hi.gh gz).gh (Gh.drop (own' := own) (by simp))
    generalize Go.Eng.frozen el ro = ro2 at hi mz hrz
    refine mid30 (w0 := w0) hi.rel hp0 hs8 (by simp) hcell ?_
    intro a' w' hd hsz e0 e9 e7 e15 hbel
    obtain ⟨hh', hf'⟩ := holds_below hi.holds hbel
    have hi' : Inv 99 w ⟨own, ro⟩ (fun t => a'.tmps.getD t undef) ⟨own, ro2⟩ a' w' := ⟨rel_self hsz hd, hh', hi.fr.trans hf'⟩
    have hln := fun back => line_do (vs := vs) (sl := sl) back (own := own) (ro := ro2) (post := post) A C hown hT (fun i hi => mz _ _ (hTab i hi)) (h.up mz) hrz hcap
    rw [hs9] at e9
    have e : bline x l = if (w0 = [97] ∨ w0 = [98]) ∧ vs.length = 1 + x.b.free.length then
        (bput x (decide (w0 = [98])) ((vs.headD 0 : Nat) : Int) (vs.tail.map fun v : Nat => (v : Int)), bcode x (decide (w0 = [98])) ((vs.headD 0 : Nat) : Int) (vs.tail.map fun v : Nat => (v : Int)))
      else (x, 2) := bline_inr (x := x) hb
    have bne : ∀ {u : List UInt8} {c : UInt8}, u ≠ [c] → (bs u == (⟨#[c]⟩ : ByteArray)) = false := fun {u c} h => by
      cases hc : (bs u == (⟨#[c]⟩ : ByteArray)) with
      | false => rfl
      | true => exact absurd (bs_inj.1 ((MapKept.bytes_beq _ _).1 hc)) h
    have beq : ∀ c : UInt8, (bs [c] == (⟨#[c]⟩ : ByteArray)) = true := fun c => (MapKept.bytes_beq _ _).2 rfl
    have hi' : Inv 99 w ⟨own, ro⟩ (upd (upd (upd (upd (fun t => a'.tmps.getD t undef) 0 (.pointer (some (Addr.mk s.r 0 none)))) 7 (.bool (kfind (bs w0) 0 (bmapL (Addr.mk s.r 0 none))).isSome)) 9 (.slice sl.a sl.len sl.cap)) 15 (((kfind (bs w0) 0 (bmapL (Addr.mk s.r 0 none))).map (·.2)).getD .nilFunc)) ⟨own, ro2⟩ a' w' := by
      have u0 : upd (fun t => a'.tmps.getD t undef) 0 (.pointer (some (Addr.mk s.r 0 none))) = fun t => a'.tmps.getD t undef := upd_self e0
      have u7 : upd (fun t => a'.tmps.getD t undef) 7 (.bool (kfind (bs w0) 0 (bmapL (Addr.mk s.r 0 none))).isSome) = fun t => a'.tmps.getD t undef := upd_self e7
      have u9 : upd (fun t => a'.tmps.getD t undef) 9 (.slice sl.a sl.len sl.cap) = fun t => a'.tmps.getD t undef := upd_self e9
      have u15 : upd (fun t => a'.tmps.getD t undef) 15 (((kfind (bs w0) 0 (bmapL (Addr.mk s.r 0 none))).map (·.2)).getD .nilFunc) = fun t => a'.tmps.getD t undef := upd_self e15
      rw [u0, u7, u9, u15]
      exact hi'
    -- what is told where the verb is none, or the numbers are too many
    have hbad : (¬ ((w0 = [97] ∨ w0 = [98]) ∧ vs.length = 1 + x.b.free.length)) → post (.iface 57 (.int .i64 2)) ⟨own, ro2⟩ := fun hc => by
      rw [if_neg hc] at e
      have := hk s ro2 mz (by rw [e]; exact h.up mz) rfl
      rw [e, ← hown] at this
      rw [← eno_ne (E := 57) (k := 2) (by decide)]
      exact this
    have hk2 : ∀ back : Bool, w0 = [if back = true then 98 else 97] → vs.length = 1 + x.b.free.length → ∀ s' ro', (∀ a v, ro2 a = some v → ro' a = some v) → BOO s' (bput x back ((vs.headD 0 : Nat) : Int) (vs.tail.map fun v : Nat => (v : Int))) ro' → s'.r = s.r →
        post (errV (eno 57 (bcode x back ((vs.headD 0 : Nat) : Int) (vs.tail.map fun v : Nat => (v : Int))))) ⟨A ++ (boL s' ++ C), ro'⟩ := fun back hw0 hv s' ro' m h' hr => by
      have hc : (w0 = [97] ∨ w0 = [98]) ∧ vs.length = 1 + x.b.free.length := ⟨by subst hw0; cases back <;> simp, hv⟩
      have hbk : decide (w0 = [98]) = back := by subst hw0; cases back <;> rfl
      rw [if_pos hc, hbk] at e
      have := hk s' ro' (fun a v hv => m a v (mz a v hv)) (by rw [e]; exact h') hr
      rw [e] at this
      exact this
    by_cases ha : w0 = [97]
    · subst ha
      have hx := hln false (fun hc => hbad (fun hh => hc hh.2)) (hk2 false rfl) (fun t => a'.tmps.getD t undef)
      rw [if_neg (by simp)] at hx
      have hf : kfind (bs [97]) 0 (bmapL (Addr.mk s.r 0 none)) = some (0, .func (.func 19) #[.pointer (some (Addr.mk s.r 0 none))] #[]) := by
        simp only [bmapL, kfind, beq, if_true]
      rw [hf] at hi'
      exact r30a_end (fun t => a'.tmps.getD t undef) (Addr.mk s.r 0 none) sl ⟨own, ro2⟩ post hi' hx
    by_cases hb' : w0 = [98]
    · subst hb'
      have hx := hln true (fun hc => hbad (fun hh => hc hh.2)) (hk2 true rfl) (fun t => a'.tmps.getD t undef)
      rw [if_pos rfl] at hx
      have hf : kfind (bs [98]) 0 (bmapL (Addr.mk s.r 0 none)) = some (1, .func (.func 26) #[.pointer (some (Addr.mk s.r 0 none))] #[]) := by
        simp only [bmapL, kfind, beq, if_true, bne (u := [98]) (c := 97) (by decide)]
        rfl
      rw [hf] at hi'
      exact r30b_end (fun t => a'.tmps.getD t undef) (Addr.mk s.r 0 none) sl ⟨own, ro2⟩ post hi' hx
    have hno : kfind (bs w0) 0 (bmapL (Addr.mk s.r 0 none)) = none := by
      simp only [bmapL, kfind, bne ha, bne hb']
      rfl
    rw [hno] at hi'
    have hx : r30n_sem (fun t => a'.tmps.getD t undef) (Addr.mk s.r 0 none) sl ⟨own, ro2⟩ post := by
      refine ⟨fun c h => c = true ∧ h = (⟨own, ro2⟩ : H), ⟨fun _ => ⟨_, Gh.refl _, rfl, rfl⟩, fun hc => nomatch hc⟩, ?_⟩
      rintro _ c h7 ⟨rfl, rfl⟩
      exact ⟨fun _ => ret (hbad (fun hh => by rcases hh.1 with h | h; exact ha h; exact hb' h)), fun hc => nomatch hc⟩
    exact r30n_end (fun t => a'.tmps.getD t undef) (Addr.mk s.r 0 none) sl ⟨own, ro2⟩ post hi' hx
end Go.Proofs.YtnppmcgmmdcpiaaGreatDoor
namespace Go.Proofs.YtnppmcgmmdcpiaaGreatDoor
open Go.Eng
set_option maxRecDepth 20000
/-! ### a function that holds a range over an iterator, in parts -/
/-- the mark that such a range leaves -/
abbrev markD (D : Nat) : Deferred := { target := .collected D, args := #[] }
theorem leaves_nil {P : Program} {fn : Func} {R : Ending → World → Prop} {e : Exit} {a : Act} {w : World} (h : bodyPost P fn R e a w) : bodyPostM Fence.wide 0 P fn R e a w := by
  cases e with
  | normal =>
    obtain ⟨h1, h2⟩ := h
    show LeavesInM Fence.wide 0 P fn a.tmps R a.defers .returning w
    rw [h1]
    exact h2
  | ret =>
    obtain ⟨h1, h2⟩ := h
    show LeavesInM Fence.wide 0 P fn a.tmps R a.defers .returning w
    rw [h1]
    exact h2
  | panic ch =>
    obtain ⟨h1, h2⟩ := h
    show LeavesInM Fence.wide 0 P fn a.tmps R a.defers (.panicking ch) w
    rw [h1]
    exact h2
  | outgrown => exact h
  | exit id => exact h
  | goto l => exact h
/-- a return behind such a range -/
theorem ret_mark {P : Program} {fn : Func} {post : Value → H → Prop} {h h' : H} {f' : F} {w w' : World} {a' : Act} {D : Nat} (hg : ∀ t, a'.tmps.getD t undef = f' t) (hh : Holds w' h') (hf : Fr w w' h h') (hd : a'.defers = [markD D]) (hD : w'.heap[D]? = some (.deferred (some [])))
    (hwD : w.heap.size ≤ D) (hne : ∀ e ∈ h'.own, e.id ≠ some D) (g3 : retQ P fn post .ret f' h') : bodyPostM Fence.wide 0 P fn (semEnd h w post) .ret a' w' := by
  have hh2 := holds_put (o' := .deferred none) hh hne hD nc_def nc_def
  have hf2 := fr_put (o' := .deferred none) hf hwD hD nc_def nc_def
  obtain ⟨vs, k1, h2, k2, k3⟩ := resList_sound (P := P) hg hh2 _ _ (show resList P f' h' fn.results.toList (fun vs => VRet h' (one vs) post) from g3)
  show LeavesInM Fence.wide 0 P fn a'.tmps (semEnd h w post) a'.defers .returning w'
  rw [hd]
  exact ⟨by simp, .inl ⟨D, _, rfl, run_takeDeferred hD, ⟨one vs, results_one k1, one vs, h2, rfl, k2.holds _ hh2, hf2.trans (k2.fr _), k3⟩⟩⟩
/-- a call in parts -/
theorem sem_of_preM {P : Program} {fid : FuncId} {fn : Func} {c : Code} {g : Hint} {args : List Value} {h : H} {post : Value → H → Prop} (k : Nat) (hm : P.follows .mixedOrders = true) (hf : P.funcs[fid]? = some fn) (hb : fn.body = some c)
    (hn : (Nat.ble args.length fn.ntmps && (writes c).all fun d => Nat.ble (d + 1) fn.ntmps) = true) (hok : okPre k c g = true) {N : F → H → Prop} (hx : exec P (preOf k c) g (preQ N (retQ P fn post)) (F0 args) h)
    (hR : ∀ w f' h' a' w', Holds w h → Inv fn.ntmps w h f' h' a' w' → N f' h' → (restOf k c).wpIn Fence.wide 0 P (bodyPostM Fence.wide 0 P fn (semEnd h w post)) a' w') : SemCall P fid args.toArray h post := by
  intro w hw
  rw [Bool.and_eq_true] at hn
  have hle := Nat.le_of_ble_eq_true hn.1
  have hd : ∀ d ∈ writes c, d < fn.ntmps := fun d hd => Nat.le_of_ble_eq_true (List.all_eq_true.1 hn.2 d hd)
  refine callsIn_wide.1 (callsIn_of_wp_marks (n := 0) (F := Fence.wide) hf hb trivial ?_ rfl)
  refine wpIn_wide.2 ?_
  have hrel : Rel fn.ntmps (F0 args) { tmps := args.toArray ++ Array.replicate (fn.ntmps - args.toArray.size) undef, defers := [] } := by
    refine ⟨rfl, by simp; omega, fun t => ?_⟩
    show (args.toArray ++ Array.replicate (fn.ntmps - args.toArray.size) undef).getD t undef = args.getD t undef
    by_cases ht : t < args.length
    · simp [Array.getD, List.getD, ht, Nat.lt_add_right _ ht]
    · have e1 : args.getD t undef = undef := by simp [List.getD, List.getElem?_eq_none (Nat.le_of_not_lt ht)]
      rw [e1]
      simp only [Array.getD]
      split
      · rename_i hlt
        simp only [Array.getInternal_eq_getElem]
        rw [Array.getElem_append_right (by simpa using Nat.le_of_not_lt ht)]
        simp
      · rfl
  exact pre_sound (Qf := bodyPostM Fence.wide 0 P fn (semEnd h w post)) hm (fun e f h2 a w2 _ g1 g3 => leaves_nil (ret_end g1 g3)) k c g _ h _ w hok hd ⟨hrel, hw, Fr.refl w h⟩ hx (fun f h2 a w2 g1 g3 => wpIn_wide.1 (hR w f h2 a w2 hw g1 g3))
theorem wr_bx {A C : List Ent} {ro : Addr → Option Value} {r : Nat} {v v' : Value} {K : H → Prop} {own : List Ent} (hown : own = A ++ bxE r v :: C) (h1 : v'.oneCell' = true) (hk : K ⟨A ++ bxE r v' :: C, ro⟩) : H.wr ⟨own, ro⟩ (Addr.mk r 0 none) [v'] K := by
  exact wro A (bxE r v) C ⟨h1, trivial⟩ hown rfl (by simp [bxE]) hk
theorem rd_bx {own : List Ent} {ro : Addr → Option Value} {r : Nat} {v : Value} (h : bxE r v ∈ own) : H.rd ⟨own, ro⟩ (Addr.mk r 0 none) v := rdo _ h rfl rfl
end Go.Proofs.YtnppmcgmmdcpiaaGreatDoor
