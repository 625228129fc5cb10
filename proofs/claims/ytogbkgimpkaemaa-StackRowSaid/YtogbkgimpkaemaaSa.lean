import Derived.Test.YtogbkgimpkaemaaHd
import Derived.Test.YtogbkgimpkaemaaEngK
import Derived.Test.YtogbkgimpkaemaaKc
namespace Go.Proofs.Ytogbkgimpkaemaa
open Go.Eng
set_option maxRecDepth 20000
def rm {α : Type} (n : Nat) (f : Nat → α) : List α := (List.range n).map f
theorem rm_len {α : Type} (n : Nat) (f : Nat → α) : (rm n f).length = n := by simp [rm]
theorem rm_get {α : Type} {n k : Nat} (f : Nat → α) (h : k < n) : (rm n f)[k]? = some (f k) := by simp [rm, h]
theorem rm_succ {α : Type} (n : Nat) (f : Nat → α) : rm (n + 1) f = rm n f ++ [f n] := by simp [rm, List.range_succ]
def updN {α : Type} (f : Nat → α) (q : Nat) (v : α) : Nat → α := fun p => if p = q then v else f p
theorem updN_same {α : Type} (f : Nat → α) (q : Nat) (v : α) : updN f q v q = v := if_pos rfl
theorem updN_ne {α : Type} {f : Nat → α} {q p : Nat} {v : α} (h : p ≠ q) : updN f q v p = f p := if_neg h
theorem rm_set {α : Type} (n k : Nat) (f : Nat → α) (v : α) : (rm n f).set k v = rm n (updN f k v) := by
  refine List.ext_getElem? fun i => ?_
  by_cases hi : i < n
  · rw [rm_get _ hi]
    by_cases hk : k = i
    · subst hk; rw [List.getElem?_set_self (by rw [rm_len]; exact hi), updN_same]
    · rw [List.getElem?_set_ne hk, rm_get _ hi, updN_ne (Ne.symm hk)]
  · rw [List.getElem?_eq_none (by simp [rm_len]; omega), List.getElem?_eq_none (by simp [rm_len]; omega)]
theorem updN_cases {α : Type} {f : Nat → α} {q : Nat} {v : α} (p : Nat) : (p = q ∧ updN f q v p = v) ∨ (p ≠ q ∧ updN f q v p = f p) := by
  by_cases h : p = q
  · subst h; exact .inl ⟨rfl, updN_same _ _ _⟩
  · exact .inr ⟨h, updN_ne h⟩
theorem gI_rm {n k : Nat} {f : Nat → Int} (h : k < n) : gI (rm n f) k = f k := by unfold gI; rw [rm_get _ h]; rfl
theorem rm_spl {n o : Nat} {f : Nat → Int} {vs : List Int} (h : o + vs.length ≤ n) : splI (rm n f) o vs = rm n fun k => if o ≤ k ∧ k < o + vs.length then gI vs (k - o) else f k := by
  refine List.ext_getElem? fun k => ?_
  have hl : (splI (rm n f) o vs).length = n := by rw [splI_length (by rw [rm_len]; exact h), rm_len]
  by_cases hk : k < n
  · rw [rm_get _ hk]
    have e := gI_spl (m := rm n f) (vs := vs) (o := o) (by rw [rm_len]; exact h) k
    rw [gI_rm hk] at e
    unfold gI at e
    rw [List.getElem?_eq_getElem (by omega)] at e ⊢
    exact congrArg some e
  · rw [List.getElem?_eq_none (by omega), List.getElem?_eq_none (by rw [rm_len]; omega)]
theorem idxI {h : H} {s : SV} {xs : List Int} (r : RdSl h s (ints xs)) {i : Int} (h0 : 0 ≤ i) (h1 : i < (xs.length : Int)) {K : Int → Prop} (hK : K (gI xs i.toNat)) :
    ∃ b : Addr, s.a = some b ∧ 0 ≤ i ∧ i < ((s.len : Nat) : Int) ∧ ∃ x : Int, H.rd h (Addr.add (Addr.add b (i.toNat * 1)) 0) (Value.int .i64 x) ∧ K x := by
  have hl := r.len
  rw [ints_length] at hl
  refine r.idx h0 (by omega) fun x hx => ?_
  have : gI xs i.toNat = x := by unfold gI; rw [hx]; rfl
  rw [← this]; exact hK
theorem idx0 {h : H} {s : SV} {xs : List Int} (r : RdSl h s (ints xs)) (h1 : 0 < xs.length) {K : Int → Prop} (hK : K (gI xs 0)) :
    ∃ b : Addr, s.a = some b ∧ 0 ≤ (0 : Int) ∧ (0 : Int) < ((s.len : Nat) : Int) ∧ ∃ x : Int, H.rd h (Addr.add (Addr.add b ((0 : Int).toNat * 1)) 0) (Value.int .i64 x) ∧ K x := idxI r (by omega) (by omega) hK
theorem idx1 {h : H} {s : SV} {xs : List Int} (r : RdSl h s (ints xs)) (h1 : 1 < xs.length) {K : Int → Prop} (hK : K (gI xs 1)) :
    ∃ b : Addr, s.a = some b ∧ 0 ≤ (1 : Int) ∧ (1 : Int) < ((s.len : Nat) : Int) ∧ ∃ x : Int, H.rd h (Addr.add (Addr.add b ((1 : Int).toNat * 1)) 0) (Value.int .i64 x) ∧ K x := idxI r (by omega) (by omega) hK
theorem gI_of {m : List Int} {k : Nat} {x : Int} (h : m[k]? = some x) : gI m k = x := by unfold gI; rw [h]; rfl
theorem gI_ex {m : List Int} {k : Nat} (h : k < m.length) : m[k]? = some (gI m k) := by unfold gI; rw [List.getElem?_eq_getElem h]; rfl
/-! ### a stack whose nodes are used again, plain -/
structure SK where
  tg : Bool
  a : Int
  t : Int
  V : Nat → Int
  X : Nat → Int
  U : Nat → Bool
  h : Nat → Int
def kHand (h : Nat → Int) (q : Nat) (vs : List Int) : Nat → Int := fun k => if q * 5 ≤ k ∧ k < q * 5 + 5 then gI vs (k - q * 5) else h k
theorem kHand_same {h : Nat → Int} {q j : Nat} {vs : List Int} (hj : j < 5) : kHand h q vs (q * 5 + j) = gI vs j := by
  unfold kHand; rw [if_pos (by omega), show q * 5 + j - q * 5 = j by omega]
theorem kHand_ne {h : Nat → Int} {q p j : Nat} {vs : List Int} (hp : p ≠ q) (hj : j < 5) : kHand h q vs (p * 5 + j) = h (p * 5 + j) := by
  unfold kHand; rw [if_neg (by omega)]
theorem kHand_ext {h h' : Nat → Int} {q : Nat} {vs : List Int} (e : ∀ j, j < 5 → h' (q * 5 + j) = gI vs j) (o : ∀ k, ¬ (q * 5 ≤ k ∧ k < q * 5 + 5) → h' k = h k) : h' = kHand h q vs := by
  funext k
  unfold kHand
  by_cases hk : q * 5 ≤ k ∧ k < q * 5 + 5
  · rw [if_pos hk, ← e (k - q * 5) (by omega)]; congr 1; omega
  · rw [if_neg hk, o k hk]
theorem kHand_spl {n q : Nat} {h : Nat → Int} {vs : List Int} (hq : q < n) (hl : vs.length = 5) : splI (rm (n * 5) h) (q * 5) vs = rm (n * 5) (kHand h q vs) := by
  rw [rm_spl (by omega), hl]
  rfl
def kFree (n : Nat) (h : Nat → Int) (q : Int) : Int := if ¬ (0 ≤ q ∧ q ≤ (n : Int) - 1) then 1 else if h (q.toNat * 5 + 0) ≠ 0 then 7 else 0
def kLeast (U : Nat → Bool) : Nat := if U 0 = false then 0 else if U 1 = false then 1 else if U 2 = false then 2 else if U 3 = false then 3 else 4
def k0 (tg : Bool) : SK := ⟨tg, -1, 0, fun _ => 0, fun _ => 0, fun _ => false, fun _ => 0⟩
def kPut (s : SK) (q : Nat) (v : Int) : SK := { s with V := updN s.V (kLeast s.U) v, U := updN s.U (kLeast s.U) true, h := kHand s.h q [1, kLeast s.U, 0, 0, 0] }
def kPush (n : Nat) (s : SK) (q v : Int) : SK × Int :=
  if ¬ (0 ≤ v ∧ v ≤ 1000) then (s, 1) else if kFree n s.h q ≠ 0 then (s, kFree n s.h q) else if kLeast s.U = 4 then (s, 4) else (kPut s q.toNat v, 0)
def kPop (n : Nat) (s : SK) (q : Int) : SK × Int :=
  if kFree n s.h q ≠ 0 then (s, kFree n s.h q) else ({ s with h := kHand s.h q.toNat [3, 0, 0, 0, 0] }, 0)
def kTag (s : SK) (st : Int) : Int := if s.tg then st + 1 else 0
def kStep (s : SK) (q : Nat) : SK × Bool × Int :=
  if s.h (q * 5 + 0) = 1 then ({ s with X := updN s.X (s.h (q * 5 + 1)).toNat s.a, h := kHand s.h q [2, s.h (q * 5 + 1), s.h (q * 5 + 2), s.a, s.t] }, false, 0)
  else if s.h (q * 5 + 0) = 2 then (if s.a = s.h (q * 5 + 3) ∧ s.t = s.h (q * 5 + 4) then ({ s with a := s.h (q * 5 + 1), t := kTag s (s.h (q * 5 + 4)), h := kHand s.h q [0, 0, 0, 0, 0] }, true, -1) else ({ s with h := kHand s.h q [1, s.h (q * 5 + 1), s.h (q * 5 + 2), s.h (q * 5 + 3), s.h (q * 5 + 4)] }, false, 0))
  else if s.h (q * 5 + 0) = 3 then (if s.a < 0 then ({ s with h := kHand s.h q [0, 0, 0, 0, 0] }, true, -1) else ({ s with h := kHand s.h q [4, s.h (q * 5 + 1), s.h (q * 5 + 2), s.a, s.t] }, false, 0))
  else if s.h (q * 5 + 0) = 4 then ({ s with h := kHand s.h q [5, s.h (q * 5 + 1), s.X (s.h (q * 5 + 3)).toNat, s.h (q * 5 + 3), s.h (q * 5 + 4)] }, false, 0)
  else if s.h (q * 5 + 0) = 5 then (if s.a = s.h (q * 5 + 3) ∧ s.t = s.h (q * 5 + 4) then ({ s with a := s.h (q * 5 + 2), t := kTag s (s.h (q * 5 + 4)), U := updN s.U (s.h (q * 5 + 3)).toNat false, h := kHand s.h q [0, 0, 0, 0, 0] }, true, s.V (s.h (q * 5 + 3)).toNat) else ({ s with h := kHand s.h q [3, s.h (q * 5 + 1), s.h (q * 5 + 2), s.h (q * 5 + 3), s.h (q * 5 + 4)] }, false, 0))
  else (s, false, 0)
/-- what holds of any stack -/
structure KH (s : SK) (i : Int) (p : Nat) : Prop where
  at0 : 0 ≤ s.h (p * 5 + 0) ∧ s.h (p * 5 + 0) ≤ 5
  nd : s.h (p * 5 + 0) = 1 ∨ s.h (p * 5 + 0) = 2 → 0 ≤ s.h (p * 5 + 1) ∧ s.h (p * 5 + 1) < 4
  sn : s.h (p * 5 + 0) = 4 ∨ s.h (p * 5 + 0) = 5 → 0 ≤ s.h (p * 5 + 3) ∧ s.h (p * 5 + 3) < 4
  nx : s.h (p * 5 + 0) = 5 → -1 ≤ s.h (p * 5 + 2) ∧ s.h (p * 5 + 2) < 4
  st : 0 ≤ s.h (p * 5 + 4) ∧ s.h (p * 5 + 4) ≤ i
structure KI (n : Nat) (s : SK) (i : Int) : Prop where
  a : -1 ≤ s.a ∧ s.a < 4
  t : 0 ≤ s.t ∧ s.t ≤ i
  x : ∀ k, k < 4 → -1 ≤ s.X k ∧ s.X k < 4
  q : ∀ p, p < n → KH s i p
theorem KI.start (n : Nat) (tg : Bool) : KI n (k0 tg) 0 := ⟨by simp [k0], by simp [k0], fun _ _ => by simp [k0], fun p _ => ⟨by simp [k0], by simp [k0], by simp [k0], by simp [k0], by simp [k0]⟩⟩
theorem KH.mono {s : SK} {i j : Int} {p : Nat} (h : KH s i p) (hj : i ≤ j) : KH s j p := { h with st := ⟨h.st.1, by have := h.st.2; omega⟩ }
theorem KI.mono {n : Nat} {s : SK} {i j : Int} (h : KI n s i) (hj : i ≤ j) : KI n s j := ⟨h.a, ⟨h.t.1, by have := h.t.2; omega⟩, h.x, fun p hp => (h.q p hp).mono hj⟩
/-- one hand is another one -/
theorem KI.hand {n : Nat} {s : SK} {i : Int} (h : KI n s i) {q : Nat} {s' : SK} {vs : List Int} {j : Int} (hh : s'.h = kHand s.h q vs) (hij : i ≤ j) (ha : -1 ≤ s'.a ∧ s'.a < 4) (ht : 0 ≤ s'.t ∧ s'.t ≤ j) (hx : ∀ k, k < 4 → -1 ≤ s'.X k ∧ s'.X k < 4)
    (c0 : 0 ≤ gI vs 0 ∧ gI vs 0 ≤ 5) (c1 : gI vs 0 = 1 ∨ gI vs 0 = 2 → 0 ≤ gI vs 1 ∧ gI vs 1 < 4) (c2 : gI vs 0 = 4 ∨ gI vs 0 = 5 → 0 ≤ gI vs 3 ∧ gI vs 3 < 4) (c3 : gI vs 0 = 5 → -1 ≤ gI vs 2 ∧ gI vs 2 < 4) (c4 : 0 ≤ gI vs 4 ∧ gI vs 4 ≤ j) : KI n s' j := by
  refine ⟨ha, ht, hx, fun p hp => ?_⟩
  by_cases e : p = q
  · subst e
    have e := fun {k : Nat} (hk : k < 5) => (by rw [hh, kHand_same hk] : s'.h (p * 5 + k) = gI vs k)
    have e0 := e (k := 0) (by omega)
    have e1 := e (k := 1) (by omega)
    have e2 := e (k := 2) (by omega)
    have e3 := e (k := 3) (by omega)
    have e4 := e (k := 4) (by omega)
    exact ⟨by rw [e0]; exact c0, by rw [e0, e1]; exact c1, by rw [e0, e3]; exact c2, by rw [e0, e2]; exact c3, by rw [e4]; exact c4⟩
  · have g := (h.q p hp).mono hij
    have e := fun {k : Nat} (hk : k < 5) => (by rw [hh, kHand_ne e hk] : s'.h (p * 5 + k) = s.h (p * 5 + k))
    have e0 := e (k := 0) (by omega)
    have e1 := e (k := 1) (by omega)
    have e2 := e (k := 2) (by omega)
    have e3 := e (k := 3) (by omega)
    have e4 := e (k := 4) (by omega)
    exact ⟨by rw [e0]; exact g.at0, by rw [e0, e1]; exact g.nd, by rw [e0, e3]; exact g.sn, by rw [e0, e2]; exact g.nx, by rw [e4]; exact g.st⟩
theorem kLeast_le (U : Nat → Bool) : kLeast U ≤ 4 := by
  unfold kLeast
  repeat' split
  all_goals omega
theorem le15 {x : Int} (h : x = 0 ∨ x = 1 ∨ x = 2 ∨ x = 3 ∨ x = 4 ∨ x = 5) : 0 ≤ x ∧ x ≤ 5 := by omega
theorem KI.put {n : Nat} {s : SK} {i : Int} (h : KI n s i) (q : Nat) (v : Int) (hl : kLeast s.U ≠ 4) : KI n (kPut s q v) i := by
  have := kLeast_le s.U
  have := h.t
  refine h.hand (q := q) (vs := [1, kLeast s.U, 0, 0, 0]) rfl (Int.le_refl _) h.a h.t h.x (le15 (by simp [gI])) (fun _ => ?_) (fun h => by rcases h with h | h <;> cases h) (fun h => by cases h) ⟨Int.le_refl _, ?_⟩
  · show 0 ≤ ((kLeast s.U : Nat) : Int) ∧ ((kLeast s.U : Nat) : Int) < 4
    omega
  · show (0 : Int) ≤ i
    omega
theorem KI.pop {n : Nat} {s : SK} {i : Int} (h : KI n s i) (q : Nat) : KI n { s with h := kHand s.h q [3, 0, 0, 0, 0] } i := by
  have := h.t
  refine h.hand (q := q) (vs := [3, 0, 0, 0, 0]) rfl (Int.le_refl _) h.a h.t h.x (le15 (by simp [gI])) (fun h => by rcases h with h | h <;> cases h) (fun h => by rcases h with h | h <;> cases h) (fun h => by cases h) ⟨Int.le_refl _, ?_⟩
  show (0 : Int) ≤ i
  omega
theorem KI.step {n : Nat} {s : SK} {i : Int} (h : KI n s i) {q : Nat} (hq : q < n) : KI n (kStep s q).1 (i + 1) := by
  obtain ⟨c0, c1, c2, c3, c4⟩ := h.q q hq
  have ha := h.a
  have ht := h.t
  have hx := h.x
  have z : ∀ {s' : SK}, s'.h = kHand s.h q [0, 0, 0, 0, 0] → (-1 ≤ s'.a ∧ s'.a < 4) → (0 ≤ s'.t ∧ s'.t ≤ i + 1) → (∀ k, k < 4 → -1 ≤ s'.X k ∧ s'.X k < 4) → KI n s' (i + 1) := fun {s'} e a b d =>
    h.hand (q := q) (vs := [0, 0, 0, 0, 0]) e (by omega) a b d (le15 (by simp [gI])) (fun h => by rcases h with h | h <;> cases h) (fun h => by rcases h with h | h <;> cases h) (fun h => by cases h) ⟨Int.le_refl _, by show (0 : Int) ≤ i + 1; omega⟩
  have tag : 0 ≤ kTag s (s.h (q * 5 + 4)) ∧ kTag s (s.h (q * 5 + 4)) ≤ i + 1 := by unfold kTag; split <;> omega
  unfold kStep
  by_cases b1 : s.h (q * 5 + 0) = 1
  · rw [if_pos b1]
    have n1 := c1 (.inl b1)
    refine h.hand (q := q) (vs := [2, s.h (q * 5 + 1), s.h (q * 5 + 2), s.a, s.t]) rfl (by omega) ha ⟨ht.1, by show s.t ≤ i + 1; omega⟩ (fun k hk => ?_) (le15 (by simp [gI])) (fun _ => n1) (fun h => by rcases h with h | h <;> cases h) (fun h => by cases h) ⟨ht.1, by show s.t ≤ i + 1; omega⟩
    rcases updN_cases (f := s.X) (q := (s.h (q * 5 + 1)).toNat) (v := s.a) k with ⟨_, e⟩ | ⟨_, e⟩
    · show -1 ≤ updN s.X _ _ k ∧ updN s.X _ _ k < 4; rw [e]; exact ha
    · show -1 ≤ updN s.X _ _ k ∧ updN s.X _ _ k < 4; rw [e]; exact hx k hk
  rw [if_neg b1]
  by_cases b2 : s.h (q * 5 + 0) = 2
  · rw [if_pos b2]
    have n1 := c1 (.inr b2)
    split
    · exact z rfl ⟨by show -1 ≤ s.h (q * 5 + 1); omega, n1.2⟩ tag hx
    · exact h.hand (q := q) (vs := [1, s.h (q * 5 + 1), s.h (q * 5 + 2), s.h (q * 5 + 3), s.h (q * 5 + 4)]) rfl (by omega) ha ⟨ht.1, by show s.t ≤ i + 1; omega⟩ hx (le15 (by simp [gI])) (fun _ => n1) (fun h => by rcases h with h | h <;> cases h) (fun h => by cases h) ⟨c4.1, by show s.h (q * 5 + 4) ≤ i + 1; omega⟩
  rw [if_neg b2]
  by_cases b3 : s.h (q * 5 + 0) = 3
  · rw [if_pos b3]
    split
    · exact z rfl ha ⟨ht.1, by show s.t ≤ i + 1; omega⟩ hx
    · exact h.hand (q := q) (vs := [4, s.h (q * 5 + 1), s.h (q * 5 + 2), s.a, s.t]) rfl (by omega) ha ⟨ht.1, by show s.t ≤ i + 1; omega⟩ hx (le15 (by simp [gI])) (fun h => by rcases h with h | h <;> cases h) (fun _ => ⟨by show 0 ≤ s.a; omega, ha.2⟩) (fun h => by cases h) ⟨ht.1, by show s.t ≤ i + 1; omega⟩
  rw [if_neg b3]
  by_cases b4 : s.h (q * 5 + 0) = 4
  · rw [if_pos b4]
    have n1 := c2 (.inl b4)
    exact h.hand (q := q) (vs := [5, s.h (q * 5 + 1), s.X (s.h (q * 5 + 3)).toNat, s.h (q * 5 + 3), s.h (q * 5 + 4)]) rfl (by omega) ha ⟨ht.1, by show s.t ≤ i + 1; omega⟩ hx (le15 (by simp [gI])) (fun h => by rcases h with h | h <;> cases h) (fun _ => n1) (fun _ => hx _ (by omega)) ⟨c4.1, by show s.h (q * 5 + 4) ≤ i + 1; omega⟩
  rw [if_neg b4]
  by_cases b5 : s.h (q * 5 + 0) = 5
  · rw [if_pos b5]
    have n1 := c2 (.inr b5)
    split
    · exact z rfl (c3 b5) tag hx
    · exact h.hand (q := q) (vs := [3, s.h (q * 5 + 1), s.h (q * 5 + 2), s.h (q * 5 + 3), s.h (q * 5 + 4)]) rfl (by omega) ha ⟨ht.1, by show s.t ≤ i + 1; omega⟩ hx (le15 (by simp [gI])) (fun h => by rcases h with h | h <;> cases h) (fun h => by rcases h with h | h <;> cases h) (fun h => by cases h) ⟨c4.1, by show s.h (q * 5 + 4) ≤ i + 1; omega⟩
  rw [if_neg b5]
  exact h.mono (by omega)
/-! ### the stack as it lies -/
def kC (s : SK) : List Value := [.bool s.tg, .int .i64 s.a, .int .i64 s.t, .int .i64 (s.V 0), .int .i64 (s.X 0), .bool (s.U 0), .int .i64 (s.V 1), .int .i64 (s.X 1), .bool (s.U 1), .int .i64 (s.V 2), .int .i64 (s.X 2), .bool (s.U 2), .int .i64 (s.V 3), .int .i64 (s.X 3), .bool (s.U 3)]
def kH (bh c n : Nat) (s : SK) : Ent := ⟨some bh, ints (rm (n * 5) s.h), c⟩
def kP (p bh n c : Nat) (s : SK) : Ent := ⟨some p, kC s ++ [.slice (some (Addr.mk bh 0 none)) n n], c⟩
def KAt (p n : Nat) (s : SK) (L : List Ent) : Prop := 1 ≤ n ∧ n ≤ 4 ∧ ∃ bh c c1, L = [kH bh c n s, kP p bh n c1 s]
theorem k4 {k : Nat} (hk : k < 4) : k = 0 ∨ k = 1 ∨ k = 2 ∨ k = 3 := by omega
theorem kC_V {s : SK} {k : Nat} (hk : k < 4) (z : Value) : (kC s ++ [z])[3 + k * 3]? = some (.int .i64 (s.V k)) := by rcases k4 hk with rfl | rfl | rfl | rfl <;> rfl
theorem kC_X {s : SK} {k : Nat} (hk : k < 4) (z : Value) : (kC s ++ [z])[3 + k * 3 + 1]? = some (.int .i64 (s.X k)) := by rcases k4 hk with rfl | rfl | rfl | rfl <;> rfl
theorem kC_U {s : SK} {k : Nat} (hk : k < 4) (z : Value) : (kC s ++ [z])[3 + k * 3 + 2]? = some (.bool (s.U k)) := by rcases k4 hk with rfl | rfl | rfl | rfl <;> rfl
theorem kC_wV {s : SK} {k : Nat} (hk : k < 4) (v : Int) (z : Value) : spl (kC s ++ [z]) (3 + k * 3) [.int .i64 v] = kC { s with V := updN s.V k v } ++ [z] := by rcases k4 hk with rfl | rfl | rfl | rfl <;> simp [kC, spl, updN]
theorem kC_wX {s : SK} {k : Nat} (hk : k < 4) (v : Int) (z : Value) : spl (kC s ++ [z]) (3 + k * 3 + 1) [.int .i64 v] = kC { s with X := updN s.X k v } ++ [z] := by rcases k4 hk with rfl | rfl | rfl | rfl <;> simp [kC, spl, updN]
theorem kC_wU {s : SK} {k : Nat} (hk : k < 4) (v : Bool) (z : Value) : spl (kC s ++ [z]) (3 + k * 3 + 2) [.bool v] = kC { s with U := updN s.U k v } ++ [z] := by rcases k4 hk with rfl | rfl | rfl | rfl <;> simp [kC, spl, updN]
theorem kC_len (s : SK) (z : Value) : (kC s ++ [z]).length = 16 := rfl
/-- a write in the struct -/
theorem kw {p bh n c c1 o : Nat} {s s' : SK} {ro : Addr → Option Value} {v : Value} {K : H → Prop} (h1 : v.oneCell' = true) (ho : o + 1 ≤ 16) (hs : spl (kC s ++ [.slice (some (Addr.mk bh 0 none)) n n]) o [v] = kC s' ++ [.slice (some (Addr.mk bh 0 none)) n n]) (hh : s'.h = s.h) (hK : K ⟨[kH bh c n s', kP p bh n c1 s'], ro⟩) :
    H.wr ⟨[kH bh c n s, kP p bh n c1 s], ro⟩ (Addr.mk p o none) [v] K := by
  refine wro [kH bh c n s] (kP p bh n c1 s) [] ⟨h1, trivial⟩ rfl rfl (by unfold kP; rw [kC_len]; exact ho) ?_
  unfold kP kH at *
  simp only
  rw [hs, ← hh]
  exact hK
/-- a hand, written -/
theorem kwh {p bh n c c1 o : Nat} {s s' : SK} {ro : Addr → Option Value} {vs : List Int} {K : H → Prop} (hl : o + vs.length ≤ n * 5) (hc : s'.tg = s.tg ∧ s'.a = s.a ∧ s'.t = s.t ∧ s'.V = s.V ∧ s'.X = s.X ∧ s'.U = s.U) (hs : splI (rm (n * 5) s.h) o vs = rm (n * 5) s'.h) (hK : K ⟨[kH bh c n s', kP p bh n c1 s'], ro⟩) :
    H.wr ⟨[kH bh c n s, kP p bh n c1 s], ro⟩ (Addr.mk bh o none) (ints vs) K := by
  refine wr_gI (vs := vs) [] (kH bh c n s) [kP p bh n c1 s] rfl rfl rfl (by rw [rm_len]; exact hl) ?_
  rw [hs]
  have e : kP p bh n c1 s = kP p bh n c1 s' := by
    obtain ⟨h1, h2, h3, h4, h5, h6⟩ := hc
    unfold kP kC
    rw [h1, h2, h3, h4, h5, h6]
  rw [e]
  exact hK
theorem krh {p bh n c c1 k : Nat} {s : SK} {ro : Addr → Option Value} {own : List Ent} (hL : ∀ e ∈ [kH bh c n s, kP p bh n c1 s], e ∈ own) (hk : k < n * 5) : H.rd ⟨own, ro⟩ (Addr.mk bh k none) (.int .i64 (s.h k)) := rd_ints (kH bh c n s) (hL _ (.head _)) rfl rfl (rm_get _ hk)
theorem krp {p bh n c c1 o : Nat} {s : SK} {ro : Addr → Option Value} {own : List Ent} {v : Value} (hL : ∀ e ∈ [kH bh c n s, kP p bh n c1 s], e ∈ own) (hv : (kC s ++ [.slice (some (Addr.mk bh 0 none)) n n])[o]? = some v) : H.rd ⟨own, ro⟩ (Addr.mk p o none) v := rdo (kP p bh n c1 s) (hL _ (.tail _ (.head _))) rfl hv
/-- the slice of the hands -/
theorem krT {p bh n c c1 : Nat} {s : SK} {ro : Addr → Option Value} {own : List Ent} (hL : ∀ e ∈ [kH bh c n s, kP p bh n c1 s], e ∈ own) {K : SV → Prop} (hK : K ⟨some (Addr.mk bh 0 none), n, n⟩) : ∃ x : SV, H.rd ⟨own, ro⟩ (Addr.add (Addr.add (Addr.mk p 0 none) 15) 0) (.slice x.a x.len x.cap) ∧ K x := by
  refine ⟨_, ?_, hK⟩
  rw [add_mk', add_mk']
  exact krp hL rfl
theorem holds_grow {w w' : World} {h : H} (hw : Holds w h) (hb : Go.RowKit.Below w.heap.size w w') : Holds w' h ∧ Fr w w' h h :=
  ⟨⟨hw.nd, fun e he => Ent.ok_of_block (fun r hr => hb.block r (ids_lt hw he hr)) (hw.ok e he), fun a v hv => (World.cell?_of_block (w := w) (hb.block _ (cell_block_lt (hw.ro a v hv)))).trans (hw.ro a v hv), hw.ap⟩, ⟨hb.os, hb.tape, hb.output, hb.size, fun r hr _ => hb.block r hr, fun e he r hr => .inl ⟨e, he, hr⟩, fun _ _ h => h, fun _ _ h => .inl h⟩⟩
theorem stk_cas_c {p bh n c1 : Nat} {s : SK} {a t x y : Int} {own : List Ent} {ro : Addr → Option Value} {post : Value → H → Prop} (A C : List Ent) (hown : own = A ++ kP p bh n c1 s :: C)
    (h1 : s.a = a ∧ s.t = t → post (.bool true) ⟨A ++ kP p bh n c1 { s with a := x, t := y } :: C, ro⟩) (h2 : ¬ (s.a = a ∧ s.t = t) → post (.bool false) ⟨own, ro⟩) :
    SemCall Try.prog 35 (List.toArray [.pointer (some (Addr.mk p 1 none)), .agg (List.toArray [.int .i64 a, .int .i64 t]), .agg (List.toArray [.int .i64 x, .int .i64 y])]) ⟨own, ro⟩ post := by
  subst hown
  intro w hw
  have he : kP p bh n c1 s ∈ (⟨A ++ kP p bh n c1 s :: C, ro⟩ : H).own := by simp
  have r1 : w.cell? ⟨p, 1, none⟩ = some (.int .i64 s.a) := rd_sound hw (rdo (kP p bh n c1 s) he rfl rfl)
  have r2 : w.cell? ⟨p, 2, none⟩ = some (.int .i64 s.t) := rd_sound hw (rdo (kP p bh n c1 s) he rfl rfl)
  obtain ⟨arr, T, g1, g2, g3⟩ := hw.ok _ he p rfl
  have fz : ∀ o, w.frozen? ⟨p, o, none⟩ = false := fun o => by simp [World.frozen?, g1]
  have hp : p < w.heap.size := ids_lt hw he rfl
  refine (cas_in p s.a s.t a t x y w r1 r2 (fz 1) (fz 2)).mono ?_
  rintro e w' (⟨hc, rfl, hb⟩ | ⟨hc, rfl, hb⟩)
  · obtain ⟨w2, h2', hrun, hh, hf, rfl⟩ := wr_sound (P := Try.prog) hw (a := Addr.mk p 1 none) (vs := [.int .i64 x, .int .i64 y]) (K := fun h => h = ⟨A ++ kP p bh n c1 { s with a := x, t := y } :: C, ro⟩) (wro A (kP p bh n c1 s) C ⟨rfl, rfl, trivial⟩ rfl rfl (by simp [kP, kC]) rfl)
    have hw2 : w2 = (w.setCell ⟨p, 1, none⟩ (.int .i64 x)).setCell ⟨p, 2, none⟩ (.int .i64 y) := by
      have c2 : (w.setCell ⟨p, 1, none⟩ (.int .i64 x)).cell? ⟨p, 2, none⟩ = some (.int .i64 s.t) := by
        rw [World.cell?_setCell_other]
        · exact r2
        · intro h; cases h
      have f2 : (w.setCell ⟨p, 1, none⟩ (.int .i64 x)).frozen? ⟨p, 2, none⟩ = false := by rw [World.frozen?_setCell]; exact fz 2
      have : (storeCells ⟨p, 1, none⟩ [.int .i64 x, .int .i64 y]).run Try.prog w = .ok () ((w.setCell ⟨p, 1, none⟩ (.int .i64 x)).setCell ⟨p, 2, none⟩ (.int .i64 y)) := by
        simp [storeCells, Addr.add]
        rw [run_store Try.prog w _ _ _ rfl]
        simp [r1, fz]
        rw [run_store Try.prog _ _ _ _ rfl]
        simp [c2, f2]
      rw [this] at hrun
      cases hrun; rfl
    subst hw2
    have hb' : Go.RowKit.Below ((w.setCell ⟨p, 1, none⟩ (.int .i64 x)).setCell ⟨p, 2, none⟩ (.int .i64 y)).heap.size ((w.setCell ⟨p, 1, none⟩ (.int .i64 x)).setCell ⟨p, 2, none⟩ (.int .i64 y)) w' := by
      have : ((w.setCell ⟨p, 1, none⟩ (.int .i64 x)).setCell ⟨p, 2, none⟩ (.int .i64 y)).heap.size = w.heap.size := by simp [World.setCell]
      rw [this]; exact hb
    obtain ⟨q1, q2⟩ := holds_grow hh hb'
    exact ⟨_, _, rfl, q1, hf.trans q2, h1 hc⟩
  · obtain ⟨q1, q2⟩ := holds_grow hw hb
    exact ⟨_, _, rfl, q1, q2, h2 hc⟩
theorem rB0 {h : H} {b o j : Nat} {n : Bool} {K : Bool → Prop} (e : Ent) (he : e ∈ h.own) (hid : e.id = some b) (hc : e.cells[o + j]? = some (.bool n)) (hK : K n) : ∃ x : Bool, H.rd h (Addr.add (Addr.add (Addr.mk b o none) j) 0) (.bool x) ∧ K x := ⟨n, by rw [add_mk', add_mk']; exact rdo e he hid hc, hK⟩
theorem rI0' {h : H} {b o j : Nat} {n : Int} {K : Int → Prop} (e : Ent) (he : e ∈ h.own) (hid : e.id = some b) (hc : e.cells[o + j]? = some (.int .i64 n)) (hK : K n) : ∃ x : Int, H.rd h (Addr.add (Addr.add (Addr.mk b o none) j) 0) (.int .i64 x) ∧ K x := ⟨n, by rw [add_mk', add_mk']; exact rdo e he hid hc, hK⟩
theorem stk_new_c {n : Int} {tg : Bool} {own : List Ent} {ro : Addr → Option Value} {post : Value → H → Prop}
    (h1 : ¬ (1 ≤ n ∧ n ≤ 4) → post (.tuple (List.toArray [.pointer none, errV (eno 57 1)])) ⟨own, ro⟩)
    (h2 : ∀ p L, KAt p n.toNat (k0 tg) L → 1 ≤ n → n ≤ 4 → post (.tuple (List.toArray [.pointer (some (Addr.mk p 0 none)), errV none])) ⟨own ++ L, ro⟩) : SemCall Try.prog 20 (List.toArray [.int .i64 n, .bool tg]) ⟨own, ro⟩ post := by
  refine f20_call _ _ _ post ?_
  refine hands_c (fun hc => ⟨_, rfl, VIf_nerr (fun _ => ret (h1 hc)) (nomatch ·)⟩) (fun n1 n4 => ⟨none, rfl, VIf_nnil ?_⟩)
  obtain ⟨N, rfl⟩ : ∃ N : Nat, n = (N : Int) := ⟨n.toNat, by omega⟩
  have e : ∀ n : Nat, repl n [Value.int .i64 0, .int .i64 0, .int .i64 0, .int .i64 0, .int .i64 0] = ints (rm (n * 5) fun _ => 0) := fun n => by
    rw [repl_rows (f := fun _ => [Value.int .i64 0, .int .i64 0, .int .i64 0, .int .i64 0, .int .i64 0]) () n]
    induction n with
    | zero => rfl
    | succ n ih =>
      rw [List.replicate_succ', List.flatMap_append, ih, show (n + 1) * 5 = n * 5 + 1 + 1 + 1 + 1 + 1 by omega, rm_succ, rm_succ, rm_succ, rm_succ, rm_succ]
      simp [ints, intV]
  simp only [Int.toNat_natCast, e] at h2 ⊢
  refine ⟨by omega, by omega, by omega, by omega, fun bh _ p _ => ret ?_⟩
  rw [List.append_assoc]
  exact h2 p _ ⟨by omega, by omega, bh, _, _, rfl⟩ n1 n4
theorem stk_free_c {p n : Nat} {q : Int} {s : SK} {L own : List Ent} {ro : Addr → Option Value} {post : Value → H → Prop} (hs : KAt p n s L) (hL : ∀ e ∈ L, e ∈ own)
    (hk : post (errV (eno 57 (kFree n s.h q))) ⟨own, ro⟩) : SemCall Try.prog 30 (List.toArray [.pointer (some (Addr.mk p 0 none)), .int .i64 q]) ⟨own, ro⟩ post := by
  obtain ⟨h1, h4, bh, c, c1, rfl⟩ := hs
  refine f30_call _ _ _ post ?_
  refine ⟨_, rfl, krT hL ⟨⟨by dsimp only; omega, by dsimp only; omega⟩, within_c ⟨_, rfl, VIf_nb (fun hc => ?_) (fun hc => ⟨_, rfl, krT hL ?_⟩)⟩⟩⟩
  · have hc := of_decide_eq_false hc
    rw [kFree, if_pos hc] at hk
    exact ret hk
  · have hc := of_decide_eq_true hc
    dsimp only at hc
    rw [kFree, if_neg (not_not_intro hc)] at hk
    refine ⟨_, rfl, hc.1, by dsimp only; omega, s.h (q.toNat * 5 + 0), ?_, VIf_ne (fun h0 => ?_) (fun h0 => ?_)⟩
    · rw [add_mk', add_mk', add_mk', show 0 + q.toNat * 5 + 0 + 0 = q.toNat * 5 + 0 by omega]
      exact krh hL (by omega)
    · rw [if_pos h0] at hk; exact ret hk
    · rw [if_neg (not_not_intro h0)] at hk; exact ret hk
theorem kFree_zero {n : Nat} {h : Nat → Int} {q : Int} (hz : kFree n h q = 0) : (0 ≤ q ∧ q ≤ (n : Int) - 1) ∧ h (q.toNat * 5 + 0) = 0 := by
  unfold kFree at hz
  split at hz
  · cases hz
  rename_i h1
  split at hz
  · cases hz
  rename_i h2
  exact ⟨Classical.byContradiction h1, Classical.byContradiction h2⟩
theorem kpush1_c {v x : Int} {u : Bool} {own : List Ent} {ro : Addr → Option Value} {post : Value → H → Prop} (hk : post (.bool (!u)) ⟨own, ro⟩) : SemCall Try.prog 32 (List.toArray [.agg (List.toArray [.int .i64 v, .int .i64 x, .bool u])]) ⟨own, ro⟩ post := by
  refine f32_call _ _ _ _ post ?_
  intro r1 _
  exact rB0 ⟨some r1, [.int .i64 v, .int .i64 x, .bool u], 3⟩ (by simp) rfl rfl ⟨⟨own, ro⟩, Gh.drop (by simp), hk⟩
theorem kLeast_lt {U : Nat → Bool} {k : Nat} (h : ∀ j, j < k → U j = true) (hk : k < 4) (hu : U k = false) : kLeast U = k := by
  unfold kLeast
  rcases k4 hk with rfl | rfl | rfl | rfl
  · rw [if_pos hu]
  · rw [if_neg (by rw [h 0 (by omega)]; decide), if_pos hu]
  · rw [if_neg (by rw [h 0 (by omega)]; decide), if_neg (by rw [h 1 (by omega)]; decide), if_pos hu]
  · rw [if_neg (by rw [h 0 (by omega)]; decide), if_neg (by rw [h 1 (by omega)]; decide), if_neg (by rw [h 2 (by omega)]; decide), if_pos hu]
theorem kLeast_four {U : Nat → Bool} (h : ∀ j, j < 4 → U j = true) : kLeast U = 4 := by
  unfold kLeast
  rw [if_neg (by rw [h 0 (by omega)]; decide), if_neg (by rw [h 1 (by omega)]; decide), if_neg (by rw [h 2 (by omega)]; decide), if_neg (by rw [h 3 (by omega)]; decide)]
theorem kLeast_used {U : Nat → Bool} (h : kLeast U ≠ 4) : U (kLeast U) = false := by
  unfold kLeast at *
  split
  · assumption
  split
  · assumption
  split
  · assumption
  split
  · assumption
  · rename_i a b c d; rw [if_neg a, if_neg b, if_neg c, if_neg d] at h; exact absurd rfl h
theorem stk_index_c {p bh n c c1 : Nat} {s : SK} {own : List Ent} {ro : Addr → Option Value} {post : Value → H → Prop} (hL : ∀ e ∈ [kH bh c n s, kP p bh n c1 s], e ∈ own)
    (hk : post (.int .i64 (if kLeast s.U = 4 then -1 else (kLeast s.U : Int))) ⟨own, ro⟩) :
    SemCall Try.prog 31 (List.toArray [.slice (some (Addr.mk p 3 none)) 4 4, .func (.func 32) #[] #[]]) ⟨own, ro⟩ post := by
  refine f31_call ⟨some (Addr.mk p 3 none), 4, 4⟩ _ post ?_
  refine ⟨fun h => h = ⟨own, ro⟩ ∧ kLeast s.U = 4, ⟨fun m i h => h = ⟨own, ro⟩ ∧ ∃ k : Nat, i = k ∧ k ≤ 4 ∧ m = 4 - k ∧ ∀ j, j < k → s.U j = true, ⟨4, gi ⟨rfl, 0, rfl, by omega, rfl, fun j hj => by omega⟩⟩, ?_⟩, ?_⟩
  · rintro m _ i _ ⟨rfl, k, rfl, hk4, rfl, hu⟩
    refine VIf_dec (fun hlt => ?_) (fun hge => gi ⟨rfl, ?_⟩)
    rotate_left
    · have : k = 4 := by simp only at hge; omega
      subst this; exact kLeast_four hu
    have hk' : k < 4 := by simp only at hlt; omega
    refine ⟨_, rfl, by omega, by simp only; omega, s.V k, ?_, s.X k, ?_, s.U k, ?_, kpush1_c ⟨_, rfl, VIf_nb (fun hf => ?_) (fun ht => ?_)⟩⟩
    · rw [add_mk', add_mk', Int.toNat_natCast]; exact krp hL (kC_V hk' _)
    · rw [add_mk', add_mk', Int.toNat_natCast]; exact krp hL (kC_X hk' _)
    · rw [add_mk', add_mk', Int.toNat_natCast]; exact krp hL (kC_U hk' _)
    · have e := kLeast_lt hu hk' hf
      rw [e, if_neg (by omega)] at hk
      exact ret hk
    · refine ⟨⟨by omega, by omega⟩, 4 - (k + 1), by omega, gi ⟨rfl, k + 1, by omega, by omega, rfl, fun j hj => ?_⟩⟩
      by_cases e : j = k
      · rw [e]; exact ht
      · exact hu j (by omega)
  rintro _ _ ⟨rfl, h4⟩
  rw [if_pos h4] at hk
  exact ret hk
theorem stk_push_c {p n : Nat} {q v : Int} {s : SK} {L own : List Ent} {ro : Addr → Option Value} {post : Value → H → Prop} (A C : List Ent) (hown : own = A ++ (L ++ C)) (hs : KAt p n s L)
    (hk : ∀ L', KAt p n (kPush n s q v).1 L' → post (errV (eno 57 (kPush n s q v).2)) ⟨A ++ (L' ++ C), ro⟩) : SemCall Try.prog 22 (List.toArray [.pointer (some (Addr.mk p 0 none)), .int .i64 q, .int .i64 v]) ⟨own, ro⟩ post := by
  refine lift A C hown (Q := fun L' => KAt p n (kPush n s q v).1 L') ?_ hk
  clear hk hown post
  intro post hk
  unfold kPush at hk
  refine f22_call _ _ _ _ post (within_c ⟨_, rfl, VIf_nb (fun hv => ?_) (fun hv => ?_)⟩)
  · rw [if_pos (of_decide_eq_false hv)] at hk; exact ret (hk _ hs)
  rw [if_neg (not_not_intro (of_decide_eq_true hv))] at hk
  refine stk_free_c hs (fun _ h => h) ⟨_, rfl, VIf_nerr (fun hc => ?_) (fun hc => ?_)⟩
  · rw [if_pos hc] at hk; exact ret (hk _ hs)
  rw [if_neg (not_not_intro hc)] at hk
  obtain ⟨hq, _⟩ := kFree_zero hc
  have hs' := hs
  obtain ⟨h1, h4, bh, c, c1, rfl⟩ := hs
  refine ⟨_, rfl, ?_⟩
  rw [add_mk', add_mk']
  refine stk_index_c (fun _ h => h) ⟨_, rfl, ?_⟩
  by_cases hf : kLeast s.U = 4
  · rw [if_pos hf] at hk ⊢
    exact VIf_dec (fun _ => ret (hk _ hs')) (fun h => absurd (by decide) h)
  rw [if_neg hf] at hk ⊢
  have hl := kLeast_le s.U
  have hk4 : kLeast s.U < 4 := by omega
  refine VIf_dec (fun h => absurd h (by omega)) (fun _ => ?_)
  generalize hkk : kLeast s.U = k at *
  refine ⟨_, rfl, by omega, by omega, _, rfl, ?_⟩
  rw [add_mk', add_mk', add_mk', Int.toNat_natCast, show 0 + 3 + k * 3 + 0 = 3 + k * 3 by omega]
  refine kw (s' := { s with V := updN s.V k v }) rfl (by omega) (kC_wV hk4 v _) rfl ⟨by omega, by omega, ?_⟩
  rw [add_mk', show 0 + 3 + k * 3 + 2 = 3 + k * 3 + 2 by omega]
  refine kw (s' := { s with V := updN s.V k v, U := updN s.U k true }) rfl (by omega) (kC_wU hk4 true _) rfl ⟨_, rfl, krT (fun _ h => h) ⟨_, rfl, hq.1, by dsimp only; omega, rfl, rfl, ?_⟩⟩
  rw [add_mk', Nat.zero_add]
  refine kwh (s' := kPut s q.toNat v) (vs := [1, k, 0, 0, 0]) (by simp; omega) ⟨rfl, rfl, rfl, by unfold kPut; rw [hkk], rfl, by unfold kPut; rw [hkk]⟩ ?_ (ret (hk _ ⟨h1, h4, bh, c, c1, rfl⟩))
  rw [kHand_spl (by omega) rfl]
  unfold kPut
  rw [hkk]
theorem stk_pop_c {p n : Nat} {q : Int} {s : SK} {L own : List Ent} {ro : Addr → Option Value} {post : Value → H → Prop} (A C : List Ent) (hown : own = A ++ (L ++ C)) (hs : KAt p n s L)
    (hk : ∀ L', KAt p n (kPop n s q).1 L' → post (errV (eno 57 (kPop n s q).2)) ⟨A ++ (L' ++ C), ro⟩) : SemCall Try.prog 21 (List.toArray [.pointer (some (Addr.mk p 0 none)), .int .i64 q]) ⟨own, ro⟩ post := by
  refine lift A C hown (Q := fun L' => KAt p n (kPop n s q).1 L') ?_ hk
  clear hk hown post
  intro post hk
  unfold kPop at hk
  refine f21_call _ _ _ post (stk_free_c hs (fun _ h => h) ⟨_, rfl, VIf_nerr (fun hc => ?_) (fun hc => ?_)⟩)
  · rw [if_pos hc] at hk; exact ret (hk _ hs)
  · rw [if_neg (not_not_intro hc)] at hk
    obtain ⟨hq, _⟩ := kFree_zero hc
    obtain ⟨h1, h4, bh, c, c1, rfl⟩ := hs
    refine ⟨_, rfl, krT (fun _ h => h) ⟨_, rfl, hq.1, by dsimp only; omega, rfl, rfl, ?_⟩⟩
    rw [add_mk', Nat.zero_add]
    refine kwh (s' := { s with h := kHand s.h q.toNat [3, 0, 0, 0, 0] }) (vs := [3, 0, 0, 0, 0]) (by simp; omega) ⟨rfl, rfl, rfl, rfl, rfl, rfl⟩ (kHand_spl (by omega) rfl) (ret (hk _ ⟨h1, h4, bh, c, c1, rfl⟩))
end Go.Proofs.Ytogbkgimpkaemaa
