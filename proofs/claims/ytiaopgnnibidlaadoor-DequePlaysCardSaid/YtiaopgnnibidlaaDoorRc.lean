import Derived.Test.YtiaopgnnibidlaaDoorD9
import Derived.Test.YtiaopgnnibidlaaDoorRb
namespace Go.Proofs.YtiaopgnnibidlaaDoor
open Go.Eng
set_option maxRecDepth 20000
/-! ### any step of the document's deque -/
structure ROk (f a t b : Nat → Int) (q : Nat) : Prop where
  a12 : 0 ≤ a q ∧ a q ≤ 12
  hf : ∀ k, -1000000 ≤ f k ∧ f k ≤ 1000000
  f80 : 0 ≤ f 8
  l2 : a q = 2 → 0 ≤ f 9
  lt : (a q = 6 ∨ a q = 7 ∨ a q = 8 ∨ a q = 11 ∨ a q = 12) → -1 ≤ t q ∧ t q ≤ 1000000
  l11 : a q = 11 → 0 ≤ t q
  l7 : a q = 7 → 0 ≤ b q
def rStepE (n : Nat) (f a t b v : Nat → Int) (q : Int) : RD × Int :=
  if ¬ (0 ≤ q ∧ q ≤ (n : Int) - 1) then (⟨f, a, t, b, v, false, 0⟩, 1) else if a q.toNat = 0 then (⟨f, a, t, b, v, false, 0⟩, 7) else (rStep f a t b v q.toNat, 0)
theorem ref_dstepE_c {n : Nat} {q : Int} {P A T B V : SV} {f a t b v : Nat → Int} {own : List Ent} {ro : Addr → Option Value} {post : Value → H → Prop} (hr : DqR ro n P A T B V f a t b v) (hn : n ≤ 4) (hok : ∀ k, k < n → a k ≠ 0 → ROk f a t b k)
    (hk : ∀ P' A' T' B' V' ro', (∀ a v, ro a = some v → ro' a = some v) → DqR ro' n P' A' T' B' V' (rStepE n f a t b v q).1.f (rStepE n f a t b v q).1.a (rStepE n f a t b v q).1.t (rStepE n f a t b v q).1.b (rStepE n f a t b v q).1.v →
      post (.tuple (List.toArray [.agg (List.toArray (drC P' ((rStepE n f a t b v q).1.f 8) ((rStepE n f a t b v q).1.f 9) A' T' B' V')), .bool (rStepE n f a t b v q).1.d, .int .i64 (rStepE n f a t b v q).1.g, .int .i64 (rStepE n f a t b v q).2])) ⟨own, ro'⟩) :
    SemCall Tryd.prog 22 (List.toArray [.agg (List.toArray (drC P (f 8) (f 9) A T B V)), .int .i64 q]) ⟨own, ro⟩ post := by
  have hla := hr.a.len
  rw [ints_length, rm_len] at hla
  by_cases hin : ¬ (0 ≤ q ∧ q ≤ (n : Int) - 1)
  · have hk := hk P A T B V ro (fun _ _ h => h)
    unfold rStepE at hk
    rw [if_pos hin] at hk
    have hk := hk hr
    refine f22_call _ _ _ _ _ _ _ _ _ post ?_
    refine new2 (n1 := 7) (n2 := 7) rfl rfl (fun r1 r3 => ?_)
    have m1 : ∀ {P : SV} {x y : Int} {A T B V : SV} {X : List Ent}, drE r1 P x y A T B V ∈ own ++ drE r1 P x y A T B V :: X := by simp
    refine rS0 (drE r1 P (f 8) (f 9) A T B V) m1 rfl rfl ⟨⟨by omega, by omega⟩, ref6_in_c ⟨_, rfl, VIf_not (fun h => ?_) (fun h => absurd ⟨h.1, by omega⟩ hin)⟩⟩
    exact dr_fin (own := own) (Y := []) (r1 := r1) (r3 := r3) (a0 := P) (a1 := f 8) (a2 := f 9) (a3 := A) (a4 := T) (a5 := B) (a6 := V) (z0 := ⟨none, 0, 0⟩) (z1 := 0) (z2 := 0) (z3 := ⟨none, 0, 0⟩) (z4 := ⟨none, 0, 0⟩) (z5 := ⟨none, 0, 0⟩) (z6 := ⟨none, 0, 0⟩) hk
  obtain ⟨k, rfl⟩ : ∃ k : Nat, q = (k : Int) := ⟨q.toNat, by omega⟩
  have hkn : k < n := by omega
  by_cases h0 : a k = 0
  · have hk := hk P A T B V ro (fun _ _ h => h)
    unfold rStepE at hk
    rw [if_neg hin, Int.toNat_natCast, if_pos h0] at hk
    have hk := hk hr
    refine f22_call _ _ _ _ _ _ _ _ _ post ?_
    refine new2 (n1 := 7) (n2 := 7) rfl rfl (fun r1 r3 => ?_)
    have m1 : ∀ {P : SV} {x y : Int} {A T B V : SV} {X : List Ent}, drE r1 P x y A T B V ∈ own ++ drE r1 P x y A T B V :: X := by simp
    refine rS0 (drE r1 P (f 8) (f 9) A T B V) m1 rfl rfl ⟨⟨by omega, by omega⟩, ref6_in_c ⟨_, rfl, VIf_not (fun h => absurd ⟨by omega, by omega⟩ h) (fun _ => ?_)⟩⟩
    refine rS0 (drE r1 P (f 8) (f 9) A T B V) m1 rfl rfl (rm_at hr.a hkn (VIf_eq (fun _ => ?_) (fun z => absurd h0 z)))
    exact dr_fin (own := own) (Y := []) (r1 := r1) (r3 := r3) (a0 := P) (a1 := f 8) (a2 := f 9) (a3 := A) (a4 := T) (a5 := B) (a6 := V) (z0 := ⟨none, 0, 0⟩) (z1 := 0) (z2 := 0) (z3 := ⟨none, 0, 0⟩) (z4 := ⟨none, 0, 0⟩) (z5 := ⟨none, 0, 0⟩) (z6 := ⟨none, 0, 0⟩) hk
  · have ok := hok k hkn h0
    unfold rStepE at hk
    rw [if_neg hin, Int.toNat_natCast, if_neg h0] at hk
    exact ref_dstep_c hr hn hkn h0 ok.a12 ok.hf ok.f80 ok.l2 ok.lt ok.l11 ok.l7 hk
/-! ### one course of lines, whatever is pushed -/
structure Ctl (f h F G : Nat → Int) : Prop where
  t : f 8 = F 8
  b : f 9 = F 9
  h0 : ∀ q, h (q * 4) = G (q * 4)
  h2 : ∀ q, h (q * 4 + 2) = G (q * 4 + 2)
  h3 : ∀ q, h (q * 4 + 3) = G (q * 4 + 3)
section
variable {f h F G : Nat → Int}
theorem Ctl.fv (c : Ctl f h F G) {k m : Nat} {v w : Int} (hk : k < 8) (hm : m < 8) : Ctl (updN f k v) h (updN F m w) G := ⟨by rw [← u8m hk, ← u8m hm]; exact c.t, by rw [← u9m hk, ← u9m hm]; exact c.b, c.h0, c.h2, c.h3⟩
theorem Ctl.f8 (c : Ctl f h F G) {v w : Int} (e : v = w) : Ctl (updN f 8 v) h (updN F 8 w) G := ⟨by rw [← u88, ← u88]; exact e, by rw [← u89, ← u89]; exact c.b, c.h0, c.h2, c.h3⟩
theorem Ctl.f9 (c : Ctl f h F G) {v w : Int} (e : v = w) : Ctl (updN f 9 v) h (updN F 9 w) G := ⟨by rw [← u98, ← u98]; exact c.t, by rw [← u99, ← u99]; exact e, c.h0, c.h2, c.h3⟩
theorem updN_two {a b : Nat → Int} {i j : Nat} {v w : Int} (h1 : i = j → v = w) (h2 : i ≠ j → a i = b i) : updN a j v i = updN b j w i := by
  unfold updN
  by_cases h : i = j
  · rw [if_pos h, if_pos h]; exact h1 h
  · rw [if_neg h, if_neg h]; exact h2 h
theorem Ctl.a (c : Ctl f h F G) {q : Nat} {v w : Int} (e : v = w) : Ctl f (updN h (q * 4) v) F (updN G (q * 4) w) :=
  ⟨c.t, c.b, fun k => updN_two (fun _ => e) (fun _ => c.h0 k), fun k => updN_two (fun _ => e) (fun _ => c.h2 k), fun k => updN_two (fun _ => e) (fun _ => c.h3 k)⟩
theorem Ctl.v (c : Ctl f h F G) {q : Nat} {v w : Int} : Ctl f (updN h (q * 4 + 1) v) F (updN G (q * 4 + 1) w) :=
  ⟨c.t, c.b, fun k => updN_two (fun h => by omega) (fun _ => c.h0 k), fun k => updN_two (fun h => by omega) (fun _ => c.h2 k), fun k => updN_two (fun h => by omega) (fun _ => c.h3 k)⟩
theorem Ctl.tt (c : Ctl f h F G) {q : Nat} {v w : Int} (e : v = w) : Ctl f (updN h (q * 4 + 2) v) F (updN G (q * 4 + 2) w) :=
  ⟨c.t, c.b, fun k => updN_two (fun _ => e) (fun _ => c.h0 k), fun k => updN_two (fun _ => e) (fun _ => c.h2 k), fun k => updN_two (fun _ => e) (fun _ => c.h3 k)⟩
theorem Ctl.bb (c : Ctl f h F G) {q : Nat} {v w : Int} (e : v = w) : Ctl f (updN h (q * 4 + 3) v) F (updN G (q * 4 + 3) w) :=
  ⟨c.t, c.b, fun k => updN_two (fun _ => e) (fun _ => c.h0 k), fun k => updN_two (fun _ => e) (fun _ => c.h2 k), fun k => updN_two (fun _ => e) (fun _ => c.h3 k)⟩
theorem dDone_two {i q : Nat} (e : h i = G i) : dDone h q i = dDone G q i := by
  unfold dDone
  split
  · rfl
  · exact e
theorem Ctl.dn (c : Ctl f h F G) (q : Nat) : Ctl f (dDone h q) F (dDone G q) := ⟨c.t, c.b, fun k => dDone_two (c.h0 k), fun k => dDone_two (c.h2 k), fun k => dDone_two (c.h3 k)⟩
theorem Ctl.begin (c : Ctl f h F G) (q : Nat) {a v w : Int} : Ctl f (dBegin h q a v) F (dBegin G q a w) := by
  have k : ∀ j k, j ≠ 1 → j < 4 → h (k * 4 + j) = G (k * 4 + j) → dBegin h q a v (k * 4 + j) = dBegin G q a w (k * 4 + j) := by
    intro j k hj h4 e
    unfold dBegin
    by_cases hk : k = q
    · subst hk
      rw [if_pos (by omega), if_pos (by omega), show k * 4 + j - k * 4 = j by omega]
      obtain rfl | rfl | rfl : j = 0 ∨ j = 2 ∨ j = 3 := by omega
      all_goals rfl
    · rw [if_neg (by omega), if_neg (by omega)]; exact e
  exact ⟨c.t, c.b, fun q => k 0 q (by omega) (by omega) (c.h0 q), fun q => k 2 q (by omega) (by omega) (c.h2 q), fun q => k 3 q (by omega) (by omega) (c.h3 q)⟩
theorem at12 {x : Int} (h : 0 ≤ x ∧ x ≤ 12) : x = 0 ∨ x = 1 ∨ x = 2 ∨ x = 3 ∨ x = 4 ∨ x = 5 ∨ x = 6 ∨ x = 7 ∨ x = 8 ∨ x = 9 ∨ x = 10 ∨ x = 11 ∨ x = 12 := by omega
theorem Ctl.step (c : Ctl f h F G) {q : Nat} (ha : 0 ≤ h (q * 4) ∧ h (q * 4) ≤ 12) : Ctl (dStepE f h q).1 (dStepE f h q).2.1 (dStepE F G q).1 (dStepE F G q).2.1 := by
  have e0 := c.h0 q
  have e2 := c.h2 q
  have e3 := c.h3 q
  have t := c.t
  have b := c.b
  rcases at12 ha with a | a | a | a | a | a | a | a | a | a | a | a | a
  · rw [dE0 a, dE0 (e0 ▸ a)]; exact c
  · by_cases d : f 9 - f 8 ≥ 8
    · rw [dE1f a d, dE1f (e0 ▸ a) (by omega)]; exact c.dn q
    · rw [dE1 a d, dE1 (e0 ▸ a) (by omega)]; exact c.a rfl
  · rw [dE2 a, dE2 (e0 ▸ a)]; exact (c.fv (Nat.mod_lt _ (by decide)) (Nat.mod_lt _ (by decide))).a rfl
  · rw [dE3 a, dE3 (e0 ▸ a)]; exact (c.f9 (by omega)).dn q
  · rw [dE4 a, dE4 (e0 ▸ a)]; exact ((c.f9 (by omega)).bb (by omega)).a rfl
  · by_cases d1 : h (q * 4 + 3) > f 8
    · rw [dE5a a d1, dE5a (e0 ▸ a) (by omega)]; exact c.dn q
    · by_cases d2 : h (q * 4 + 3) = f 8
      · rw [dE5b a d2, dE5b (e0 ▸ a) (by omega)]; exact (c.tt t).a rfl
      · rw [dE5c a (by omega), dE5c (e0 ▸ a) (by omega)]; exact (c.tt t).a rfl
  · rw [dE6 a, dE6 (e0 ▸ a)]; exact (c.f9 e2).dn q
  · by_cases d : f 8 = h (q * 4 + 2)
    · rw [dE7a a d, dE7a (e0 ▸ a) (by omega)]; exact ((c.f8 (by omega)).v).a rfl
    · rw [dE7b a d, dE7b (e0 ▸ a) (by omega)]; exact (c.v).a rfl
  · rw [dE8 a, dE8 (e0 ▸ a)]; exact (c.f9 (by omega)).dn q
  · rw [dE9 a, dE9 (e0 ▸ a)]; exact (c.tt t).a rfl
  · by_cases d : f 9 ≤ h (q * 4 + 2)
    · rw [dE10a a d, dE10a (e0 ▸ a) (by omega)]; exact c.dn q
    · rw [dE10b a d, dE10b (e0 ▸ a) (by omega)]; exact c.a rfl
  · rw [dE11 a, dE11 (e0 ▸ a)]; exact (c.v).a rfl
  · by_cases d : f 8 = h (q * 4 + 2)
    · rw [dE12a a d, dE12a (e0 ▸ a) (by omega)]; exact (c.f8 (by omega)).dn q
    · rw [dE12b a d, dE12b (e0 ▸ a) (by omega)]; exact c.dn q
end
theorem DS.okc {n q : Nat} {f h F G : Nat → Int} {pops stls : List Int} {pushed next : Int} {ps : Bool} (I : DS n F G pops stls pushed next ps) (c : Ctl f h F G) (hqn : q < n) : (0 ≤ f 8) ∧ (h (q * 4) = 2 → 0 ≤ f 9) ∧ (h (q * 4) = 7 → 0 ≤ h (q * 4 + 3)) ∧ (h (q * 4) = 11 → 0 ≤ h (q * 4 + 2)) ∧ ((h (q * 4) = 6 ∨ h (q * 4) = 7 ∨ h (q * 4) = 8 ∨ h (q * 4) = 11 ∨ h (q * 4) = 12) → -1 ≤ h (q * 4 + 2)) := by
  obtain ⟨In, hold, I⟩ := I
  have t := I.c.t
  have ct := c.t
  have cb := c.b
  rw [c.h0 q, c.h2 q, c.h3 q]
  refine ⟨by omega, ?_⟩
  by_cases hq : q = 0
  · subst hq
    have H := I.h0
    refine ⟨fun a2 => ?_, fun a7 => ?_, fun a11 => ?_, fun al => ?_⟩
    · rcases H with ⟨a, _⟩ | ⟨a, b, _⟩ | ⟨a, _⟩ | ⟨a, _⟩ | ⟨a, _⟩ | ⟨a, _⟩ | ⟨a, _⟩ <;> omega
    · rcases H with ⟨a, _⟩ | ⟨a, b, _⟩ | ⟨a, _⟩ | ⟨a, _⟩ | ⟨a, _⟩ | ⟨a, t0, tb, b, _⟩ | ⟨a, _⟩ <;> omega
    · rcases H with ⟨a, _⟩ | ⟨a, b, _⟩ | ⟨a, _⟩ | ⟨a, _⟩ | ⟨a, _⟩ | ⟨a, _⟩ | ⟨a, _⟩ <;> omega
    · rcases H with ⟨a, _⟩ | ⟨a, b, _⟩ | ⟨a, _⟩ | ⟨a, _⟩ | ⟨a, _, _, b, _⟩ | ⟨a, b, _⟩ | ⟨a, b, _⟩ <;> omega
  · have H := I.th q (by omega) hqn
    refine ⟨fun a2 => ?_, fun a7 => ?_, fun a11 => ?_, fun al => ?_⟩
    · rcases H with a | a | ⟨a, _⟩ <;> omega
    · rcases H with a | a | ⟨a, _⟩ <;> omega
    · rcases H with a | a | ⟨a, t, _⟩ <;> omega
    · rcases H with a | a | ⟨a, t, _⟩ <;> omega
/-- the document's hand, and this one's -/
def RelH (h a t b v : Nat → Int) (k : Nat) : Prop := a k = h (k * 4) ∧ (a k ≠ 0 → v k = h (k * 4 + 1)) ∧ ((a k = 6 ∨ a k = 7 ∨ a k = 8 ∨ a k = 10 ∨ a k = 11 ∨ a k = 12) → t k = h (k * 4 + 2)) ∧ ((a k = 5 ∨ a k = 6 ∨ a k = 7 ∨ a k = 8) → b k = h (k * 4 + 3))
structure DPI (n : Nat) (i : Int) (f h a t b v : Nat → Int) : Prop where
  gh : ∃ F G pops stls pushed next ps, DS n F G pops stls pushed next ps ∧ Ctl f h F G
  bf : Bnd (2000 + i) f
  bh : Bnd (2000 + i) h
  r : ∀ q, q < n → RelH h a t b v q
theorem rel_all {n q : Nat} {h h' a a' t t' b b' v v' : Nat → Int} (R : ∀ k, k < n → RelH h a t b v k) (hq : RelH h' a' t' b' v' q) (o : Oth q h h') (ea : ∀ k, k ≠ q → a' k = a k) (et : ∀ k, k ≠ q → t' k = t k) (eb : ∀ k, k ≠ q → b' k = b k) (ev : ∀ k, k ≠ q → v' k = v k) :
    ∀ k, k < n → RelH h' a' t' b' v' k := by
  intro k hk
  by_cases e : k = q
  · rw [e]; exact hq
  · have r := R k hk
    unfold RelH at r ⊢
    rw [ea k e, et k e, eb k e, ev k e, o k e 1 (by omega), o k e 2 (by omega), o k e 3 (by omega)]
    have := o k e 0 (by omega)
    simp only [Nat.add_zero] at this
    rw [this]; exact r
theorem rel_zero {q : Nat} {h a t b v : Nat → Int} (h1 : a q = 0) (h2 : h (q * 4) = 0) : RelH h a t b v q := ⟨by rw [h1, h2], fun h => absurd h1 h, fun h => by omega, fun h => by omega⟩
theorem upn {a : Nat → Int} {q k : Nat} {x : Int} (h : k ≠ q) : updN a q x k = a k := updN_ne h
theorem up2 {a : Nat → Int} {q k : Nat} {x y : Int} (h : k ≠ q) : updN (updN a q x) q y k = a k := by rw [updN_ne h, updN_ne h]
theorem rel_at {q : Nat} {h a t b v : Nat → Int} (x tv bv vv : Int) (ha : a q = x) (h0 : h (q * 4) = x) (h1 : v q = vv) (h2 : h (q * 4 + 1) = vv) (h3 : (x = 6 ∨ x = 7 ∨ x = 8 ∨ x = 10 ∨ x = 11 ∨ x = 12) → t q = tv ∧ h (q * 4 + 2) = tv) (h4 : (x = 5 ∨ x = 6 ∨ x = 7 ∨ x = 8) → b q = bv ∧ h (q * 4 + 3) = bv) : RelH h a t b v q := by
  refine ⟨by rw [ha, h0], fun _ => by rw [h1, h2], fun c => ?_, fun c => ?_⟩
  · rw [ha] at c; obtain ⟨x1, x2⟩ := h3 c; rw [x1, x2]
  · rw [ha] at c; obtain ⟨x1, x2⟩ := h4 c; rw [x1, x2]
theorem k0 {h : Nat → Int} {q : Nat} {x : Int} : updN h (q * 4) x (q * 4) = x := updN_same _ _ _
theorem kk {h : Nat → Int} {q i j : Nat} {x : Int} (e : i ≠ j) : updN h (q * 4 + j) x (q * 4 + i) = h (q * 4 + i) := updN_ne (by omega)
theorem kz {h : Nat → Int} {q i : Nat} {x : Int} (e : i ≠ 0) : updN h (q * 4) x (q * 4 + i) = h (q * 4 + i) := updN_ne (by omega)
theorem ks {h : Nat → Int} {q j : Nat} {x : Int} : updN h (q * 4 + j) x (q * 4 + j) = x := updN_same _ _ _
set_option maxHeartbeats 2000000 in
theorem dp_sim {n q : Nat} {i : Int} {f h a t b v : Nat → Int} (I : DPI n i f h a t b v) (hq : q < n) (a0 : a q ≠ 0) (ha : 0 ≤ h (q * 4) ∧ h (q * 4) ≤ 12) :
    (dStepE f h q).1 = (rStep f a t b v q).f ∧ (dStepE f h q).2.2.1 = (rStep f a t b v q).d ∧ (dStepE f h q).2.2.2.1 = (rStep f a t b v q).g ∧ (dStepE f h q).2.2.2.2 = 0 ∧
      ∀ k, k < n → RelH (dStepE f h q).2.1 (rStep f a t b v q).a (rStep f a t b v q).t (rStep f a t b v q).b (rStep f a t b v q).v k := by
  have R := I.r
  obtain ⟨r0, rv, rt, rb⟩ := R q hq
  have rv := rv a0
  rcases at12 ha with e | e | e | e | e | e | e | e | e | e | e | e | e
  · exact absurd (r0.trans e) a0
  · have ea : a q = 1 := r0.trans e
    by_cases d : f 9 - f 8 ≥ 8
    · have er : rStep f a t b v q = ⟨f, updN a q 0, t, b, v, true, -2⟩ := by simp [rStep, ea, d]
      rw [dE1f e d, er]
      exact ⟨rfl, rfl, rfl, rfl, rel_all R (rel_zero (updN_same _ _ _) dDone_at) (Oth.done Oth.rfl) (fun _ h => upn h) (fun _ _ => rfl) (fun _ _ => rfl) (fun _ _ => rfl)⟩
    · have er : rStep f a t b v q = ⟨f, updN (updN a q 0) q 2, t, b, v, false, 0⟩ := by simp [rStep, ea, d]
      rw [dE1 e d, er]
      exact ⟨rfl, rfl, rfl, rfl, rel_all R (rel_at 2 0 0 (v q) (updN_same _ _ _) k0 rfl (by dsimp only; rw [kz (by omega), rv]) (fun h => by omega) (fun h => by omega)) Oth.rfl.upz (fun _ h => up2 h) (fun _ _ => rfl) (fun _ _ => rfl) (fun _ _ => rfl)⟩
  · have ea : a q = 2 := r0.trans e
    have er : rStep f a t b v q = ⟨updN f ((f 9).toNat % 8) (v q), updN (updN a q 0) q 3, t, b, v, false, 0⟩ := by simp [rStep, ea]
    rw [dE2 e, er]
    exact ⟨by rw [rv], rfl, rfl, rfl, rel_all R (rel_at 3 0 0 (v q) (updN_same _ _ _) k0 rfl (by dsimp only; rw [kz (by omega), rv]) (fun h => by omega) (fun h => by omega)) Oth.rfl.upz (fun _ h => up2 h) (fun _ _ => rfl) (fun _ _ => rfl) (fun _ _ => rfl)⟩
  · have ea : a q = 3 := r0.trans e
    have er : rStep f a t b v q = ⟨updN f 9 (f 9 + 1), updN a q 0, t, b, v, true, -1⟩ := by simp [rStep, ea]
    rw [dE3 e, er]
    exact ⟨rfl, rfl, rfl, rfl, rel_all R (rel_zero (updN_same _ _ _) dDone_at) (Oth.done Oth.rfl) (fun _ h => upn h) (fun _ _ => rfl) (fun _ _ => rfl) (fun _ _ => rfl)⟩
  · have ea : a q = 4 := r0.trans e
    have er : rStep f a t b v q = ⟨updN f 9 (f 9 - 1), updN (updN a q 0) q 5, t, updN b q (f 9 - 1), v, false, 0⟩ := by simp [rStep, ea]
    rw [dE4 e, er]
    exact ⟨rfl, rfl, rfl, rfl, rel_all R (rel_at 5 0 (f 9 - 1) (v q) (updN_same _ _ _) k0 rfl (by dsimp only; rw [kz (by omega), kk (by omega), rv]) (fun h => by omega) (fun _ => ⟨updN_same _ _ _, by dsimp only; rw [kz (by omega), ks]⟩)) (Oth.rfl.upd (by omega)).upz (fun _ h => up2 h) (fun _ _ => rfl) (fun _ h => upn h) (fun _ _ => rfl)⟩
  · have ea : a q = 5 := r0.trans e
    have eb := rb (by omega)
    by_cases d1 : h (q * 4 + 3) > f 8
    · have er : rStep f a t b v q = ⟨f, updN a q 0, updN t q (f 8), b, v, true, f ((b q).toNat % 8)⟩ := by
        have : b q > f 8 := by omega
        simp [rStep, ea, this]
      rw [dE5a e d1, er]
      exact ⟨rfl, rfl, by rw [eb], rfl, rel_all R (rel_zero (updN_same _ _ _) dDone_at) (Oth.done Oth.rfl) (fun _ h => upn h) (fun _ h => upn h) (fun _ _ => rfl) (fun _ _ => rfl)⟩
    · by_cases d2 : h (q * 4 + 3) = f 8
      · have er : rStep f a t b v q = ⟨f, updN (updN a q 0) q 7, updN t q (f 8), b, v, false, 0⟩ := by
          have : ¬ b q > f 8 := by omega
          have : b q = f 8 := by omega
          simp [rStep, ea, this]
        rw [dE5b e d2, er]
        exact ⟨rfl, rfl, rfl, rfl, rel_all R (rel_at 7 (f 8) (b q) (v q) (updN_same _ _ _) k0 rfl (by dsimp only; rw [kz (by omega), kk (by omega), rv]) (fun _ => ⟨updN_same _ _ _, by dsimp only; rw [kz (by omega), ks]⟩) (fun _ => ⟨rfl, by dsimp only; rw [kz (by omega), kk (by omega), eb]⟩)) (Oth.rfl.upd (by omega)).upz (fun _ h => up2 h) (fun _ h => upn h) (fun _ _ => rfl) (fun _ _ => rfl)⟩
      · have er : rStep f a t b v q = ⟨f, updN (updN a q 0) q 6, updN t q (f 8), b, v, false, 0⟩ := by
          have h1 : ¬ b q > f 8 := by omega
          have h2 : ¬ b q = f 8 := by omega
          have h1 : b q ≤ f 8 := by omega
          simp [rStep, ea, h1, h2, Int.not_lt.2 h1]
        rw [dE5c e (by omega), er]
        exact ⟨rfl, rfl, rfl, rfl, rel_all R (rel_at 6 (f 8) (b q) (v q) (updN_same _ _ _) k0 rfl (by dsimp only; rw [kz (by omega), kk (by omega), rv]) (fun _ => ⟨updN_same _ _ _, by dsimp only; rw [kz (by omega), ks]⟩) (fun _ => ⟨rfl, by dsimp only; rw [kz (by omega), kk (by omega), eb]⟩)) (Oth.rfl.upd (by omega)).upz (fun _ h => up2 h) (fun _ h => upn h) (fun _ _ => rfl) (fun _ _ => rfl)⟩
  · have ea : a q = 6 := r0.trans e
    have er : rStep f a t b v q = ⟨updN f 9 (t q), updN a q 0, t, b, v, true, -1⟩ := by simp [rStep, ea]
    rw [dE6 e, er]
    exact ⟨by rw [rt (by omega)], rfl, rfl, rfl, rel_all R (rel_zero (updN_same _ _ _) dDone_at) (Oth.done Oth.rfl) (fun _ h => upn h) (fun _ _ => rfl) (fun _ _ => rfl) (fun _ _ => rfl)⟩
  · have ea : a q = 7 := r0.trans e
    have et := rt (by omega)
    have eb := rb (by omega)
    by_cases d : f 8 = h (q * 4 + 2)
    · have er : rStep f a t b v q = ⟨updN f 8 (t q + 1), updN (updN a q 0) q 8, t, b, updN (updN v q (-1)) q (f ((b q).toNat % 8)), false, 0⟩ := by
        have : f 8 = t q := by omega
        simp [rStep, ea, this]
      rw [dE7a e d, er]
      exact ⟨by rw [et], rfl, rfl, rfl, rel_all R (rel_at 8 (t q) (b q) (f ((b q).toNat % 8)) (updN_same _ _ _) k0 (updN_same _ _ _) (by dsimp only; rw [kz (by omega), ks, eb]) (fun _ => ⟨rfl, by dsimp only; rw [kz (by omega), kk (by omega), et]⟩) (fun _ => ⟨rfl, by dsimp only; rw [kz (by omega), kk (by omega), eb]⟩)) (Oth.rfl.upd (by omega)).upz (fun _ h => up2 h) (fun _ _ => rfl) (fun _ _ => rfl) (fun _ h => up2 h)⟩
    · have er : rStep f a t b v q = ⟨f, updN (updN a q 0) q 8, t, b, updN v q (-1), false, 0⟩ := by
        have : ¬ f 8 = t q := by omega
        simp [rStep, ea, this]
      rw [dE7b e d, er]
      exact ⟨rfl, rfl, rfl, rfl, rel_all R (rel_at 8 (t q) (b q) (-1) (updN_same _ _ _) k0 (updN_same _ _ _) (by dsimp only; rw [kz (by omega), ks]) (fun _ => ⟨rfl, by dsimp only; rw [kz (by omega), kk (by omega), et]⟩) (fun _ => ⟨rfl, by dsimp only; rw [kz (by omega), kk (by omega), eb]⟩)) (Oth.rfl.upd (by omega)).upz (fun _ h => up2 h) (fun _ _ => rfl) (fun _ _ => rfl) (fun _ h => upn h)⟩
  · have ea : a q = 8 := r0.trans e
    have er : rStep f a t b v q = ⟨updN f 9 (t q + 1), updN a q 0, t, b, v, true, v q⟩ := by simp [rStep, ea]
    rw [dE8 e, er]
    exact ⟨by rw [rt (by omega)], rfl, by rw [rv], rfl, rel_all R (rel_zero (updN_same _ _ _) dDone_at) (Oth.done Oth.rfl) (fun _ h => upn h) (fun _ _ => rfl) (fun _ _ => rfl) (fun _ _ => rfl)⟩
  · have ea : a q = 9 := r0.trans e
    have er : rStep f a t b v q = ⟨f, updN (updN a q 0) q 10, updN t q (f 8), b, v, false, 0⟩ := by simp [rStep, ea]
    rw [dE9 e, er]
    exact ⟨rfl, rfl, rfl, rfl, rel_all R (rel_at 10 (f 8) 0 (v q) (updN_same _ _ _) k0 rfl (by dsimp only; rw [kz (by omega), kk (by omega), rv]) (fun _ => ⟨updN_same _ _ _, by dsimp only; rw [kz (by omega), ks]⟩) (fun h => by omega)) (Oth.rfl.upd (by omega)).upz (fun _ h => up2 h) (fun _ h => upn h) (fun _ _ => rfl) (fun _ _ => rfl)⟩
  · have ea : a q = 10 := r0.trans e
    have et := rt (by omega)
    by_cases d : f 9 ≤ h (q * 4 + 2)
    · have er : rStep f a t b v q = ⟨f, updN a q 0, t, b, v, true, -1⟩ := by
        have : f 9 ≤ t q := by omega
        simp [rStep, ea, this]
      rw [dE10a e d, er]
      exact ⟨rfl, rfl, rfl, rfl, rel_all R (rel_zero (updN_same _ _ _) dDone_at) (Oth.done Oth.rfl) (fun _ h => upn h) (fun _ _ => rfl) (fun _ _ => rfl) (fun _ _ => rfl)⟩
    · have er : rStep f a t b v q = ⟨f, updN (updN a q 0) q 11, t, b, v, false, 0⟩ := by
        have : ¬ f 9 ≤ t q := by omega
        simp [rStep, ea, this]
      rw [dE10b e d, er]
      exact ⟨rfl, rfl, rfl, rfl, rel_all R (rel_at 11 (t q) 0 (v q) (updN_same _ _ _) k0 rfl (by dsimp only; rw [kz (by omega), rv]) (fun _ => ⟨rfl, by dsimp only; rw [kz (by omega), et]⟩) (fun h => by omega)) Oth.rfl.upz (fun _ h => up2 h) (fun _ _ => rfl) (fun _ _ => rfl) (fun _ _ => rfl)⟩
  · have ea : a q = 11 := r0.trans e
    have et := rt (by omega)
    have er : rStep f a t b v q = ⟨f, updN (updN a q 0) q 12, t, b, updN v q (f ((t q).toNat % 8)), false, 0⟩ := by simp [rStep, ea]
    rw [dE11 e, er]
    exact ⟨rfl, rfl, rfl, rfl, rel_all R (rel_at 12 (t q) 0 (f ((t q).toNat % 8)) (updN_same _ _ _) k0 (updN_same _ _ _) (by dsimp only; rw [kz (by omega), ks, et]) (fun _ => ⟨rfl, by dsimp only; rw [kz (by omega), kk (by omega), et]⟩) (fun h => by omega)) (Oth.rfl.upd (by omega)).upz (fun _ h => up2 h) (fun _ _ => rfl) (fun _ _ => rfl) (fun _ h => upn h)⟩
  · have ea : a q = 12 := r0.trans e
    have et := rt (by omega)
    by_cases d : f 8 = h (q * 4 + 2)
    · have er : rStep f a t b v q = ⟨updN f 8 (t q + 1), updN a q 0, t, b, v, true, v q⟩ := by
        have : f 8 = t q := by omega
        simp [rStep, ea, this]
      rw [dE12a e d, er]
      exact ⟨by rw [et], rfl, by rw [rv], rfl, rel_all R (rel_zero (updN_same _ _ _) dDone_at) (Oth.done Oth.rfl) (fun _ h => upn h) (fun _ _ => rfl) (fun _ _ => rfl) (fun _ _ => rfl)⟩
    · have er : rStep f a t b v q = ⟨f, updN a q 0, t, b, v, true, -2⟩ := by
        have : ¬ f 8 = t q := by omega
        simp [rStep, ea, this]
      rw [dE12b e d, er]
      exact ⟨rfl, rfl, rfl, rfl, rel_all R (rel_zero (updN_same _ _ _) dDone_at) (Oth.done Oth.rfl) (fun _ h => upn h) (fun _ _ => rfl) (fun _ _ => rfl) (fun _ _ => rfl)⟩
end Go.Proofs.YtiaopgnnibidlaaDoor
