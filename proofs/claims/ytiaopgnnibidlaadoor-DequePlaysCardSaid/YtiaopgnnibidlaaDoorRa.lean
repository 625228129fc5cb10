import Derived.Test.YtiaopgnnibidlaaDoorRf
import Derived.Test.YtiaopgnnibidlaaDoorDi
import Derived.Test.YtiaopgnnibidlaaDoorU
namespace Go.Proofs.YtiaopgnnibidlaaDoor
open Go.Eng
set_option maxRecDepth 20000
/-! ### the struct latchgarthref6.Deque, boxed -/
def drC (a0 : SV) (a1 : Int) (a2 : Int) (a3 : SV) (a4 : SV) (a5 : SV) (a6 : SV) : List Value := [.slice a0.a a0.len a0.cap, .int .i64 a1, .int .i64 a2, .slice a3.a a3.len a3.cap, .slice a4.a a4.len a4.cap, .slice a5.a a5.len a5.cap, .slice a6.a a6.len a6.cap]
def drE (r : Nat) (a0 : SV) (a1 : Int) (a2 : Int) (a3 : SV) (a4 : SV) (a5 : SV) (a6 : SV) : Ent := ⟨some r, drC a0 a1 a2 a3 a4 a5 a6, 7⟩
theorem dr_one {a0 : SV} {a1 : Int} {a2 : Int} {a3 : SV} {a4 : SV} {a5 : SV} {a6 : SV} : allOne (drC a0 a1 a2 a3 a4 a5 a6) := ⟨rfl, rfl, rfl, rfl, rfl, rfl, rfl, trivial⟩
theorem dr_get {h : H} {r : Nat} {a0 : SV} {a1 : Int} {a2 : Int} {a3 : SV} {a4 : SV} {a5 : SV} {a6 : SV} {K : SV → Int → Int → SV → SV → SV → SV → Prop} (he : drE r a0 a1 a2 a3 a4 a5 a6 ∈ h.own) (hK : K a0 a1 a2 a3 a4 a5 a6) :
    ∃ x0 : SV, H.rd h (Addr.add (Addr.mk r 0 none) 0) (.slice x0.a x0.len x0.cap) ∧ ∃ x1 : Int, H.rd h (Addr.add (Addr.mk r 0 none) 1) (.int .i64 x1) ∧ ∃ x2 : Int, H.rd h (Addr.add (Addr.mk r 0 none) 2) (.int .i64 x2) ∧ ∃ x3 : SV, H.rd h (Addr.add (Addr.mk r 0 none) 3) (.slice x3.a x3.len x3.cap) ∧ ∃ x4 : SV, H.rd h (Addr.add (Addr.mk r 0 none) 4) (.slice x4.a x4.len x4.cap) ∧ ∃ x5 : SV, H.rd h (Addr.add (Addr.mk r 0 none) 5) (.slice x5.a x5.len x5.cap) ∧ ∃ x6 : SV, H.rd h (Addr.add (Addr.mk r 0 none) 6) (.slice x6.a x6.len x6.cap) ∧ K x0 x1 x2 x3 x4 x5 x6 :=
  rS _ he rfl rfl (rI _ he rfl rfl (rI _ he rfl rfl (rS _ he rfl rfl (rS _ he rfl rfl (rS _ he rfl rfl (rS _ he rfl rfl (hK)))))))
theorem dr_put {own : List Ent} {ro : Addr → Option Value} {r : Nat} {a0 : SV} {a1 : Int} {a2 : Int} {a3 : SV} {a4 : SV} {a5 : SV} {a6 : SV} {z0 : SV} {z1 : Int} {z2 : Int} {z3 : SV} {z4 : SV} {z5 : SV} {z6 : SV} {K : H → Prop} (A C : List Ent) (hown : own = A ++ drE r z0 z1 z2 z3 z4 z5 z6 :: C) (hK : K ⟨A ++ drE r a0 a1 a2 a3 a4 a5 a6 :: C, ro⟩) :
    (drC a0 a1 a2 a3 a4 a5 a6).length = 7 ∧ (Program.underlying Tryd.prog 49).isSome = true ∧ H.wr ⟨own, ro⟩ (Addr.mk r 0 none) (drC a0 a1 a2 a3 a4 a5 a6) K :=
  ⟨rfl, rfl, wro A (drE r z0 z1 z2 z3 z4 z5 z6) C dr_one hown rfl (Nat.le_refl _) hK⟩
theorem dr_fin {own Y : List Ent} {ro : Addr → Option Value} {r1 r3 : Nat} {a0 : SV} {a1 : Int} {a2 : Int} {a3 : SV} {a4 : SV} {a5 : SV} {a6 : SV} {z0 : SV} {z1 : Int} {z2 : Int} {z3 : SV} {z4 : SV} {z5 : SV} {z6 : SV} {Q : SV → Int → Int → SV → SV → SV → SV → Value} {post : Value → H → Prop} (hp : post (Q a0 a1 a2 a3 a4 a5 a6) ⟨own, ro⟩) :
    ∃ x0 : SV, H.rd ⟨own ++ drE r1 a0 a1 a2 a3 a4 a5 a6 :: drE r3 z0 z1 z2 z3 z4 z5 z6 :: Y, ro⟩ (Addr.add (Addr.mk r1 0 none) 0) (.slice x0.a x0.len x0.cap) ∧ ∃ x1 : Int, H.rd ⟨own ++ drE r1 a0 a1 a2 a3 a4 a5 a6 :: drE r3 z0 z1 z2 z3 z4 z5 z6 :: Y, ro⟩ (Addr.add (Addr.mk r1 0 none) 1) (.int .i64 x1) ∧ ∃ x2 : Int, H.rd ⟨own ++ drE r1 a0 a1 a2 a3 a4 a5 a6 :: drE r3 z0 z1 z2 z3 z4 z5 z6 :: Y, ro⟩ (Addr.add (Addr.mk r1 0 none) 2) (.int .i64 x2) ∧ ∃ x3 : SV, H.rd ⟨own ++ drE r1 a0 a1 a2 a3 a4 a5 a6 :: drE r3 z0 z1 z2 z3 z4 z5 z6 :: Y, ro⟩ (Addr.add (Addr.mk r1 0 none) 3) (.slice x3.a x3.len x3.cap) ∧ ∃ x4 : SV, H.rd ⟨own ++ drE r1 a0 a1 a2 a3 a4 a5 a6 :: drE r3 z0 z1 z2 z3 z4 z5 z6 :: Y, ro⟩ (Addr.add (Addr.mk r1 0 none) 4) (.slice x4.a x4.len x4.cap) ∧ ∃ x5 : SV, H.rd ⟨own ++ drE r1 a0 a1 a2 a3 a4 a5 a6 :: drE r3 z0 z1 z2 z3 z4 z5 z6 :: Y, ro⟩ (Addr.add (Addr.mk r1 0 none) 5) (.slice x5.a x5.len x5.cap) ∧ ∃ x6 : SV, H.rd ⟨own ++ drE r1 a0 a1 a2 a3 a4 a5 a6 :: drE r3 z0 z1 z2 z3 z4 z5 z6 :: Y, ro⟩ (Addr.add (Addr.mk r1 0 none) 6) (.slice x6.a x6.len x6.cap) ∧ 
    (drC x0 x1 x2 x3 x4 x5 x6).length = 7 ∧ (Program.underlying Tryd.prog 49).isSome = true ∧ H.wr ⟨own ++ drE r1 a0 a1 a2 a3 a4 a5 a6 :: drE r3 z0 z1 z2 z3 z4 z5 z6 :: Y, ro⟩ (Addr.mk r3 0 none) (drC x0 x1 x2 x3 x4 x5 x6) fun h =>
    ∃ y0 : SV, H.rd h (Addr.add (Addr.mk r3 0 none) 0) (.slice y0.a y0.len y0.cap) ∧ ∃ y1 : Int, H.rd h (Addr.add (Addr.mk r3 0 none) 1) (.int .i64 y1) ∧ ∃ y2 : Int, H.rd h (Addr.add (Addr.mk r3 0 none) 2) (.int .i64 y2) ∧ ∃ y3 : SV, H.rd h (Addr.add (Addr.mk r3 0 none) 3) (.slice y3.a y3.len y3.cap) ∧ ∃ y4 : SV, H.rd h (Addr.add (Addr.mk r3 0 none) 4) (.slice y4.a y4.len y4.cap) ∧ ∃ y5 : SV, H.rd h (Addr.add (Addr.mk r3 0 none) 5) (.slice y5.a y5.len y5.cap) ∧ ∃ y6 : SV, H.rd h (Addr.add (Addr.mk r3 0 none) 6) (.slice y6.a y6.len y6.cap) ∧ VRet h (Q y0 y1 y2 y3 y4 y5 y6) post :=
  dr_get (a0 := a0) (a1 := a1) (a2 := a2) (a3 := a3) (a4 := a4) (a5 := a5) (a6 := a6) (by simp) (dr_put (z0 := z0) (z1 := z1) (z2 := z2) (z3 := z3) (z4 := z4) (z5 := z5) (z6 := z6) (own ++ [drE r1 a0 a1 a2 a3 a4 a5 a6]) Y (by simp) (dr_get (a0 := a0) (a1 := a1) (a2 := a2) (a3 := a3) (a4 := a4) (a5 := a5) (a6 := a6) (by simp) ⟨⟨own, ro⟩, Gh.drop (by simp), hp⟩))
theorem dr_w {own C : List Ent} {ro : Addr → Option Value} {r1 : Nat} {a0 : SV} {a1 : Int} {a2 : Int} {a3 : SV} {a4 : SV} {a5 : SV} {a6 : SV} {j : Nat} {v : Value} {K : H → Prop} (b0 : SV) (b1 : Int) (b2 : Int) (b3 : SV) (b4 : SV) (b5 : SV) (b6 : SV) (h1 : v.oneCell' = true) (hj : 0 + j + 1 ≤ 7) (hs : spl (drC a0 a1 a2 a3 a4 a5 a6) (0 + j) [v] = drC b0 b1 b2 b3 b4 b5 b6)
    (hK : K ⟨own ++ drE r1 b0 b1 b2 b3 b4 b5 b6 :: C, ro⟩) : H.wr ⟨own ++ drE r1 a0 a1 a2 a3 a4 a5 a6 :: C, ro⟩ (Addr.add (Addr.mk r1 0 none) j) [v] K := by
  refine wF own (drE r1 a0 a1 a2 a3 a4 a5 a6) C ⟨h1, trivial⟩ rfl rfl hj ?_
  show K ⟨own ++ ⟨some r1, spl (drC a0 a1 a2 a3 a4 a5 a6) (0 + j) [v], 7⟩ :: C, ro⟩
  rw [hs]
  exact hK
/-! ### the document's deque -/
structure DqR (ro : Addr → Option Value) (n : Nat) (P A T B V : SV) (f a t b v : Nat → Int) : Prop where
  p : RdSl ⟨[], ro⟩ P (ints (rm 8 f))
  a : RdSl ⟨[], ro⟩ A (ints (rm n a))
  t : RdSl ⟨[], ro⟩ T (ints (rm n t))
  b : RdSl ⟨[], ro⟩ B (ints (rm n b))
  v : RdSl ⟨[], ro⟩ V (ints (rm n v))
theorem rm_at {n : Nat} {f : Nat → Int} {s : SV} {own : List Ent} {ro : Addr → Option Value} (r : RdSl ⟨[], ro⟩ s (ints (rm n f))) {k : Nat} (hk : k < n) {K : Int → Prop} (hK : K (f k)) :
    ∃ b : Addr, s.a = some b ∧ 0 ≤ (k : Int) ∧ (k : Int) < ((s.len : Nat) : Int) ∧ ∃ x : Int, H.rd ⟨own, ro⟩ (Addr.add (Addr.add b (((k : Int)).toNat * 1)) 0) (Value.int .i64 x) ∧ K x := by
  have hl := r.len
  rw [ints_length, rm_len] at hl
  refine RdSl.idx (h := ⟨own, ro⟩) r.ro (by omega) (by omega) (fun x hx => ?_)
  rw [Int.toNat_natCast, rm_get _ hk] at hx
  cases hx; exact hK
theorem ref6_upd_c {n : Nat} {f : Nat → Int} {s : SV} {v : Int} {own : List Ent} {ro : Addr → Option Value} {post : Value → H → Prop} (r : RdSl ⟨[], ro⟩ s (ints (rm n f))) (hn : n ≤ 1000000) {k : Nat} (hk : k < n)
    (hK : ∀ (s' : SV) (ro' : Addr → Option Value), (∀ a v, ro a = some v → ro' a = some v) → RdSl ⟨[], ro'⟩ s' (ints (rm n (updN f k v))) → post (.slice s'.a s'.len s'.cap) ⟨own, ro'⟩) :
    SemCall Tryd.prog 34 (List.toArray [.slice s.a s.len s.cap, .int .i64 (k : Int), .int .i64 v]) ⟨own, ro⟩ post := by
  have hl := r.len
  rw [ints_length, rm_len] at hl
  refine ref6_set_c r.ro (by omega) (by omega) (by omega) (fun s' ro' m h _ => hK s' ro' m ?_)
  rw [Int.toNat_natCast, rm_set] at h
  exact h
theorem ref_dbegin_c {n q : Nat} {P A T B V : SV} {f a t b v : Nat → Int} {line val : Int} {own : List Ent} {ro : Addr → Option Value} {post : Value → H → Prop} (hr : DqR ro n P A T B V f a t b v) (hn : n ≤ 4) (hq : q < n)
    (hk : ∀ A' V' ro', (∀ a v, ro a = some v → ro' a = some v) → DqR ro' n P A' T B V' f (if a q ≠ 0 then a else updN a q line) t b (if a q ≠ 0 then v else updN v q val) → post (.tuple (List.toArray [.agg (List.toArray (drC P (f 8) (f 9) A' T B V')), .int .i64 (if a q ≠ 0 then 7 else 0)])) ⟨own, ro'⟩) :
    SemCall Tryd.prog 18 (List.toArray [.agg (List.toArray (drC P (f 8) (f 9) A T B V)), .int .i64 (q : Int), .int .i64 line, .int .i64 val]) ⟨own, ro⟩ post := by
  refine f18_call _ _ _ _ _ _ _ _ _ _ _ post ?_
  refine new2 (n1 := 7) (n2 := 7) rfl rfl (fun r1 r3 => ?_)
  have m1 : ∀ {P : SV} {x y : Int} {A T B V : SV} {X : List Ent}, drE r1 P x y A T B V ∈ own ++ drE r1 P x y A T B V :: X := by simp
  refine rS0 (drE r1 P (f 8) (f 9) A T B V) m1 rfl rfl (rm_at hr.a hq (VIf_ne (fun z => dr_fin (own := own) (Y := []) (r1 := r1) (r3 := r3) (a0 := P) (a1 := f 8) (a2 := f 9) (a3 := A) (a4 := T) (a5 := B) (a6 := V) (z0 := ⟨none, 0, 0⟩) (z1 := 0) (z2 := 0) (z3 := ⟨none, 0, 0⟩) (z4 := ⟨none, 0, 0⟩) (z5 := ⟨none, 0, 0⟩) (z6 := ⟨none, 0, 0⟩) ?_) (fun z => ?_)))
  · have hk := hk A V ro (fun _ _ h => h)
    rw [if_pos z, if_pos z, if_pos z] at hk
    exact hk hr
  refine rS0 (drE r1 P (f 8) (f 9) A T B V) m1 rfl rfl (ref6_upd_c hr.a (by omega) hq (fun A' ro1 q1 ha => ⟨A', rfl, dr_w P (f 8) (f 9) A' T B V rfl (by decide) rfl ?_⟩))
  refine rS0 (drE r1 P (f 8) (f 9) A' T B V) m1 rfl rfl (ref6_upd_c (RdSl.up hr.v (by simp) q1) (by omega) hq (fun V' ro2 q2 hv => ⟨V', rfl, dr_w P (f 8) (f 9) A' T B V' rfl (by decide) rfl ?_⟩))
  refine dr_fin (own := own) (Y := []) (r1 := r1) (r3 := r3) (a0 := P) (a1 := f 8) (a2 := f 9) (a3 := A') (a4 := T) (a5 := B) (a6 := V') (z0 := ⟨none, 0, 0⟩) (z1 := 0) (z2 := 0) (z3 := ⟨none, 0, 0⟩) (z4 := ⟨none, 0, 0⟩) (z5 := ⟨none, 0, 0⟩) (z6 := ⟨none, 0, 0⟩) ?_
  have u2 : ∀ a v, ro a = some v → ro2 a = some v := fun a v h => q2 a v (q1 a v h)
  have hk := hk A' V' ro2 u2
  rw [if_neg (not_not_intro z), if_neg (not_not_intro z), if_neg (not_not_intro z)] at hk
  exact hk ⟨RdSl.up hr.p (by simp) u2, RdSl.up ha (by simp) q2, RdSl.up hr.t (by simp) u2, RdSl.up hr.b (by simp) u2, hv⟩
structure RD where
  f : Nat → Int
  a : Nat → Int
  t : Nat → Int
  b : Nat → Int
  v : Nat → Int
  d : Bool
  g : Int
def rStep (f a t b v : Nat → Int) (q : Nat) : RD :=
  let z := updN a q 0
  if a q = 1 then (if f 9 - f 8 ≥ 8 then ⟨f, z, t, b, v, true, -2⟩ else ⟨f, updN z q (a q + 1), t, b, v, false, 0⟩)
  else if a q = 2 then ⟨updN f ((f 9).toNat % 8) (v q), updN z q (a q + 1), t, b, v, false, 0⟩
  else if a q = 3 then ⟨updN f 9 (f 9 + 1), z, t, b, v, true, -1⟩
  else if a q = 4 then ⟨updN f 9 (f 9 - 1), updN z q (a q + 1), t, updN b q (f 9 - 1), v, false, 0⟩
  else if a q = 5 then (if b q > f 8 then ⟨f, z, updN t q (f 8), b, v, true, f ((b q).toNat % 8)⟩ else if b q = f 8 then ⟨f, updN z q 7, updN t q (f 8), b, v, false, 0⟩ else ⟨f, updN z q (a q + 1), updN t q (f 8), b, v, false, 0⟩)
  else if a q = 6 then ⟨updN f 9 (t q), z, t, b, v, true, -1⟩
  else if a q = 7 then (if f 8 = t q then ⟨updN f 8 (t q + 1), updN z q (a q + 1), t, b, updN (updN v q (-1)) q (f ((b q).toNat % 8)), false, 0⟩ else ⟨f, updN z q (a q + 1), t, b, updN v q (-1), false, 0⟩)
  else if a q = 8 then ⟨updN f 9 (t q + 1), z, t, b, v, true, v q⟩
  else if a q = 9 then ⟨f, updN z q (a q + 1), updN t q (f 8), b, v, false, 0⟩
  else if a q = 10 then (if f 9 ≤ t q then ⟨f, z, t, b, v, true, -1⟩ else ⟨f, updN z q (a q + 1), t, b, v, false, 0⟩)
  else if a q = 11 then ⟨f, updN z q (a q + 1), t, b, updN v q (f ((t q).toNat % 8)), false, 0⟩
  else if a q = 12 then (if f 8 ≠ t q then ⟨f, z, t, b, v, true, -2⟩ else ⟨updN f 8 (t q + 1), z, t, b, v, true, v q⟩)
  else ⟨f, updN z q (a q + 1), t, b, v, false, 0⟩
theorem u98 {f : Nat → Int} {v : Int} : f 8 = updN f 9 v 8 := (updN_ne (by decide)).symm
theorem u89 {f : Nat → Int} {v : Int} : f 9 = updN f 8 v 9 := (updN_ne (by decide)).symm
theorem u99 {f : Nat → Int} {v : Int} : v = updN f 9 v 9 := (updN_same _ _ _).symm
theorem u88 {f : Nat → Int} {v : Int} : v = updN f 8 v 8 := (updN_same _ _ _).symm
theorem u8m {f : Nat → Int} {v : Int} {k : Nat} (h : k < 8) : f 8 = updN f k v 8 := (updN_ne (by omega)).symm
theorem u9m {f : Nat → Int} {v : Int} {k : Nat} (h : k < 8) : f 9 = updN f k v 9 := (updN_ne (by omega)).symm
theorem p8 {f g : Nat → Int} (h : ∀ k, k < 8 → g k = f k) : rm 8 g = rm 8 f := by
  refine List.ext_getElem? fun k => ?_
  by_cases hk : k < 8
  · rw [rm_get _ hk, rm_get _ hk, h k hk]
  · rw [List.getElem?_eq_none (by rw [rm_len]; omega), List.getElem?_eq_none (by rw [rm_len]; omega)]
theorem tmod8 {i : Int} (h : 0 ≤ i) : Int.tmod i 8 = ((i.toNat % 8 : Nat) : Int) := by
  obtain ⟨m, rfl⟩ : ∃ m : Nat, i = (m : Int) := ⟨i.toNat, by omega⟩
  rfl
set_option maxHeartbeats 8000000 in
theorem ref_dstep_c {n q : Nat} {P A T B V : SV} {f a t b v : Nat → Int} {own : List Ent} {ro : Addr → Option Value} {post : Value → H → Prop} (hr : DqR ro n P A T B V f a t b v) (hn : n ≤ 4) (hq : q < n) (a0 : a q ≠ 0) (a12 : 0 ≤ a q ∧ a q ≤ 12)
    (hf : ∀ k, -1000000 ≤ f k ∧ f k ≤ 1000000) (f80 : 0 ≤ f 8) (l2 : a q = 2 → 0 ≤ f 9) (lt : (a q = 6 ∨ a q = 7 ∨ a q = 8 ∨ a q = 11 ∨ a q = 12) → -1 ≤ t q ∧ t q ≤ 1000000) (l11 : a q = 11 → 0 ≤ t q) (l7 : a q = 7 → 0 ≤ b q)
    (hk : ∀ P' A' T' B' V' ro', (∀ a v, ro a = some v → ro' a = some v) → DqR ro' n P' A' T' B' V' (rStep f a t b v q).f (rStep f a t b v q).a (rStep f a t b v q).t (rStep f a t b v q).b (rStep f a t b v q).v →
      post (.tuple (List.toArray [.agg (List.toArray (drC P' ((rStep f a t b v q).f 8) ((rStep f a t b v q).f 9) A' T' B' V')), .bool (rStep f a t b v q).d, .int .i64 (rStep f a t b v q).g, .int .i64 0])) ⟨own, ro'⟩) :
    SemCall Tryd.prog 22 (List.toArray [.agg (List.toArray (drC P (f 8) (f 9) A T B V)), .int .i64 (q : Int)]) ⟨own, ro⟩ post := by
  refine f22_call _ _ _ _ _ _ _ _ _ post ?_
  have b8 := hf 8
  have b9 := hf 9
  have hla := hr.a.len
  rw [ints_length, rm_len] at hla
  refine new2 (n1 := 7) (n2 := 7) rfl rfl (fun r1 r3 => ?_)
  have m1 : ∀ {P : SV} {x y : Int} {A T B V : SV} {X : List Ent}, drE r1 P x y A T B V ∈ own ++ drE r1 P x y A T B V :: X := by simp
  refine rS0 (drE r1 P (f 8) (f 9) A T B V) m1 rfl rfl ⟨⟨by omega, by omega⟩, ref6_in_c ⟨_, rfl, VIf_not (fun h => absurd ⟨by omega, by omega⟩ h) (fun _ => ?_)⟩⟩
  refine rS0 (drE r1 P (f 8) (f 9) A T B V) m1 rfl rfl (rm_at hr.a hq (VIf_eq (fun z => absurd z a0) (fun _ => ?_)))
  refine rS0 (drE r1 P (f 8) (f 9) A T B V) m1 rfl rfl (ref6_upd_c hr.a (by omega) hq (fun A0 ro1 q1 hA => ⟨A0, rfl, dr_w P (f 8) (f 9) A0 T B V rfl (by decide) rfl ?_⟩))
  have hP := RdSl.up hr.p (own2 := []) (by simp) q1
  have hT := RdSl.up hr.t (own2 := []) (by simp) q1
  have hB := RdSl.up hr.b (own2 := []) (by simp) q1
  have hV := RdSl.up hr.v (own2 := []) (by simp) q1
  refine rS0 (drE r1 P (f 8) (f 9) A0 T B V) m1 rfl rfl (rm_at hT hq (rS0 (drE r1 P (f 8) (f 9) A0 T B V) m1 rfl rfl (rm_at hB hq ⟨⟨by omega, by omega⟩, ?_⟩)))
  obtain ⟨S, hS⟩ : ∃ S, S = rStep f a t b v q := ⟨_, rfl⟩
  rw [← hS] at hk
  unfold rStep at hS
  dsimp only at hS
  -- handed back
  have fin : ∀ {P' : SV} {x y : Int} {A' T' B' V' : SV} {ro2 : Addr → Option Value}, (∀ a v, ro1 a = some v → ro2 a = some v) → x = S.f 8 → y = S.f 9 → DqR ro2 n P' A' T' B' V' S.f S.a S.t S.b S.v → post (.tuple (List.toArray [.agg (List.toArray (drC P' x y A' T' B' V')), .bool S.d, .int .i64 S.g, .int .i64 0])) ⟨own, ro2⟩ := by
    rintro P' _ _ A' T' B' V' ro2 q2 rfl rfl h
    exact hk P' A' T' B' V' ro2 (fun a v h => q2 a v (q1 a v h)) h
  refine ⟨fun nx h => ∃ P' x y T' B' V' ro2, (∀ a v, ro1 a = some v → ro2 a = some v) ∧ h = ⟨own ++ [drE r1 P' x y A0 T' B' V', drE r3 ⟨none, 0, 0⟩ 0 0 ⟨none, 0, 0⟩ ⟨none, 0, 0⟩ ⟨none, 0, 0⟩ ⟨none, 0, 0⟩], ro2⟩ ∧ S.d = false ∧ S.g = 0 ∧ x = S.f 8 ∧ y = S.f 9 ∧ S.a = updN (updN a q 0) q nx ∧ RdSl ⟨[], ro2⟩ P' (ints (rm 8 S.f)) ∧ RdSl ⟨[], ro2⟩ T' (ints (rm n S.t)) ∧ RdSl ⟨[], ro2⟩ B' (ints (rm n S.b)) ∧ RdSl ⟨[], ro2⟩ V' (ints (rm n S.v)), ?_, ?_⟩
  rotate_left
  · rintro _ nx _ ⟨P', x, y, T', B', V', ro2, q2, rfl, sd, sg, hx, hy, sa, hp', ht', hb', hv'⟩
    refine rS0 (drE r1 P' x y A0 T' B' V') m1 rfl rfl (ref6_upd_c (RdSl.up hA (by simp) q2) (by omega) hq (fun A' ro3 q3 ha => ⟨A', rfl, dr_w P' x y A' T' B' V' rfl (by decide) rfl ?_⟩))
    refine dr_fin (own := own) (Y := []) (r1 := r1) (r3 := r3) (a0 := P') (a1 := x) (a2 := y) (a3 := A') (a4 := T') (a5 := B') (a6 := V') (z0 := ⟨none, 0, 0⟩) (z1 := 0) (z2 := 0) (z3 := ⟨none, 0, 0⟩) (z4 := ⟨none, 0, 0⟩) (z5 := ⟨none, 0, 0⟩) (z6 := ⟨none, 0, 0⟩) ?_
    have := fin (fun a v h => q3 a v (q2 a v h)) hx hy (⟨RdSl.up hp' (by simp) q3, by rw [sa]; exact ha, RdSl.up ht' (by simp) q3, RdSl.up hb' (by simp) q3, RdSl.up hv' (by simp) q3⟩ : DqR ro3 n P' A' T' B' V' S.f S.a S.t S.b S.v)
    rw [sd, sg] at this
    exact this
  have id1 : ∀ a v, ro1 a = some v → ro1 a = some v := fun _ _ h => h
  refine VIf_eq (fun a1 => ?_) (fun a1 => VIf_eq (fun a2 => ?_) (fun a2 => VIf_eq (fun a3 => ?_) (fun a3 => VIf_eq (fun a4 => ?_) (fun a4 => VIf_eq (fun a5 => ?_) (fun a5 => VIf_eq (fun a6 => ?_) (fun a6 => VIf_eq (fun a7 => ?_) (fun a7 => VIf_eq (fun a8 => ?_) (fun a8 => VIf_eq (fun a9 => ?_) (fun a9 => VIf_eq (fun a10 => ?_) (fun a10 => VIf_eq (fun a11 => ?_) (fun a11 => VIf_eq (fun a12 => ?_) (fun a12 => ?_))))))))))))
  · rw [if_pos a1] at hS
    refine rI0 (drE r1 P (f 8) (f 9) A0 T B V) m1 rfl rfl (rI0 (drE r1 P (f 8) (f 9) A0 T B V) m1 rfl rfl ⟨⟨by omega, by omega⟩, VIf_dec (fun c => dr_fin (own := own) (Y := []) (r1 := r1) (r3 := r3) (a0 := P) (a1 := f 8) (a2 := f 9) (a3 := A0) (a4 := T) (a5 := B) (a6 := V) (z0 := ⟨none, 0, 0⟩) (z1 := 0) (z2 := 0) (z3 := ⟨none, 0, 0⟩) (z4 := ⟨none, 0, 0⟩) (z5 := ⟨none, 0, 0⟩) (z6 := ⟨none, 0, 0⟩) ?_) (fun c => gi ?_)⟩)
    · rw [if_pos c] at hS; subst hS; exact fin id1 rfl rfl ⟨hP, hA, hT, hB, hV⟩
    · rw [if_neg c] at hS; subst hS; exact ⟨P, _, _, T, B, V, ro1, id1, rfl, rfl, rfl, rfl, rfl, rfl, hP, hT, hB, hV⟩
  · rw [if_neg a1, if_pos a2] at hS
    have f9 := l2 a2
    refine rS0 (drE r1 P (f 8) (f 9) A0 T B V) m1 rfl rfl (rI0 (drE r1 P (f 8) (f 9) A0 T B V) m1 rfl rfl ⟨by decide, rS0 (drE r1 P (f 8) (f 9) A0 T B V) m1 rfl rfl (rm_at hV hq ?_)⟩)
    rw [tmod8 f9]
    refine ref6_upd_c hP (by omega) (by omega) (fun P' ro2 q2 hp' => ⟨P', rfl, dr_w P' (f 8) (f 9) A0 T B V rfl (by decide) rfl (gi ?_)⟩)
    subst hS
    exact ⟨P', f 8, f 9, T, B, V, ro2, q2, rfl, rfl, rfl, (by (try dsimp only); first | exact u98 | exact u89 | exact u99 | exact u88 | exact u8m (by omega) | exact u9m (by omega)), (by (try dsimp only); first | exact u98 | exact u89 | exact u99 | exact u88 | exact u8m (by omega) | exact u9m (by omega)), rfl, hp', RdSl.up hT (by simp) q2, RdSl.up hB (by simp) q2, RdSl.up hV (by simp) q2⟩
  · rw [if_neg a1, if_neg a2, if_pos a3] at hS
    refine rI0 (drE r1 P (f 8) (f 9) A0 T B V) m1 rfl rfl ⟨⟨by omega, by omega⟩, dr_w P (f 8) (f 9 + 1) A0 T B V rfl (by decide) rfl (dr_fin (own := own) (Y := []) (r1 := r1) (r3 := r3) (a0 := P) (a1 := f 8) (a2 := f 9 + 1) (a3 := A0) (a4 := T) (a5 := B) (a6 := V) (z0 := ⟨none, 0, 0⟩) (z1 := 0) (z2 := 0) (z3 := ⟨none, 0, 0⟩) (z4 := ⟨none, 0, 0⟩) (z5 := ⟨none, 0, 0⟩) (z6 := ⟨none, 0, 0⟩) ?_)⟩
    subst hS
    exact fin (P' := P) (A' := A0) (T' := T) (B' := B) (V' := V) id1 (x := f 8) (y := f 9 + 1) (by (try dsimp only); first | exact u98 | exact u89 | exact u99 | exact u88 | exact u8m (by omega) | exact u9m (by omega)) (by (try dsimp only); first | exact u98 | exact u89 | exact u99 | exact u88 | exact u8m (by omega) | exact u9m (by omega)) ⟨by rw [p8 (fun k hk => updN_ne (by omega))]; exact hP, hA, hT, hB, hV⟩
  · rw [if_neg a1, if_neg a2, if_neg a3, if_pos a4] at hS
    refine rI0 (drE r1 P (f 8) (f 9) A0 T B V) m1 rfl rfl ⟨⟨by omega, by omega⟩, dr_w P (f 8) (f 9 - 1) A0 T B V rfl (by decide) rfl ?_⟩
    refine rS0 (drE r1 P (f 8) (f 9 - 1) A0 T B V) m1 rfl rfl (rI0 (drE r1 P (f 8) (f 9 - 1) A0 T B V) m1 rfl rfl (ref6_upd_c hB (by omega) hq (fun B' ro2 q2 hb' => ⟨B', rfl, dr_w P (f 8) (f 9 - 1) A0 T B' V rfl (by decide) rfl (gi ?_)⟩)))
    subst hS
    exact ⟨P, f 8, f 9 - 1, T, B', V, ro2, q2, rfl, rfl, rfl, (by (try dsimp only); first | exact u98 | exact u89 | exact u99 | exact u88 | exact u8m (by omega) | exact u9m (by omega)), (by (try dsimp only); first | exact u98 | exact u89 | exact u99 | exact u88 | exact u8m (by omega) | exact u9m (by omega)), rfl, by rw [p8 (fun k hk => updN_ne (by omega))]; exact RdSl.up hP (by simp) q2, RdSl.up hT (by simp) q2, hb', RdSl.up hV (by simp) q2⟩
  · rw [if_neg a1, if_neg a2, if_neg a3, if_neg a4, if_pos a5] at hS
    refine rS0 (drE r1 P (f 8) (f 9) A0 T B V) m1 rfl rfl (rI0 (drE r1 P (f 8) (f 9) A0 T B V) m1 rfl rfl (ref6_upd_c hT (by omega) hq (fun T' ro2 q2 ht' => ⟨T', rfl, dr_w P (f 8) (f 9) A0 T' B V rfl (by decide) rfl ?_⟩)))
    have hP2 := RdSl.up hP (own2 := []) (by simp) q2
    have hD2 : ∀ {S' : RD}, S'.f = f → S'.a = updN a q 0 → S'.t = updN t q (f 8) → S'.b = b → S'.v = v → DqR ro2 n P A0 T' B V S'.f S'.a S'.t S'.b S'.v := by
      intro S' e1 e2 e3 e4 e5
      rw [e1, e2, e3, e4, e5]
      exact ⟨hP2, RdSl.up hA (by simp) q2, ht', RdSl.up hB (by simp) q2, RdSl.up hV (by simp) q2⟩
    refine rI0 (drE r1 P (f 8) (f 9) A0 T' B V) m1 rfl rfl (VIf_dec (fun c => ?_) (fun c => rI0 (drE r1 P (f 8) (f 9) A0 T' B V) m1 rfl rfl (VIf_eq (fun c2 => gi ?_) (fun c2 => gi ?_))))
    · rw [if_pos c] at hS
      have i0 : 0 ≤ b q := by omega
      have im : ((b q).toNat % 8 : Nat) < 8 := Nat.mod_lt _ (by omega)
      have lP := hP2.len
      rw [ints_length, rm_len] at lP
      obtain ⟨bP, xP, hbP, hxP, _⟩ := RdSl.at (h := ⟨[], ro2⟩) hP2 (i := (((b q).toNat % 8 : Nat) : Int)) (by omega) (by omega)
      rw [Int.toNat_natCast, rm_get _ im] at hxP
      have rP : ∀ {own : List Ent}, H.rd ⟨own, ro2⟩ (Addr.add (Addr.add bP (((((b q).toNat % 8 : Nat) : Int)).toNat * 1)) 0) (Value.int .i64 (f ((b q).toNat % 8))) := by
        intro own
        obtain ⟨b', x', hb', hx', hrd⟩ := RdSl.at (h := ⟨own, ro2⟩) hP2.ro (i := (((b q).toNat % 8 : Nat) : Int)) (by omega) (by omega)
        rw [hbP] at hb'; cases hb'
        rw [Int.toNat_natCast, rm_get _ im] at hx'
        cases hx'; exact hrd
      rw [tmod8 i0]
      refine ⟨fun d g e h => d = true ∧ g = f ((b q).toNat % 8) ∧ e = 0 ∧ h = ⟨own ++ [drE r1 P (f 8) (f 9) A0 T' B V] ++ [drE r3 P (f 8) (f 9) A0 T' B V], ro2⟩, ⟨by decide, ?_⟩, ?_⟩
      · repeat' first
          | exact gi ⟨rfl, rfl, rfl, by simp⟩
          | refine dr_get (a0 := P) (a1 := f 8) (a2 := f 9) (a3 := A0) (a4 := T') (a5 := B) (a6 := V) (by simp) ?_
          | refine rS0 (drE r1 P (f 8) (f 9) A0 T' B V) (by simp) rfl rfl ⟨bP, hbP, by omega, by omega, ?_⟩
          | refine ⟨f ((b q).toNat % 8), rP, ?_⟩
          | refine dr_put (a0 := P) (a1 := f 8) (a2 := f 9) (a3 := A0) (a4 := T') (a5 := B) (a6 := V) (z0 := ⟨none, 0, 0⟩) (z1 := 0) (z2 := 0) (z3 := ⟨none, 0, 0⟩) (z4 := ⟨none, 0, 0⟩) (z5 := ⟨none, 0, 0⟩) (z6 := ⟨none, 0, 0⟩) (own ++ [drE r1 P (f 8) (f 9) A0 T' B V]) [] (by simp; rfl) ?_
          | refine ⟨?_, ?_⟩
      rintro _ d g e _ ⟨rfl, rfl, rfl, rfl⟩
      refine dr_get (a0 := P) (a1 := f 8) (a2 := f 9) (a3 := A0) (a4 := T') (a5 := B) (a6 := V) (by simp) ?_
      subst hS
      exact ⟨⟨own, ro2⟩, Gh.drop (by simp), fin q2 rfl rfl (hD2 rfl rfl rfl rfl rfl)⟩
    · rw [if_neg c, if_pos c2] at hS; subst hS
      exact ⟨P, _, _, T', B, V, ro2, q2, rfl, rfl, rfl, rfl, rfl, rfl, hP2, ht', RdSl.up hB (by simp) q2, RdSl.up hV (by simp) q2⟩
    · rw [if_neg c, if_neg c2] at hS; subst hS
      exact ⟨P, _, _, T', B, V, ro2, q2, rfl, rfl, rfl, rfl, rfl, rfl, hP2, ht', RdSl.up hB (by simp) q2, RdSl.up hV (by simp) q2⟩
  · rw [if_neg a1, if_neg a2, if_neg a3, if_neg a4, if_neg a5, if_pos a6] at hS
    refine dr_w P (f 8) (t q) A0 T B V rfl (by decide) rfl (dr_fin (own := own) (Y := []) (r1 := r1) (r3 := r3) (a0 := P) (a1 := f 8) (a2 := t q) (a3 := A0) (a4 := T) (a5 := B) (a6 := V) (z0 := ⟨none, 0, 0⟩) (z1 := 0) (z2 := 0) (z3 := ⟨none, 0, 0⟩) (z4 := ⟨none, 0, 0⟩) (z5 := ⟨none, 0, 0⟩) (z6 := ⟨none, 0, 0⟩) ?_)
    subst hS
    exact fin (P' := P) (A' := A0) (T' := T) (B' := B) (V' := V) id1 (x := f 8) (y := t q) (by (try dsimp only); first | exact u98 | exact u89 | exact u99 | exact u88 | exact u8m (by omega) | exact u9m (by omega)) (by (try dsimp only); first | exact u98 | exact u89 | exact u99 | exact u88 | exact u8m (by omega) | exact u9m (by omega)) ⟨by rw [p8 (fun k hk => updN_ne (by omega))]; exact hP, hA, hT, hB, hV⟩
  · rw [if_neg a1, if_neg a2, if_neg a3, if_neg a4, if_neg a5, if_neg a6, if_pos a7] at hS
    have i0 := l7 a7
    have ht7 := lt (by omega)
    refine rS0 (drE r1 P (f 8) (f 9) A0 T B V) m1 rfl rfl (ref6_upd_c hV (by omega) hq (fun V' ro2 q2 hv' => ⟨V', rfl, dr_w P (f 8) (f 9) A0 T B V' rfl (by decide) rfl ?_⟩))
    have hP2 := RdSl.up hP (own2 := []) (by simp) q2
    refine rI0 (drE r1 P (f 8) (f 9) A0 T B V') m1 rfl rfl (VIf_eq (fun c => ?_) (fun c => gi ?_))
    · rw [if_pos c] at hS
      refine ⟨⟨by omega, by omega⟩, dr_w P (t q + 1) (f 9) A0 T B V' rfl (by decide) rfl ?_⟩
      refine rS0 (drE r1 P (t q + 1) (f 9) A0 T B V') m1 rfl rfl (rS0 (drE r1 P (t q + 1) (f 9) A0 T B V') m1 rfl rfl ⟨by decide, ?_⟩)
      rw [tmod8 i0]
      refine rm_at hP2 (Nat.mod_lt _ (by omega)) (ref6_upd_c hv' (by omega) hq (fun V2 ro3 q3 hv2 => ⟨V2, rfl, dr_w P (t q + 1) (f 9) A0 T B V2 rfl (by decide) rfl (gi ?_)⟩))
      subst hS
      exact ⟨P, t q + 1, f 9, T, B, V2, ro3, fun a v h => q3 a v (q2 a v h), rfl, rfl, rfl, (by (try dsimp only); first | exact u98 | exact u89 | exact u99 | exact u88 | exact u8m (by omega) | exact u9m (by omega)), (by (try dsimp only); first | exact u98 | exact u89 | exact u99 | exact u88 | exact u8m (by omega) | exact u9m (by omega)), rfl, by rw [p8 (fun k hk => updN_ne (by omega))]; exact RdSl.up hP2 (by simp) q3, RdSl.up hT (by simp) (fun a v h => q3 a v (q2 a v h)), RdSl.up hB (by simp) (fun a v h => q3 a v (q2 a v h)), hv2⟩
    · rw [if_neg c] at hS; subst hS
      exact ⟨P, _, _, T, B, V', ro2, q2, rfl, rfl, rfl, rfl, rfl, rfl, hP2, RdSl.up hT (by simp) q2, RdSl.up hB (by simp) q2, hv'⟩
  · rw [if_neg a1, if_neg a2, if_neg a3, if_neg a4, if_neg a5, if_neg a6, if_neg a7, if_pos a8] at hS
    have ht8 := lt (by omega)
    refine ⟨⟨by omega, by omega⟩, dr_w P (f 8) (t q + 1) A0 T B V rfl (by decide) rfl ?_⟩
    have lV := hV.len
    rw [ints_length, rm_len] at lV
    obtain ⟨bV, xV, hbV, hxV, _⟩ := RdSl.at (h := ⟨[], ro1⟩) hV (i := (q : Int)) (by omega) (by omega)
    have rV : ∀ {own : List Ent}, H.rd ⟨own, ro1⟩ (Addr.add (Addr.add bV (((q : Int)).toNat * 1)) 0) (Value.int .i64 (v q)) := by
      intro own
      obtain ⟨b', x', hb', hx', hrd⟩ := RdSl.at (h := ⟨own, ro1⟩) hV.ro (i := (q : Int)) (by omega) (by omega)
      rw [hbV] at hb'; cases hb'
      rw [Int.toNat_natCast, rm_get _ hq] at hx'
      cases hx'; exact hrd
    subst hS
    have hend := fin (P' := P) (A' := A0) (T' := T) (B' := B) (V' := V) id1 (x := f 8) (y := t q + 1) (by (try dsimp only); first | exact u98 | exact u89 | exact u99 | exact u88 | exact u8m (by omega) | exact u9m (by omega)) (by (try dsimp only); first | exact u98 | exact u89 | exact u99 | exact u88 | exact u8m (by omega) | exact u9m (by omega)) ⟨by rw [p8 (fun k hk => updN_ne (by omega))]; exact hP, hA, hT, hB, hV⟩
    repeat' first
      | exact ⟨⟨own, ro1⟩, Gh.drop (by simp), hend⟩
      | refine dr_get (r := r1) (a0 := P) (a1 := f 8) (a2 := t q + 1) (a3 := A0) (a4 := T) (a5 := B) (a6 := V) (by simp) ?_
      | refine dr_get (r := r3) (a0 := P) (a1 := f 8) (a2 := t q + 1) (a3 := A0) (a4 := T) (a5 := B) (a6 := V) (by simp) ?_
      | refine rS0 (drE r1 P (f 8) (t q + 1) A0 T B V) (by simp) rfl rfl ⟨bV, hbV, by omega, by omega, ?_⟩
      | refine ⟨v q, rV, ?_⟩
      | refine dr_put (a0 := P) (a1 := f 8) (a2 := t q + 1) (a3 := A0) (a4 := T) (a5 := B) (a6 := V) (z0 := ⟨none, 0, 0⟩) (z1 := 0) (z2 := 0) (z3 := ⟨none, 0, 0⟩) (z4 := ⟨none, 0, 0⟩) (z5 := ⟨none, 0, 0⟩) (z6 := ⟨none, 0, 0⟩) (own ++ [drE r1 P (f 8) (t q + 1) A0 T B V]) [] (by simp; rfl) ?_
      | refine ⟨?_, ?_⟩
  · rw [if_neg a1, if_neg a2, if_neg a3, if_neg a4, if_neg a5, if_neg a6, if_neg a7, if_neg a8, if_pos a9] at hS
    refine rS0 (drE r1 P (f 8) (f 9) A0 T B V) m1 rfl rfl (rI0 (drE r1 P (f 8) (f 9) A0 T B V) m1 rfl rfl (ref6_upd_c hT (by omega) hq (fun T' ro2 q2 ht' => ⟨T', rfl, dr_w P (f 8) (f 9) A0 T' B V rfl (by decide) rfl (gi ?_)⟩)))
    subst hS
    exact ⟨P, _, _, T', B, V, ro2, q2, rfl, rfl, rfl, rfl, rfl, rfl, RdSl.up hP (by simp) q2, ht', RdSl.up hB (by simp) q2, RdSl.up hV (by simp) q2⟩
  · rw [if_neg a1, if_neg a2, if_neg a3, if_neg a4, if_neg a5, if_neg a6, if_neg a7, if_neg a8, if_neg a9, if_pos a10] at hS
    refine rI0 (drE r1 P (f 8) (f 9) A0 T B V) m1 rfl rfl (VIf_dec (fun c => dr_fin (own := own) (Y := []) (r1 := r1) (r3 := r3) (a0 := P) (a1 := f 8) (a2 := f 9) (a3 := A0) (a4 := T) (a5 := B) (a6 := V) (z0 := ⟨none, 0, 0⟩) (z1 := 0) (z2 := 0) (z3 := ⟨none, 0, 0⟩) (z4 := ⟨none, 0, 0⟩) (z5 := ⟨none, 0, 0⟩) (z6 := ⟨none, 0, 0⟩) ?_) (fun c => gi ?_))
    · rw [if_pos c] at hS; subst hS; exact fin id1 rfl rfl ⟨hP, hA, hT, hB, hV⟩
    · rw [if_neg c] at hS; subst hS; exact ⟨P, _, _, T, B, V, ro1, id1, rfl, rfl, rfl, rfl, rfl, rfl, hP, hT, hB, hV⟩
  · rw [if_neg a1, if_neg a2, if_neg a3, if_neg a4, if_neg a5, if_neg a6, if_neg a7, if_neg a8, if_neg a9, if_neg a10, if_pos a11] at hS
    have ht11 := lt (by omega)
    refine rS0 (drE r1 P (f 8) (f 9) A0 T B V) m1 rfl rfl (rS0 (drE r1 P (f 8) (f 9) A0 T B V) m1 rfl rfl ⟨by decide, ?_⟩)
    rw [tmod8 (l11 a11)]
    refine rm_at hP (Nat.mod_lt _ (by omega)) (ref6_upd_c hV (by omega) hq (fun V' ro2 q2 hv' => ⟨V', rfl, dr_w P (f 8) (f 9) A0 T B V' rfl (by decide) rfl (gi ?_)⟩))
    subst hS
    exact ⟨P, _, _, T, B, V', ro2, q2, rfl, rfl, rfl, rfl, rfl, rfl, RdSl.up hP (by simp) q2, RdSl.up hT (by simp) q2, RdSl.up hB (by simp) q2, hv'⟩
  · rw [if_neg a1, if_neg a2, if_neg a3, if_neg a4, if_neg a5, if_neg a6, if_neg a7, if_neg a8, if_neg a9, if_neg a10, if_neg a11, if_pos a12] at hS
    have ht12 := lt (by omega)
    refine rI0 (drE r1 P (f 8) (f 9) A0 T B V) m1 rfl rfl (VIf_ne (fun c => dr_fin (own := own) (Y := []) (r1 := r1) (r3 := r3) (a0 := P) (a1 := f 8) (a2 := f 9) (a3 := A0) (a4 := T) (a5 := B) (a6 := V) (z0 := ⟨none, 0, 0⟩) (z1 := 0) (z2 := 0) (z3 := ⟨none, 0, 0⟩) (z4 := ⟨none, 0, 0⟩) (z5 := ⟨none, 0, 0⟩) (z6 := ⟨none, 0, 0⟩) ?_) (fun c => ?_))
    · rw [if_pos c] at hS; subst hS; exact fin id1 rfl rfl ⟨hP, hA, hT, hB, hV⟩
    rw [if_neg (not_not_intro c)] at hS
    refine ⟨⟨by omega, by omega⟩, dr_w P (t q + 1) (f 9) A0 T B V rfl (by decide) rfl ?_⟩
    have lV := hV.len
    rw [ints_length, rm_len] at lV
    obtain ⟨bV, xV, hbV, hxV, _⟩ := RdSl.at (h := ⟨[], ro1⟩) hV (i := (q : Int)) (by omega) (by omega)
    have rV : ∀ {own : List Ent}, H.rd ⟨own, ro1⟩ (Addr.add (Addr.add bV (((q : Int)).toNat * 1)) 0) (Value.int .i64 (v q)) := by
      intro own
      obtain ⟨b', x', hb', hx', hrd⟩ := RdSl.at (h := ⟨own, ro1⟩) hV.ro (i := (q : Int)) (by omega) (by omega)
      rw [hbV] at hb'; cases hb'
      rw [Int.toNat_natCast, rm_get _ hq] at hx'
      cases hx'; exact hrd
    subst hS
    have hend := fin (P' := P) (A' := A0) (T' := T) (B' := B) (V' := V) id1 (x := t q + 1) (y := f 9) (by (try dsimp only); first | exact u98 | exact u89 | exact u99 | exact u88 | exact u8m (by omega) | exact u9m (by omega)) (by (try dsimp only); first | exact u98 | exact u89 | exact u99 | exact u88 | exact u8m (by omega) | exact u9m (by omega)) ⟨by rw [p8 (fun k hk => updN_ne (by omega))]; exact hP, hA, hT, hB, hV⟩
    repeat' first
      | exact ⟨⟨own, ro1⟩, Gh.drop (by simp), hend⟩
      | refine dr_get (r := r1) (a0 := P) (a1 := t q + 1) (a2 := f 9) (a3 := A0) (a4 := T) (a5 := B) (a6 := V) (by simp) ?_
      | refine dr_get (r := r3) (a0 := P) (a1 := t q + 1) (a2 := f 9) (a3 := A0) (a4 := T) (a5 := B) (a6 := V) (by simp) ?_
      | refine rS0 (drE r1 P (t q + 1) (f 9) A0 T B V) (by simp) rfl rfl ⟨bV, hbV, by omega, by omega, ?_⟩
      | refine ⟨v q, rV, ?_⟩
      | refine dr_put (a0 := P) (a1 := t q + 1) (a2 := f 9) (a3 := A0) (a4 := T) (a5 := B) (a6 := V) (z0 := ⟨none, 0, 0⟩) (z1 := 0) (z2 := 0) (z3 := ⟨none, 0, 0⟩) (z4 := ⟨none, 0, 0⟩) (z5 := ⟨none, 0, 0⟩) (z6 := ⟨none, 0, 0⟩) (own ++ [drE r1 P (t q + 1) (f 9) A0 T B V]) [] (by simp; rfl) ?_
      | refine ⟨?_, ?_⟩
  · omega
end Go.Proofs.YtiaopgnnibidlaaDoor
