import Derived.Test.YtogbkgimpkaemaaDoorFl
import Derived.Test.YtogbkgimpkaemaaDoorTw
namespace Go.Proofs.YtogbkgimpkaemaaDoor
open Go.Eng
set_option maxRecDepth 20000
/-! ### the struct latchgarthref3.Fifo, boxed -/
def ffC (a0 : Int) (a1 : Int) (a2 : SV) (a3 : SV) (a4 : SV) (a5 : SV) (a6 : SV) (a7 : SV) (a8 : SV) : List Value := [.int .i64 a0, .int .i64 a1, .slice a2.a a2.len a2.cap, .slice a3.a a3.len a3.cap, .slice a4.a a4.len a4.cap, .slice a5.a a5.len a5.cap, .slice a6.a a6.len a6.cap, .slice a7.a a7.len a7.cap, .slice a8.a a8.len a8.cap]
def ffE (r : Nat) (a0 : Int) (a1 : Int) (a2 : SV) (a3 : SV) (a4 : SV) (a5 : SV) (a6 : SV) (a7 : SV) (a8 : SV) : Ent := ⟨some r, ffC a0 a1 a2 a3 a4 a5 a6 a7 a8, 9⟩
theorem ff_one {a0 : Int} {a1 : Int} {a2 : SV} {a3 : SV} {a4 : SV} {a5 : SV} {a6 : SV} {a7 : SV} {a8 : SV} : allOne (ffC a0 a1 a2 a3 a4 a5 a6 a7 a8) := ⟨rfl, rfl, rfl, rfl, rfl, rfl, rfl, rfl, rfl, trivial⟩
theorem ff_get {h : H} {r : Nat} {a0 : Int} {a1 : Int} {a2 : SV} {a3 : SV} {a4 : SV} {a5 : SV} {a6 : SV} {a7 : SV} {a8 : SV} {K : Int → Int → SV → SV → SV → SV → SV → SV → SV → Prop} (he : ffE r a0 a1 a2 a3 a4 a5 a6 a7 a8 ∈ h.own) (hK : K a0 a1 a2 a3 a4 a5 a6 a7 a8) :
    ∃ x0 : Int, H.rd h (Addr.add (Addr.mk r 0 none) 0) (.int .i64 x0) ∧ ∃ x1 : Int, H.rd h (Addr.add (Addr.mk r 0 none) 1) (.int .i64 x1) ∧ ∃ x2 : SV, H.rd h (Addr.add (Addr.mk r 0 none) 2) (.slice x2.a x2.len x2.cap) ∧ ∃ x3 : SV, H.rd h (Addr.add (Addr.mk r 0 none) 3) (.slice x3.a x3.len x3.cap) ∧ ∃ x4 : SV, H.rd h (Addr.add (Addr.mk r 0 none) 4) (.slice x4.a x4.len x4.cap) ∧ ∃ x5 : SV, H.rd h (Addr.add (Addr.mk r 0 none) 5) (.slice x5.a x5.len x5.cap) ∧ ∃ x6 : SV, H.rd h (Addr.add (Addr.mk r 0 none) 6) (.slice x6.a x6.len x6.cap) ∧ ∃ x7 : SV, H.rd h (Addr.add (Addr.mk r 0 none) 7) (.slice x7.a x7.len x7.cap) ∧ ∃ x8 : SV, H.rd h (Addr.add (Addr.mk r 0 none) 8) (.slice x8.a x8.len x8.cap) ∧ K x0 x1 x2 x3 x4 x5 x6 x7 x8 :=
  rI _ he rfl rfl (rI _ he rfl rfl (rS _ he rfl rfl (rS _ he rfl rfl (rS _ he rfl rfl (rS _ he rfl rfl (rS _ he rfl rfl (rS _ he rfl rfl (rS _ he rfl rfl (hK)))))))))
theorem ff_put {own : List Ent} {ro : Addr → Option Value} {r : Nat} {a0 : Int} {a1 : Int} {a2 : SV} {a3 : SV} {a4 : SV} {a5 : SV} {a6 : SV} {a7 : SV} {a8 : SV} {z0 : Int} {z1 : Int} {z2 : SV} {z3 : SV} {z4 : SV} {z5 : SV} {z6 : SV} {z7 : SV} {z8 : SV} {K : H → Prop} (A C : List Ent) (hown : own = A ++ ffE r z0 z1 z2 z3 z4 z5 z6 z7 z8 :: C) (hK : K ⟨A ++ ffE r a0 a1 a2 a3 a4 a5 a6 a7 a8 :: C, ro⟩) :
    (ffC a0 a1 a2 a3 a4 a5 a6 a7 a8).length = 9 ∧ (Program.underlying Tryd.prog 50).isSome = true ∧ H.wr ⟨own, ro⟩ (Addr.mk r 0 none) (ffC a0 a1 a2 a3 a4 a5 a6 a7 a8) K :=
  ⟨rfl, rfl, wro A (ffE r z0 z1 z2 z3 z4 z5 z6 z7 z8) C ff_one hown rfl (Nat.le_refl _) hK⟩
theorem ff_fin {own Y : List Ent} {ro : Addr → Option Value} {r1 r3 : Nat} {a0 : Int} {a1 : Int} {a2 : SV} {a3 : SV} {a4 : SV} {a5 : SV} {a6 : SV} {a7 : SV} {a8 : SV} {z0 : Int} {z1 : Int} {z2 : SV} {z3 : SV} {z4 : SV} {z5 : SV} {z6 : SV} {z7 : SV} {z8 : SV} {Q : Int → Int → SV → SV → SV → SV → SV → SV → SV → Value} {post : Value → H → Prop} (hp : post (Q a0 a1 a2 a3 a4 a5 a6 a7 a8) ⟨own, ro⟩) :
    ∃ x0 : Int, H.rd ⟨own ++ ffE r1 a0 a1 a2 a3 a4 a5 a6 a7 a8 :: ffE r3 z0 z1 z2 z3 z4 z5 z6 z7 z8 :: Y, ro⟩ (Addr.add (Addr.mk r1 0 none) 0) (.int .i64 x0) ∧ ∃ x1 : Int, H.rd ⟨own ++ ffE r1 a0 a1 a2 a3 a4 a5 a6 a7 a8 :: ffE r3 z0 z1 z2 z3 z4 z5 z6 z7 z8 :: Y, ro⟩ (Addr.add (Addr.mk r1 0 none) 1) (.int .i64 x1) ∧ ∃ x2 : SV, H.rd ⟨own ++ ffE r1 a0 a1 a2 a3 a4 a5 a6 a7 a8 :: ffE r3 z0 z1 z2 z3 z4 z5 z6 z7 z8 :: Y, ro⟩ (Addr.add (Addr.mk r1 0 none) 2) (.slice x2.a x2.len x2.cap) ∧ ∃ x3 : SV, H.rd ⟨own ++ ffE r1 a0 a1 a2 a3 a4 a5 a6 a7 a8 :: ffE r3 z0 z1 z2 z3 z4 z5 z6 z7 z8 :: Y, ro⟩ (Addr.add (Addr.mk r1 0 none) 3) (.slice x3.a x3.len x3.cap) ∧ ∃ x4 : SV, H.rd ⟨own ++ ffE r1 a0 a1 a2 a3 a4 a5 a6 a7 a8 :: ffE r3 z0 z1 z2 z3 z4 z5 z6 z7 z8 :: Y, ro⟩ (Addr.add (Addr.mk r1 0 none) 4) (.slice x4.a x4.len x4.cap) ∧ ∃ x5 : SV, H.rd ⟨own ++ ffE r1 a0 a1 a2 a3 a4 a5 a6 a7 a8 :: ffE r3 z0 z1 z2 z3 z4 z5 z6 z7 z8 :: Y, ro⟩ (Addr.add (Addr.mk r1 0 none) 5) (.slice x5.a x5.len x5.cap) ∧ ∃ x6 : SV, H.rd ⟨own ++ ffE r1 a0 a1 a2 a3 a4 a5 a6 a7 a8 :: ffE r3 z0 z1 z2 z3 z4 z5 z6 z7 z8 :: Y, ro⟩ (Addr.add (Addr.mk r1 0 none) 6) (.slice x6.a x6.len x6.cap) ∧ ∃ x7 : SV, H.rd ⟨own ++ ffE r1 a0 a1 a2 a3 a4 a5 a6 a7 a8 :: ffE r3 z0 z1 z2 z3 z4 z5 z6 z7 z8 :: Y, ro⟩ (Addr.add (Addr.mk r1 0 none) 7) (.slice x7.a x7.len x7.cap) ∧ ∃ x8 : SV, H.rd ⟨own ++ ffE r1 a0 a1 a2 a3 a4 a5 a6 a7 a8 :: ffE r3 z0 z1 z2 z3 z4 z5 z6 z7 z8 :: Y, ro⟩ (Addr.add (Addr.mk r1 0 none) 8) (.slice x8.a x8.len x8.cap) ∧ 
    (ffC x0 x1 x2 x3 x4 x5 x6 x7 x8).length = 9 ∧ (Program.underlying Tryd.prog 50).isSome = true ∧ H.wr ⟨own ++ ffE r1 a0 a1 a2 a3 a4 a5 a6 a7 a8 :: ffE r3 z0 z1 z2 z3 z4 z5 z6 z7 z8 :: Y, ro⟩ (Addr.mk r3 0 none) (ffC x0 x1 x2 x3 x4 x5 x6 x7 x8) fun h =>
    ∃ y0 : Int, H.rd h (Addr.add (Addr.mk r3 0 none) 0) (.int .i64 y0) ∧ ∃ y1 : Int, H.rd h (Addr.add (Addr.mk r3 0 none) 1) (.int .i64 y1) ∧ ∃ y2 : SV, H.rd h (Addr.add (Addr.mk r3 0 none) 2) (.slice y2.a y2.len y2.cap) ∧ ∃ y3 : SV, H.rd h (Addr.add (Addr.mk r3 0 none) 3) (.slice y3.a y3.len y3.cap) ∧ ∃ y4 : SV, H.rd h (Addr.add (Addr.mk r3 0 none) 4) (.slice y4.a y4.len y4.cap) ∧ ∃ y5 : SV, H.rd h (Addr.add (Addr.mk r3 0 none) 5) (.slice y5.a y5.len y5.cap) ∧ ∃ y6 : SV, H.rd h (Addr.add (Addr.mk r3 0 none) 6) (.slice y6.a y6.len y6.cap) ∧ ∃ y7 : SV, H.rd h (Addr.add (Addr.mk r3 0 none) 7) (.slice y7.a y7.len y7.cap) ∧ ∃ y8 : SV, H.rd h (Addr.add (Addr.mk r3 0 none) 8) (.slice y8.a y8.len y8.cap) ∧ VRet h (Q y0 y1 y2 y3 y4 y5 y6 y7 y8) post :=
  ff_get (a0 := a0) (a1 := a1) (a2 := a2) (a3 := a3) (a4 := a4) (a5 := a5) (a6 := a6) (a7 := a7) (a8 := a8) (by simp) (ff_put (z0 := z0) (z1 := z1) (z2 := z2) (z3 := z3) (z4 := z4) (z5 := z5) (z6 := z6) (z7 := z7) (z8 := z8) (own ++ [ffE r1 a0 a1 a2 a3 a4 a5 a6 a7 a8]) Y (by simp) (ff_get (a0 := a0) (a1 := a1) (a2 := a2) (a3 := a3) (a4 := a4) (a5 := a5) (a6 := a6) (a7 := a7) (a8 := a8) (by simp) ⟨⟨own, ro⟩, Gh.drop (by simp), hp⟩))
theorem ff_finY {own Y : List Ent} {ro : Addr → Option Value} {r1 r3 : Nat} {a0 : Int} {a1 : Int} {a2 : SV} {a3 : SV} {a4 : SV} {a5 : SV} {a6 : SV} {a7 : SV} {a8 : SV} {z0 : Int} {z1 : Int} {z2 : SV} {z3 : SV} {z4 : SV} {z5 : SV} {z6 : SV} {z7 : SV} {z8 : SV} {Q : Int → Int → SV → SV → SV → SV → SV → SV → SV → Value} {post : Value → H → Prop} (hp : VRet ⟨(own ++ [ffE r1 a0 a1 a2 a3 a4 a5 a6 a7 a8]) ++ ffE r3 a0 a1 a2 a3 a4 a5 a6 a7 a8 :: Y, ro⟩ (Q a0 a1 a2 a3 a4 a5 a6 a7 a8) post) :
    ∃ x0 : Int, H.rd ⟨own ++ ffE r1 a0 a1 a2 a3 a4 a5 a6 a7 a8 :: ffE r3 z0 z1 z2 z3 z4 z5 z6 z7 z8 :: Y, ro⟩ (Addr.add (Addr.mk r1 0 none) 0) (.int .i64 x0) ∧ ∃ x1 : Int, H.rd ⟨own ++ ffE r1 a0 a1 a2 a3 a4 a5 a6 a7 a8 :: ffE r3 z0 z1 z2 z3 z4 z5 z6 z7 z8 :: Y, ro⟩ (Addr.add (Addr.mk r1 0 none) 1) (.int .i64 x1) ∧ ∃ x2 : SV, H.rd ⟨own ++ ffE r1 a0 a1 a2 a3 a4 a5 a6 a7 a8 :: ffE r3 z0 z1 z2 z3 z4 z5 z6 z7 z8 :: Y, ro⟩ (Addr.add (Addr.mk r1 0 none) 2) (.slice x2.a x2.len x2.cap) ∧ ∃ x3 : SV, H.rd ⟨own ++ ffE r1 a0 a1 a2 a3 a4 a5 a6 a7 a8 :: ffE r3 z0 z1 z2 z3 z4 z5 z6 z7 z8 :: Y, ro⟩ (Addr.add (Addr.mk r1 0 none) 3) (.slice x3.a x3.len x3.cap) ∧ ∃ x4 : SV, H.rd ⟨own ++ ffE r1 a0 a1 a2 a3 a4 a5 a6 a7 a8 :: ffE r3 z0 z1 z2 z3 z4 z5 z6 z7 z8 :: Y, ro⟩ (Addr.add (Addr.mk r1 0 none) 4) (.slice x4.a x4.len x4.cap) ∧ ∃ x5 : SV, H.rd ⟨own ++ ffE r1 a0 a1 a2 a3 a4 a5 a6 a7 a8 :: ffE r3 z0 z1 z2 z3 z4 z5 z6 z7 z8 :: Y, ro⟩ (Addr.add (Addr.mk r1 0 none) 5) (.slice x5.a x5.len x5.cap) ∧ ∃ x6 : SV, H.rd ⟨own ++ ffE r1 a0 a1 a2 a3 a4 a5 a6 a7 a8 :: ffE r3 z0 z1 z2 z3 z4 z5 z6 z7 z8 :: Y, ro⟩ (Addr.add (Addr.mk r1 0 none) 6) (.slice x6.a x6.len x6.cap) ∧ ∃ x7 : SV, H.rd ⟨own ++ ffE r1 a0 a1 a2 a3 a4 a5 a6 a7 a8 :: ffE r3 z0 z1 z2 z3 z4 z5 z6 z7 z8 :: Y, ro⟩ (Addr.add (Addr.mk r1 0 none) 7) (.slice x7.a x7.len x7.cap) ∧ ∃ x8 : SV, H.rd ⟨own ++ ffE r1 a0 a1 a2 a3 a4 a5 a6 a7 a8 :: ffE r3 z0 z1 z2 z3 z4 z5 z6 z7 z8 :: Y, ro⟩ (Addr.add (Addr.mk r1 0 none) 8) (.slice x8.a x8.len x8.cap) ∧ 
    (ffC x0 x1 x2 x3 x4 x5 x6 x7 x8).length = 9 ∧ (Program.underlying Tryd.prog 50).isSome = true ∧ H.wr ⟨own ++ ffE r1 a0 a1 a2 a3 a4 a5 a6 a7 a8 :: ffE r3 z0 z1 z2 z3 z4 z5 z6 z7 z8 :: Y, ro⟩ (Addr.mk r3 0 none) (ffC x0 x1 x2 x3 x4 x5 x6 x7 x8) fun h =>
    ∃ y0 : Int, H.rd h (Addr.add (Addr.mk r3 0 none) 0) (.int .i64 y0) ∧ ∃ y1 : Int, H.rd h (Addr.add (Addr.mk r3 0 none) 1) (.int .i64 y1) ∧ ∃ y2 : SV, H.rd h (Addr.add (Addr.mk r3 0 none) 2) (.slice y2.a y2.len y2.cap) ∧ ∃ y3 : SV, H.rd h (Addr.add (Addr.mk r3 0 none) 3) (.slice y3.a y3.len y3.cap) ∧ ∃ y4 : SV, H.rd h (Addr.add (Addr.mk r3 0 none) 4) (.slice y4.a y4.len y4.cap) ∧ ∃ y5 : SV, H.rd h (Addr.add (Addr.mk r3 0 none) 5) (.slice y5.a y5.len y5.cap) ∧ ∃ y6 : SV, H.rd h (Addr.add (Addr.mk r3 0 none) 6) (.slice y6.a y6.len y6.cap) ∧ ∃ y7 : SV, H.rd h (Addr.add (Addr.mk r3 0 none) 7) (.slice y7.a y7.len y7.cap) ∧ ∃ y8 : SV, H.rd h (Addr.add (Addr.mk r3 0 none) 8) (.slice y8.a y8.len y8.cap) ∧ VRet h (Q y0 y1 y2 y3 y4 y5 y6 y7 y8) post :=
  ff_get (a0 := a0) (a1 := a1) (a2 := a2) (a3 := a3) (a4 := a4) (a5 := a5) (a6 := a6) (a7 := a7) (a8 := a8) (by simp) (ff_put (z0 := z0) (z1 := z1) (z2 := z2) (z3 := z3) (z4 := z4) (z5 := z5) (z6 := z6) (z7 := z7) (z8 := z8) (own ++ [ffE r1 a0 a1 a2 a3 a4 a5 a6 a7 a8]) Y (by simp) (ff_get (a0 := a0) (a1 := a1) (a2 := a2) (a3 := a3) (a4 := a4) (a5 := a5) (a6 := a6) (a7 := a7) (a8 := a8) (by simp) hp))
theorem ff_w {own C : List Ent} {ro : Addr → Option Value} {r1 : Nat} {a0 : Int} {a1 : Int} {a2 : SV} {a3 : SV} {a4 : SV} {a5 : SV} {a6 : SV} {a7 : SV} {a8 : SV} {j : Nat} {v : Value} {K : H → Prop} (b0 : Int) (b1 : Int) (b2 : SV) (b3 : SV) (b4 : SV) (b5 : SV) (b6 : SV) (b7 : SV) (b8 : SV) (h1 : v.oneCell' = true) (hj : 0 + j + 1 ≤ 9) (hs : spl (ffC a0 a1 a2 a3 a4 a5 a6 a7 a8) (0 + j) [v] = ffC b0 b1 b2 b3 b4 b5 b6 b7 b8)
    (hK : K ⟨own ++ ffE r1 b0 b1 b2 b3 b4 b5 b6 b7 b8 :: C, ro⟩) : H.wr ⟨own ++ ffE r1 a0 a1 a2 a3 a4 a5 a6 a7 a8 :: C, ro⟩ (Addr.add (Addr.mk r1 0 none) j) [v] K := by
  refine wF own (ffE r1 a0 a1 a2 a3 a4 a5 a6 a7 a8) C ⟨h1, trivial⟩ rfl rfl hj ?_
  show K ⟨own ++ ⟨some r1, spl (ffC a0 a1 a2 a3 a4 a5 a6 a7 a8) (0 + j) [v], 9⟩ :: C, ro⟩
  rw [hs]
  exact hK
theorem rm_at {n : Nat} {f : Nat → Int} {s : SV} {own : List Ent} {ro : Addr → Option Value} (r : RdSl ⟨[], ro⟩ s (ints (rm n f))) {k : Nat} (hk : k < n) {K : Int → Prop} (hK : K (f k)) :
    ∃ b : Addr, s.a = some b ∧ 0 ≤ (k : Int) ∧ (k : Int) < ((s.len : Nat) : Int) ∧ ∃ x : Int, H.rd ⟨own, ro⟩ (Addr.add (Addr.add b (((k : Int)).toNat * 1)) 0) (Value.int .i64 x) ∧ K x := by
  have hl := r.len
  rw [ints_length, rm_len] at hl
  refine RdSl.idx (h := ⟨own, ro⟩) r.ro (by omega) (by omega) (fun x hx => ?_)
  rw [Int.toNat_natCast, rm_get _ hk] at hx
  cases hx; exact hK
theorem ref3_upd_c {n : Nat} {f : Nat → Int} {s : SV} {v : Int} {own : List Ent} {ro : Addr → Option Value} {post : Value → H → Prop} (r : RdSl ⟨[], ro⟩ s (ints (rm n f))) (hn : n ≤ 1000000) {k : Nat} (hk : k < n)
    (hK : ∀ (s' : SV) (ro' : Addr → Option Value), (∀ a v, ro a = some v → ro' a = some v) → RdSl ⟨[], ro'⟩ s' (ints (rm n (updN f k v))) → post (.slice s'.a s'.len s'.cap) ⟨own, ro'⟩) :
    SemCall Tryd.prog 31 (List.toArray [.slice s.a s.len s.cap, .int .i64 (k : Int), .int .i64 v]) ⟨own, ro⟩ post := by
  have hl := r.len
  rw [ints_length, rm_len] at hl
  refine ref3_set_c r.ro (by omega) (by omega) (by omega) (fun s' ro' m h _ => hK s' ro' m ?_)
  rw [Int.toNat_natCast, rm_set] at h
  exact h
theorem ff_at_c {n q : Nat} {a0 : Int} {a1 : Int} {a2 : SV} {a3 : SV} {a4 : SV} {a5 : SV} {a6 : SV} {a7 : SV} {a8 : SV} {a : Nat → Int} {line : Int} {own : List Ent} {ro : Addr → Option Value} {post : Value → H → Prop} (hA : RdSl ⟨[], ro⟩ a4 (ints (rm n a))) (hn : n ≤ 4) (hq : q < n)
    (hk : ∀ A' ro', (∀ a v, ro a = some v → ro' a = some v) → RdSl ⟨[], ro'⟩ A' (ints (rm n (updN a q line))) → post (.agg (List.toArray (ffC a0 a1 a2 a3 A' a5 a6 a7 a8))) ⟨own, ro'⟩) :
    SemCall Tryd.prog 36 (List.toArray [.agg (List.toArray (ffC a0 a1 a2 a3 a4 a5 a6 a7 a8)), .int .i64 (q : Int), .int .i64 line]) ⟨own, ro⟩ post := by
  refine f36_call _ _ _ _ _ _ _ _ _ _ _ _ post ?_
  refine new2 (n1 := 9) (n2 := 9) rfl rfl (fun r1 r3 => ?_)
  refine rS0 (ffE r1 a0 a1 a2 a3 a4 a5 a6 a7 a8) (by simp [ffE, ffC]) rfl rfl (ref3_upd_c hA (by omega) hq (fun A' ro1 q1 ha => ⟨A', rfl, ff_w a0 a1 a2 a3 A' a5 a6 a7 a8 rfl (by decide) rfl ?_⟩))
  exact ff_fin (own := own) (Y := []) (r1 := r1) (r3 := r3) (a0 := a0) (a1 := a1) (a2 := a2) (a3 := a3) (a4 := A') (a5 := a5) (a6 := a6) (a7 := a7) (a8 := a8) (z0 := 0) (z1 := 0) (z2 := ⟨none, 0, 0⟩) (z3 := ⟨none, 0, 0⟩) (z4 := ⟨none, 0, 0⟩) (z5 := ⟨none, 0, 0⟩) (z6 := ⟨none, 0, 0⟩) (z7 := ⟨none, 0, 0⟩) (z8 := ⟨none, 0, 0⟩) (hk A' ro1 q1 ha)
theorem ff_ret {n q : Nat} {own Y : List Ent} {ro : Addr → Option Value} {r1 r3 : Nat} {a0 : Int} {a1 : Int} {a2 : SV} {a3 : SV} {a4 : SV} {a5 : SV} {a6 : SV} {a7 : SV} {a8 : SV} {z0 : Int} {z1 : Int} {z2 : SV} {z3 : SV} {z4 : SV} {z5 : SV} {z6 : SV} {z7 : SV} {z8 : SV} {a : Nat → Int} {line : Int} {Q : Int → Int → SV → SV → SV → SV → SV → SV → SV → Value} {post : Value → H → Prop} (hA : RdSl ⟨[], ro⟩ a4 (ints (rm n a))) (hn : n ≤ 4) (hq : q < n)
    (hp : ∀ A' ro', (∀ a v, ro a = some v → ro' a = some v) → RdSl ⟨[], ro'⟩ A' (ints (rm n (updN a q line))) → post (Q a0 a1 a2 a3 A' a5 a6 a7 a8) ⟨own, ro'⟩) :
    ∃ x0 : Int, H.rd ⟨own ++ ffE r1 a0 a1 a2 a3 a4 a5 a6 a7 a8 :: ffE r3 z0 z1 z2 z3 z4 z5 z6 z7 z8 :: Y, ro⟩ (Addr.add (Addr.mk r1 0 none) 0) (.int .i64 x0) ∧ ∃ x1 : Int, H.rd ⟨own ++ ffE r1 a0 a1 a2 a3 a4 a5 a6 a7 a8 :: ffE r3 z0 z1 z2 z3 z4 z5 z6 z7 z8 :: Y, ro⟩ (Addr.add (Addr.mk r1 0 none) 1) (.int .i64 x1) ∧ ∃ x2 : SV, H.rd ⟨own ++ ffE r1 a0 a1 a2 a3 a4 a5 a6 a7 a8 :: ffE r3 z0 z1 z2 z3 z4 z5 z6 z7 z8 :: Y, ro⟩ (Addr.add (Addr.mk r1 0 none) 2) (.slice x2.a x2.len x2.cap) ∧ ∃ x3 : SV, H.rd ⟨own ++ ffE r1 a0 a1 a2 a3 a4 a5 a6 a7 a8 :: ffE r3 z0 z1 z2 z3 z4 z5 z6 z7 z8 :: Y, ro⟩ (Addr.add (Addr.mk r1 0 none) 3) (.slice x3.a x3.len x3.cap) ∧ ∃ x4 : SV, H.rd ⟨own ++ ffE r1 a0 a1 a2 a3 a4 a5 a6 a7 a8 :: ffE r3 z0 z1 z2 z3 z4 z5 z6 z7 z8 :: Y, ro⟩ (Addr.add (Addr.mk r1 0 none) 4) (.slice x4.a x4.len x4.cap) ∧ ∃ x5 : SV, H.rd ⟨own ++ ffE r1 a0 a1 a2 a3 a4 a5 a6 a7 a8 :: ffE r3 z0 z1 z2 z3 z4 z5 z6 z7 z8 :: Y, ro⟩ (Addr.add (Addr.mk r1 0 none) 5) (.slice x5.a x5.len x5.cap) ∧ ∃ x6 : SV, H.rd ⟨own ++ ffE r1 a0 a1 a2 a3 a4 a5 a6 a7 a8 :: ffE r3 z0 z1 z2 z3 z4 z5 z6 z7 z8 :: Y, ro⟩ (Addr.add (Addr.mk r1 0 none) 6) (.slice x6.a x6.len x6.cap) ∧ ∃ x7 : SV, H.rd ⟨own ++ ffE r1 a0 a1 a2 a3 a4 a5 a6 a7 a8 :: ffE r3 z0 z1 z2 z3 z4 z5 z6 z7 z8 :: Y, ro⟩ (Addr.add (Addr.mk r1 0 none) 7) (.slice x7.a x7.len x7.cap) ∧ ∃ x8 : SV, H.rd ⟨own ++ ffE r1 a0 a1 a2 a3 a4 a5 a6 a7 a8 :: ffE r3 z0 z1 z2 z3 z4 z5 z6 z7 z8 :: Y, ro⟩ (Addr.add (Addr.mk r1 0 none) 8) (.slice x8.a x8.len x8.cap) ∧ SemCall Tryd.prog 36 (List.toArray [.agg (List.toArray (ffC x0 x1 x2 x3 x4 x5 x6 x7 x8)), .int .i64 (q : Int), .int .i64 line]) ⟨own ++ ffE r1 a0 a1 a2 a3 a4 a5 a6 a7 a8 :: ffE r3 z0 z1 z2 z3 z4 z5 z6 z7 z8 :: Y, ro⟩ fun v h =>
      ∃ y0 : Int, ∃ y1 : Int, ∃ y2 : SV, ∃ y3 : SV, ∃ y4 : SV, ∃ y5 : SV, ∃ y6 : SV, ∃ y7 : SV, ∃ y8 : SV, v = .agg (List.toArray (ffC y0 y1 y2 y3 y4 y5 y6 y7 y8)) ∧ (ffC y0 y1 y2 y3 y4 y5 y6 y7 y8).length = 9 ∧ (Program.underlying Tryd.prog 50).isSome = true ∧ H.wr h (Addr.mk r3 0 none) (ffC y0 y1 y2 y3 y4 y5 y6 y7 y8) fun h2 => ∃ w0 : Int, H.rd h2 (Addr.add (Addr.mk r3 0 none) 0) (.int .i64 w0) ∧ ∃ w1 : Int, H.rd h2 (Addr.add (Addr.mk r3 0 none) 1) (.int .i64 w1) ∧ ∃ w2 : SV, H.rd h2 (Addr.add (Addr.mk r3 0 none) 2) (.slice w2.a w2.len w2.cap) ∧ ∃ w3 : SV, H.rd h2 (Addr.add (Addr.mk r3 0 none) 3) (.slice w3.a w3.len w3.cap) ∧ ∃ w4 : SV, H.rd h2 (Addr.add (Addr.mk r3 0 none) 4) (.slice w4.a w4.len w4.cap) ∧ ∃ w5 : SV, H.rd h2 (Addr.add (Addr.mk r3 0 none) 5) (.slice w5.a w5.len w5.cap) ∧ ∃ w6 : SV, H.rd h2 (Addr.add (Addr.mk r3 0 none) 6) (.slice w6.a w6.len w6.cap) ∧ ∃ w7 : SV, H.rd h2 (Addr.add (Addr.mk r3 0 none) 7) (.slice w7.a w7.len w7.cap) ∧ ∃ w8 : SV, H.rd h2 (Addr.add (Addr.mk r3 0 none) 8) (.slice w8.a w8.len w8.cap) ∧ VRet h2 (Q w0 w1 w2 w3 w4 w5 w6 w7 w8) post :=
  ff_get (a0 := a0) (a1 := a1) (a2 := a2) (a3 := a3) (a4 := a4) (a5 := a5) (a6 := a6) (a7 := a7) (a8 := a8) (by simp) (ff_at_c hA hn hq (fun A' ro' m ha => ⟨a0, a1, a2, a3, A', a5, a6, a7, a8, rfl, ff_put (a0 := a0) (a1 := a1) (a2 := a2) (a3 := a3) (a4 := A') (a5 := a5) (a6 := a6) (a7 := a7) (a8 := a8) (z0 := z0) (z1 := z1) (z2 := z2) (z3 := z3) (z4 := z4) (z5 := z5) (z6 := z6) (z7 := z7) (z8 := z8) (own ++ [ffE r1 a0 a1 a2 a3 a4 a5 a6 a7 a8]) Y (by simp) (ff_get (a0 := a0) (a1 := a1) (a2 := a2) (a3 := a3) (a4 := A') (a5 := a5) (a6 := a6) (a7 := a7) (a8 := a8) (by simp) ⟨⟨own, ro'⟩, Gh.drop (by simp), hp A' ro' m ha⟩)⟩))
/-! ### the document's queue with two ends -/
def ffQ (d : Bool) (g : Int) (y0 y1 : Int) (y2 y3 y4 y5 y6 y7 y8 : SV) : Value := .tuple (List.toArray [.agg (List.toArray (ffC y0 y1 y2 y3 y4 y5 y6 y7 y8)), .bool d, .int .i64 g, .int .i64 0])
structure FfR (ro : Addr → Option Value) (n M : Nat) (V N A Mi T Hs X : SV) (v w a mi t h x : Nat → Int) : Prop where
  v : RdSl ⟨[], ro⟩ V (ints (rm M v))
  w : RdSl ⟨[], ro⟩ N (ints (rm M w))
  a : RdSl ⟨[], ro⟩ A (ints (rm n a))
  mi : RdSl ⟨[], ro⟩ Mi (ints (rm n mi))
  t : RdSl ⟨[], ro⟩ T (ints (rm n t))
  h : RdSl ⟨[], ro⟩ Hs (ints (rm n h))
  x : RdSl ⟨[], ro⟩ X (ints (rm n x))
theorem FfR.up {ro ro' : Addr → Option Value} {n M : Nat} {V N A Mi T Hs X : SV} {v w a mi t h x : Nat → Int} (r : FfR ro n M V N A Mi T Hs X v w a mi t h x) (m : ∀ a v, ro a = some v → ro' a = some v) : FfR ro' n M V N A Mi T Hs X v w a mi t h x :=
  ⟨r.v.mono (by simp) m, r.w.mono (by simp) m, r.a.mono (by simp) m, r.mi.mono (by simp) m, r.t.mono (by simp) m, r.h.mono (by simp) m, r.x.mono (by simp) m⟩
structure RF where
  hd : Int
  tl : Int
  w : Nat → Int
  a : Nat → Int
  t : Nat → Int
  h : Nat → Int
  x : Nat → Int
  d : Bool
  g : Int
def rfStep (hd tl : Int) (v w a mi t h x : Nat → Int) (q : Nat) : RF :=
  if a q = 1 then ⟨hd, tl, w, updN a q 2, updN t q tl, h, x, false, 0⟩
  else if a q = 2 then (if w (t q).toNat ≥ 0 then ⟨hd, tl, w, updN a q 4, t, h, updN x q (w (t q).toNat), false, 0⟩ else ⟨hd, tl, w, updN a q 3, t, h, updN x q (w (t q).toNat), false, 0⟩)
  else if a q = 3 then (if w (t q).toNat ≥ 0 then ⟨hd, tl, w, updN a q 1, t, h, x, false, 0⟩ else ⟨hd, tl, updN w (t q).toNat (mi q), updN a q 5, t, h, x, false, 0⟩)
  else if a q = 4 then ⟨hd, if tl = t q then x q else tl, w, updN a q 1, t, h, x, false, 0⟩
  else if a q = 5 then ⟨hd, if tl = t q then mi q else tl, w, updN a q 0, t, h, x, true, -1⟩
  else if a q = 6 then ⟨hd, tl, w, updN a q 7, t, updN h q hd, x, false, 0⟩
  else if a q = 7 then ⟨hd, tl, w, updN a q 8, updN t q tl, h, x, false, 0⟩
  else if a q = 8 then (if h q ≠ t q then ⟨hd, tl, w, updN a q 10, t, h, updN x q (w (h q).toNat), false, 0⟩ else if w (h q).toNat < 0 then ⟨hd, tl, w, updN a q 0, t, h, updN x q (w (h q).toNat), true, -1⟩ else ⟨hd, tl, w, updN a q 9, t, h, updN x q (w (h q).toNat), false, 0⟩)
  else if a q = 9 then ⟨hd, if tl = t q then x q else tl, w, updN a q 6, t, h, x, false, 0⟩
  else (if hd ≠ h q then ⟨hd, tl, w, updN a q 6, t, h, x, false, 0⟩ else ⟨x q, tl, w, updN a q 0, t, h, x, true, v (x q).toNat⟩)
structure RfOk (M : Nat) (hd : Int) (a t h x : Nat → Int) (q : Nat) : Prop where
  a0 : 1 ≤ a q ∧ a q ≤ 10
  ot : a q = 2 ∨ a q = 3 → 0 ≤ t q ∧ t q < M
  oh : a q = 8 → 0 ≤ h q ∧ h q < M
  ox : a q = 10 → hd = h q → 0 ≤ x q ∧ x q < M
theorem idxM {n : Nat} {f : Nat → Int} {s : SV} {own : List Ent} {ro : Addr → Option Value} (r : RdSl ⟨[], ro⟩ s (ints (rm n f))) {i : Int} (h0 : 0 ≤ i) (h1 : i < n) {K : Int → Prop} (hK : K (f i.toNat)) :
    ∃ b : Addr, s.a = some b ∧ 0 ≤ i ∧ i < ((s.len : Nat) : Int) ∧ ∃ x : Int, H.rd ⟨own, ro⟩ (Addr.add (Addr.add b (i.toNat * 1)) 0) (Value.int .i64 x) ∧ K x := by
  have hl := r.len
  rw [ints_length, rm_len] at hl
  refine RdSl.idx (h := ⟨own, ro⟩) r.ro h0 (by omega) (fun x hx => ?_)
  rw [rm_get _ (by omega)] at hx
  cases hx; exact hK
theorem ref3_updI_c {n : Nat} {f : Nat → Int} {s : SV} {i v : Int} {own : List Ent} {ro : Addr → Option Value} {post : Value → H → Prop} (r : RdSl ⟨[], ro⟩ s (ints (rm n f))) (hn : n ≤ 1000000) (h0 : 0 ≤ i) (h1 : i < n)
    (hK : ∀ (s' : SV) (ro' : Addr → Option Value), (∀ a v, ro a = some v → ro' a = some v) → RdSl ⟨[], ro'⟩ s' (ints (rm n (updN f i.toNat v))) → post (.slice s'.a s'.len s'.cap) ⟨own, ro'⟩) :
    SemCall Tryd.prog 31 (List.toArray [.slice s.a s.len s.cap, .int .i64 i, .int .i64 v]) ⟨own, ro⟩ post := by
  obtain ⟨k, rfl⟩ : ∃ k : Nat, i = (k : Int) := ⟨i.toNat, by omega⟩
  rw [Int.toNat_natCast] at hK
  exact ref3_upd_c r hn (by omega) hK
set_option maxHeartbeats 8000000 in
theorem ref_fstep_c {n M q : Nat} {hd tl : Int} {V N A Mi T Hs X : SV} {v w a mi t h x : Nat → Int} {own : List Ent} {ro : Addr → Option Value} {post : Value → H → Prop} (hr : FfR ro n M V N A Mi T Hs X v w a mi t h x) (hn : n ≤ 4) (hM : M ≤ 40) (hq : q < n) (ok : RfOk M hd a t h x q)
    (hk : ∀ N' A' T' H' X' ro', (∀ a v, ro a = some v → ro' a = some v) → FfR ro' n M V N' A' Mi T' H' X' v (rfStep hd tl v w a mi t h x q).w (rfStep hd tl v w a mi t h x q).a mi (rfStep hd tl v w a mi t h x q).t (rfStep hd tl v w a mi t h x q).h (rfStep hd tl v w a mi t h x q).x →
      post (.tuple (List.toArray [.agg (List.toArray (ffC (rfStep hd tl v w a mi t h x q).hd (rfStep hd tl v w a mi t h x q).tl V N' A' Mi T' H' X')), .bool (rfStep hd tl v w a mi t h x q).d, .int .i64 (rfStep hd tl v w a mi t h x q).g, .int .i64 0])) ⟨own, ro'⟩) :
    SemCall Tryd.prog 20 (List.toArray [.agg (List.toArray (ffC hd tl V N A Mi T Hs X)), .int .i64 (q : Int)]) ⟨own, ro⟩ post := by
  obtain ⟨⟨a1, a10⟩, okt, okh, okx⟩ := ok
  obtain ⟨hV, hN, hA, hMi, hT, hH, hX⟩ := hr
  have la := hA.len
  rw [ints_length, rm_len] at la
  refine f20_call _ _ _ _ _ _ _ _ _ _ _ post ?_
  refine new2 (n1 := 9) (n2 := 9) rfl rfl (fun r1 r3 => ?_)
  have m1 : ∀ {x0 x1 : Int} {x2 x3 x4 x5 x6 x7 x8 : SV} {Z : List Ent}, ffE r1 x0 x1 x2 x3 x4 x5 x6 x7 x8 ∈ own ++ ffE r1 x0 x1 x2 x3 x4 x5 x6 x7 x8 :: Z := by simp
  obtain ⟨S, hS⟩ : ∃ S, S = rfStep hd tl v w a mi t h x q := ⟨_, rfl⟩
  rw [← hS] at hk
  have id0 : ∀ a v, ro a = some v → ro a = some v := fun _ _ h => h
  -- what is left, behind the last write
  have fin : ∀ {d : Bool} {g line y0 y1 : Int} {N' T' H' X' : SV} {ro1 : Addr → Option Value} {w' t' h' x' : Nat → Int}, S = ⟨y0, y1, w', updN a q line, t', h', x', d, g⟩ → (∀ a v, ro a = some v → ro1 a = some v) → RdSl ⟨[], ro1⟩ N' (ints (rm M w')) → RdSl ⟨[], ro1⟩ T' (ints (rm n t')) → RdSl ⟨[], ro1⟩ H' (ints (rm n h')) → RdSl ⟨[], ro1⟩ X' (ints (rm n x')) →
      ∀ A' ro', (∀ a v, ro1 a = some v → ro' a = some v) → RdSl ⟨[], ro'⟩ A' (ints (rm n (updN a q line))) → post (ffQ d g y0 y1 V N' A' Mi T' H' X') ⟨own, ro'⟩ := by
    intro d g line y0 y1 N' T' H' X' ro1 w' t' h' x' e m r1' r2 r3' r4 A' ro' m' ha
    subst e
    have mm : ∀ a v, ro a = some v → ro' a = some v := fun a v h => m' a v (m a v h)
    exact hk N' A' T' H' X' ro' mm ⟨hV.mono (by simp) mm, r1'.mono (by simp) m', ha, hMi.mono (by simp) mm, r2.mono (by simp) m', r3'.mono (by simp) m', r4.mono (by simp) m'⟩
  refine rS0 (ffE r1 hd tl V N A Mi T Hs X) m1 rfl rfl ⟨⟨by omega, by omega⟩, ref3_in_c ⟨_, rfl, VIf_not (fun h => absurd ⟨by omega, by omega⟩ h) (fun _ => ?_)⟩⟩
  refine rS0 (ffE r1 hd tl V N A Mi T Hs X) m1 rfl rfl (rm_at hA hq (VIf_eq (fun z => absurd z (by omega)) (fun _ => ?_)))
  refine VIf_eq (fun b1 => ?_) (fun b1 => VIf_eq (fun b2 => ?_) (fun b2 => VIf_eq (fun b3 => ?_) (fun b3 => VIf_eq (fun b4 => ?_) (fun b4 => VIf_eq (fun b5 => ?_) (fun b5 => VIf_eq (fun b6 => ?_) (fun b6 => VIf_eq (fun b7 => ?_) (fun b7 => VIf_eq (fun b8 => ?_) (fun b8 => VIf_eq (fun b9 => ?_) (fun b9 => ?_)))))))))
  all_goals unfold rfStep at hS
  · rw [if_pos b1] at hS
    refine rS0 (ffE r1 hd tl V N A Mi T Hs X) m1 rfl rfl (rI0 (ffE r1 hd tl V N A Mi T Hs X) m1 rfl rfl (ref3_upd_c hT (by omega) hq (fun T' ro2 q2 ht' => ⟨T', rfl, ff_w hd tl V N A Mi T' Hs X rfl (by decide) rfl ?_⟩)))
    exact ff_ret (Y := []) (z0 := 0) (z1 := 0) (z2 := ⟨none, 0, 0⟩) (z3 := ⟨none, 0, 0⟩) (z4 := ⟨none, 0, 0⟩) (z5 := ⟨none, 0, 0⟩) (z6 := ⟨none, 0, 0⟩) (z7 := ⟨none, 0, 0⟩) (z8 := ⟨none, 0, 0⟩) (Q := ffQ _ _) (hA.mono (by simp) q2) hn hq (fin hS q2 (hN.mono (by simp) q2) ht' (hH.mono (by simp) q2) (hX.mono (by simp) q2))
  · rw [if_neg b1, if_pos b2] at hS
    obtain ⟨t0, t1⟩ := okt (.inl b2)
    refine rS0 (ffE r1 hd tl V N A Mi T Hs X) m1 rfl rfl (rS0 (ffE r1 hd tl V N A Mi T Hs X) m1 rfl rfl (rS0 (ffE r1 hd tl V N A Mi T Hs X) m1 rfl rfl (rm_at hT hq (idxM hN t0 t1 (ref3_upd_c hX (by omega) hq (fun X' ro2 q2 hx' => ⟨X', rfl, ff_w hd tl V N A Mi T Hs X' rfl (by decide) rfl ?_⟩))))))
    refine rS0 (ffE r1 hd tl V N A Mi T Hs X') m1 rfl rfl (rm_at hx' hq ?_)
    rw [updN_same]
    refine VIf_dec (fun c => ?_) (fun c => ?_)
    · rw [if_pos c] at hS
      exact ff_ret (Y := []) (z0 := 0) (z1 := 0) (z2 := ⟨none, 0, 0⟩) (z3 := ⟨none, 0, 0⟩) (z4 := ⟨none, 0, 0⟩) (z5 := ⟨none, 0, 0⟩) (z6 := ⟨none, 0, 0⟩) (z7 := ⟨none, 0, 0⟩) (z8 := ⟨none, 0, 0⟩) (Q := ffQ _ _) (hA.mono (by simp) q2) hn hq (fin hS q2 (hN.mono (by simp) q2) (hT.mono (by simp) q2) (hH.mono (by simp) q2) hx')
    · rw [if_neg c] at hS
      exact ff_ret (Y := []) (z0 := 0) (z1 := 0) (z2 := ⟨none, 0, 0⟩) (z3 := ⟨none, 0, 0⟩) (z4 := ⟨none, 0, 0⟩) (z5 := ⟨none, 0, 0⟩) (z6 := ⟨none, 0, 0⟩) (z7 := ⟨none, 0, 0⟩) (z8 := ⟨none, 0, 0⟩) (Q := ffQ _ _) (hA.mono (by simp) q2) hn hq (fin hS q2 (hN.mono (by simp) q2) (hT.mono (by simp) q2) (hH.mono (by simp) q2) hx')
  · rw [if_neg b1, if_neg b2, if_pos b3] at hS
    obtain ⟨t0, t1⟩ := okt (.inr b3)
    refine rS0 (ffE r1 hd tl V N A Mi T Hs X) m1 rfl rfl (rS0 (ffE r1 hd tl V N A Mi T Hs X) m1 rfl rfl (rm_at hT hq (idxM hN t0 t1 (VIf_dec (fun c => ?_) (fun c => ?_)))))
    · rw [if_pos c] at hS
      exact ff_ret (Y := []) (z0 := 0) (z1 := 0) (z2 := ⟨none, 0, 0⟩) (z3 := ⟨none, 0, 0⟩) (z4 := ⟨none, 0, 0⟩) (z5 := ⟨none, 0, 0⟩) (z6 := ⟨none, 0, 0⟩) (z7 := ⟨none, 0, 0⟩) (z8 := ⟨none, 0, 0⟩) (Q := ffQ _ _) hA hn hq (fin hS id0 hN hT hH hX)
    · rw [if_neg c] at hS
      refine rS0 (ffE r1 hd tl V N A Mi T Hs X) m1 rfl rfl (rS0 (ffE r1 hd tl V N A Mi T Hs X) m1 rfl rfl (rm_at hT hq (rS0 (ffE r1 hd tl V N A Mi T Hs X) m1 rfl rfl (rm_at hMi hq (ref3_updI_c hN (by omega) t0 t1 (fun N' ro2 q2 hn' => ⟨N', rfl, ff_w hd tl V N' A Mi T Hs X rfl (by decide) rfl ?_⟩))))))
      exact ff_ret (Y := []) (z0 := 0) (z1 := 0) (z2 := ⟨none, 0, 0⟩) (z3 := ⟨none, 0, 0⟩) (z4 := ⟨none, 0, 0⟩) (z5 := ⟨none, 0, 0⟩) (z6 := ⟨none, 0, 0⟩) (z7 := ⟨none, 0, 0⟩) (z8 := ⟨none, 0, 0⟩) (Q := ffQ _ _) (hA.mono (by simp) q2) hn hq (fin hS q2 hn' (hT.mono (by simp) q2) (hH.mono (by simp) q2) (hX.mono (by simp) q2))
  · rw [if_neg b1, if_neg b2, if_neg b3, if_pos b4] at hS
    refine rI0 (ffE r1 hd tl V N A Mi T Hs X) m1 rfl rfl (rS0 (ffE r1 hd tl V N A Mi T Hs X) m1 rfl rfl (rm_at hT hq ⟨fun hh => hh = ⟨own ++ ffE r1 hd (if tl = t q then x q else tl) V N A Mi T Hs X :: ffE r3 0 0 ⟨none, 0, 0⟩ ⟨none, 0, 0⟩ ⟨none, 0, 0⟩ ⟨none, 0, 0⟩ ⟨none, 0, 0⟩ ⟨none, 0, 0⟩ ⟨none, 0, 0⟩ :: [], ro⟩, VIf_eq (fun c => ?_) (fun c => gi (by rw [if_neg c]; rfl)), ?_⟩))
    · exact rS0 (ffE r1 hd tl V N A Mi T Hs X) m1 rfl rfl (rm_at hX hq (ff_w hd (x q) V N A Mi T Hs X rfl (by decide) rfl (gi (by rw [if_pos c]; rfl))))
    · rintro _ _ rfl
      exact ff_ret (Y := []) (z0 := 0) (z1 := 0) (z2 := ⟨none, 0, 0⟩) (z3 := ⟨none, 0, 0⟩) (z4 := ⟨none, 0, 0⟩) (z5 := ⟨none, 0, 0⟩) (z6 := ⟨none, 0, 0⟩) (z7 := ⟨none, 0, 0⟩) (z8 := ⟨none, 0, 0⟩) (Q := ffQ _ _) hA hn hq (fin hS id0 hN hT hH hX)
  · rw [if_neg b1, if_neg b2, if_neg b3, if_neg b4, if_pos b5] at hS
    refine rI0 (ffE r1 hd tl V N A Mi T Hs X) m1 rfl rfl (rS0 (ffE r1 hd tl V N A Mi T Hs X) m1 rfl rfl (rm_at hT hq ⟨fun hh => hh = ⟨own ++ ffE r1 hd (if tl = t q then mi q else tl) V N A Mi T Hs X :: ffE r3 0 0 ⟨none, 0, 0⟩ ⟨none, 0, 0⟩ ⟨none, 0, 0⟩ ⟨none, 0, 0⟩ ⟨none, 0, 0⟩ ⟨none, 0, 0⟩ ⟨none, 0, 0⟩ :: [], ro⟩, VIf_eq (fun c => ?_) (fun c => gi (by rw [if_neg c]; rfl)), ?_⟩))
    · exact rS0 (ffE r1 hd tl V N A Mi T Hs X) m1 rfl rfl (rm_at hMi hq (ff_w hd (mi q) V N A Mi T Hs X rfl (by decide) rfl (gi (by rw [if_pos c]; rfl))))
    · rintro _ _ rfl
      exact ff_ret (Y := []) (z0 := 0) (z1 := 0) (z2 := ⟨none, 0, 0⟩) (z3 := ⟨none, 0, 0⟩) (z4 := ⟨none, 0, 0⟩) (z5 := ⟨none, 0, 0⟩) (z6 := ⟨none, 0, 0⟩) (z7 := ⟨none, 0, 0⟩) (z8 := ⟨none, 0, 0⟩) (Q := ffQ _ _) hA hn hq (fin hS id0 hN hT hH hX)
  · rw [if_neg b1, if_neg b2, if_neg b3, if_neg b4, if_neg b5, if_pos b6] at hS
    refine rS0 (ffE r1 hd tl V N A Mi T Hs X) m1 rfl rfl (rI0 (ffE r1 hd tl V N A Mi T Hs X) m1 rfl rfl (ref3_upd_c hH (by omega) hq (fun H' ro2 q2 hh' => ⟨H', rfl, ff_w hd tl V N A Mi T H' X rfl (by decide) rfl ?_⟩)))
    exact ff_ret (Y := []) (z0 := 0) (z1 := 0) (z2 := ⟨none, 0, 0⟩) (z3 := ⟨none, 0, 0⟩) (z4 := ⟨none, 0, 0⟩) (z5 := ⟨none, 0, 0⟩) (z6 := ⟨none, 0, 0⟩) (z7 := ⟨none, 0, 0⟩) (z8 := ⟨none, 0, 0⟩) (Q := ffQ _ _) (hA.mono (by simp) q2) hn hq (fin hS q2 (hN.mono (by simp) q2) (hT.mono (by simp) q2) hh' (hX.mono (by simp) q2))
  · rw [if_neg b1, if_neg b2, if_neg b3, if_neg b4, if_neg b5, if_neg b6, if_pos b7] at hS
    refine rS0 (ffE r1 hd tl V N A Mi T Hs X) m1 rfl rfl (rI0 (ffE r1 hd tl V N A Mi T Hs X) m1 rfl rfl (ref3_upd_c hT (by omega) hq (fun T' ro2 q2 ht' => ⟨T', rfl, ff_w hd tl V N A Mi T' Hs X rfl (by decide) rfl ?_⟩)))
    exact ff_ret (Y := []) (z0 := 0) (z1 := 0) (z2 := ⟨none, 0, 0⟩) (z3 := ⟨none, 0, 0⟩) (z4 := ⟨none, 0, 0⟩) (z5 := ⟨none, 0, 0⟩) (z6 := ⟨none, 0, 0⟩) (z7 := ⟨none, 0, 0⟩) (z8 := ⟨none, 0, 0⟩) (Q := ffQ _ _) (hA.mono (by simp) q2) hn hq (fin hS q2 (hN.mono (by simp) q2) ht' (hH.mono (by simp) q2) (hX.mono (by simp) q2))
  · rw [if_neg b1, if_neg b2, if_neg b3, if_neg b4, if_neg b5, if_neg b6, if_neg b7, if_pos b8] at hS
    obtain ⟨h0, h1⟩ := okh b8
    refine rS0 (ffE r1 hd tl V N A Mi T Hs X) m1 rfl rfl (rS0 (ffE r1 hd tl V N A Mi T Hs X) m1 rfl rfl (rS0 (ffE r1 hd tl V N A Mi T Hs X) m1 rfl rfl (rm_at hH hq (idxM hN h0 h1 (ref3_upd_c hX (by omega) hq (fun X' ro2 q2 hx' => ⟨X', rfl, ff_w hd tl V N A Mi T Hs X' rfl (by decide) rfl ?_⟩))))))
    have g2 : ∀ {s : SV} {f : Nat → Int} {k : Nat}, RdSl ⟨[], ro⟩ s (ints (rm k f)) → RdSl ⟨[], ro2⟩ s (ints (rm k f)) := fun r => r.mono (by simp) q2
    refine rS0 (ffE r1 hd tl V N A Mi T Hs X') m1 rfl rfl (rm_at (g2 hH) hq (rS0 (ffE r1 hd tl V N A Mi T Hs X') m1 rfl rfl (rm_at (g2 hT) hq (VIf_ne (fun c => ?_) (fun c => ?_)))))
    · rw [if_pos c] at hS
      exact ff_ret (Y := []) (z0 := 0) (z1 := 0) (z2 := ⟨none, 0, 0⟩) (z3 := ⟨none, 0, 0⟩) (z4 := ⟨none, 0, 0⟩) (z5 := ⟨none, 0, 0⟩) (z6 := ⟨none, 0, 0⟩) (z7 := ⟨none, 0, 0⟩) (z8 := ⟨none, 0, 0⟩) (Q := ffQ _ _) (g2 hA) hn hq (fin hS q2 (g2 hN) (g2 hT) (g2 hH) hx')
    · rw [if_neg (not_not_intro c)] at hS
      refine rS0 (ffE r1 hd tl V N A Mi T Hs X') m1 rfl rfl (rm_at hx' hq ?_)
      rw [updN_same]
      refine VIf_dec (fun c2 => ?_) (fun c2 => ?_)
      · rw [if_pos c2] at hS
        exact ff_ret (Y := []) (z0 := 0) (z1 := 0) (z2 := ⟨none, 0, 0⟩) (z3 := ⟨none, 0, 0⟩) (z4 := ⟨none, 0, 0⟩) (z5 := ⟨none, 0, 0⟩) (z6 := ⟨none, 0, 0⟩) (z7 := ⟨none, 0, 0⟩) (z8 := ⟨none, 0, 0⟩) (Q := ffQ _ _) (g2 hA) hn hq (fin hS q2 (g2 hN) (g2 hT) (g2 hH) hx')
      · rw [if_neg c2] at hS
        exact ff_ret (Y := []) (z0 := 0) (z1 := 0) (z2 := ⟨none, 0, 0⟩) (z3 := ⟨none, 0, 0⟩) (z4 := ⟨none, 0, 0⟩) (z5 := ⟨none, 0, 0⟩) (z6 := ⟨none, 0, 0⟩) (z7 := ⟨none, 0, 0⟩) (z8 := ⟨none, 0, 0⟩) (Q := ffQ _ _) (g2 hA) hn hq (fin hS q2 (g2 hN) (g2 hT) (g2 hH) hx')
  · rw [if_neg b1, if_neg b2, if_neg b3, if_neg b4, if_neg b5, if_neg b6, if_neg b7, if_neg b8, if_pos b9] at hS
    refine rI0 (ffE r1 hd tl V N A Mi T Hs X) m1 rfl rfl (rS0 (ffE r1 hd tl V N A Mi T Hs X) m1 rfl rfl (rm_at hT hq ⟨fun hh => hh = ⟨own ++ ffE r1 hd (if tl = t q then x q else tl) V N A Mi T Hs X :: ffE r3 0 0 ⟨none, 0, 0⟩ ⟨none, 0, 0⟩ ⟨none, 0, 0⟩ ⟨none, 0, 0⟩ ⟨none, 0, 0⟩ ⟨none, 0, 0⟩ ⟨none, 0, 0⟩ :: [], ro⟩, VIf_eq (fun c => ?_) (fun c => gi (by rw [if_neg c]; rfl)), ?_⟩))
    · exact rS0 (ffE r1 hd tl V N A Mi T Hs X) m1 rfl rfl (rm_at hX hq (ff_w hd (x q) V N A Mi T Hs X rfl (by decide) rfl (gi (by rw [if_pos c]; rfl))))
    · rintro _ _ rfl
      exact ff_ret (Y := []) (z0 := 0) (z1 := 0) (z2 := ⟨none, 0, 0⟩) (z3 := ⟨none, 0, 0⟩) (z4 := ⟨none, 0, 0⟩) (z5 := ⟨none, 0, 0⟩) (z6 := ⟨none, 0, 0⟩) (z7 := ⟨none, 0, 0⟩) (z8 := ⟨none, 0, 0⟩) (Q := ffQ _ _) hA hn hq (fin hS id0 hN hT hH hX)
  · rw [if_neg b1, if_neg b2, if_neg b3, if_neg b4, if_neg b5, if_neg b6, if_neg b7, if_neg b8, if_neg b9] at hS
    have b10 : a q = 10 := by omega
    refine rI0 (ffE r1 hd tl V N A Mi T Hs X) m1 rfl rfl (rS0 (ffE r1 hd tl V N A Mi T Hs X) m1 rfl rfl (rm_at hH hq (VIf_ne (fun c => ?_) (fun c => ?_))))
    · rw [if_pos c] at hS
      exact ff_ret (Y := []) (z0 := 0) (z1 := 0) (z2 := ⟨none, 0, 0⟩) (z3 := ⟨none, 0, 0⟩) (z4 := ⟨none, 0, 0⟩) (z5 := ⟨none, 0, 0⟩) (z6 := ⟨none, 0, 0⟩) (z7 := ⟨none, 0, 0⟩) (z8 := ⟨none, 0, 0⟩) (Q := ffQ _ _) hA hn hq (fin hS id0 hN hT hH hX)
    rw [if_neg (not_not_intro c)] at hS
    obtain ⟨x0, x1⟩ := okx b10 c
    refine rS0 (ffE r1 hd tl V N A Mi T Hs X) m1 rfl rfl (rm_at hX hq (ff_w (x q) tl V N A Mi T Hs X rfl (by decide) rfl ?_))
    have lX := hX.len
    have lV := hV.len
    rw [ints_length, rm_len] at lX lV
    obtain ⟨bX, yX, hbX, hyX, _⟩ := RdSl.at (h := ⟨[], ro⟩) hX (i := (q : Int)) (by omega) (by omega)
    obtain ⟨bV, yV, hbV, hyV, _⟩ := RdSl.at (h := ⟨[], ro⟩) hV (i := x q) x0 (by omega)
    have rX : ∀ {own : List Ent} {ro2 : Addr → Option Value}, (∀ a v, ro a = some v → ro2 a = some v) → H.rd ⟨own, ro2⟩ (Addr.add (Addr.add bX (((q : Int)).toNat * 1)) 0) (Value.int .i64 (x q)) := by
      intro own ro2 m
      obtain ⟨b', x', hb', hx', hrd⟩ := RdSl.at (h := ⟨own, ro2⟩) (hX.mono (by simp) m) (i := (q : Int)) (by omega) (by omega)
      rw [hbX] at hb'; cases hb'
      rw [Int.toNat_natCast, rm_get _ hq] at hx'
      cases hx'; exact hrd
    have rV : ∀ {own : List Ent} {ro2 : Addr → Option Value}, (∀ a v, ro a = some v → ro2 a = some v) → H.rd ⟨own, ro2⟩ (Addr.add (Addr.add bV ((x q).toNat * 1)) 0) (Value.int .i64 (v (x q).toNat)) := by
      intro own ro2 m
      obtain ⟨b', x', hb', hx', hrd⟩ := RdSl.at (h := ⟨own, ro2⟩) (hV.mono (by simp) m) (i := x q) x0 (by omega)
      rw [hbV] at hb'; cases hb'
      rw [rm_get _ (by omega)] at hx'
      cases hx'; exact hrd
    have hend := fin hS id0 hN hT hH hX
    repeat' first
      | refine ⟨bX, hbX, by omega, by omega, ?_⟩
      | refine ⟨bV, hbV, x0, by omega, ?_⟩
      | refine ⟨x q, rX (by assumption), ?_⟩
      | refine ⟨v (x q).toNat, rV (by assumption), ?_⟩
      | refine rS0 (ffE r1 (x q) tl V N A Mi T Hs X) (by simp) rfl rfl ?_
      | refine ff_get (r := r1) (a0 := x q) (a1 := tl) (a2 := V) (a3 := N) (a4 := A) (a5 := Mi) (a6 := T) (a7 := Hs) (a8 := X) (by simp) ?_
      | refine ff_get (r := r3) (a0 := x q) (a1 := tl) (a2 := V) (a3 := N) (a4 := A') (a5 := Mi) (a6 := T) (a7 := Hs) (a8 := X) (by simp) ?_
      | refine ff_at_c hA hn hq (fun A' ro2 m2 ha2 => ⟨x q, tl, V, N, A', Mi, T, Hs, X, rfl, ?_⟩)
      | refine ff_put (a0 := x q) (a1 := tl) (a2 := V) (a3 := N) (a4 := A') (a5 := Mi) (a6 := T) (a7 := Hs) (a8 := X) (z0 := 0) (z1 := 0) (z2 := ⟨none, 0, 0⟩) (z3 := ⟨none, 0, 0⟩) (z4 := ⟨none, 0, 0⟩) (z5 := ⟨none, 0, 0⟩) (z6 := ⟨none, 0, 0⟩) (z7 := ⟨none, 0, 0⟩) (z8 := ⟨none, 0, 0⟩) (own ++ [ffE r1 (x q) tl V N A Mi T Hs X]) [] (by simp; rfl) ?_
      | exact ⟨⟨own, ro2⟩, Gh.drop (by simp), hend A' ro2 m2 ha2⟩
      | refine ⟨?_, ?_⟩
end Go.Proofs.YtogbkgimpkaemaaDoor
