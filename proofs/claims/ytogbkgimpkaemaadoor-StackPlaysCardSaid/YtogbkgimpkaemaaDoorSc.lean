import Derived.Test.YtogbkgimpkaemaaDoorSb
import Derived.Test.YtogbkgimpkaemaaDoorRf
import Derived.Test.YtogbkgimpkaemaaDoorEngK
import Derived.Test.YtogbkgimpkaemaaDoorEngL
namespace Go.Proofs.YtogbkgimpkaemaaDoor
open Go.Eng
set_option maxRecDepth 20000
/-! ### the struct latchgarthref3.Stack, boxed -/
def skC (a0 : Bool) (a1 : Int) (a2 : Int) (a3 : SV) (a4 : SV) (a5 : SV) (a6 : SV) (a7 : SV) (a8 : SV) (a9 : SV) (a10 : SV) : List Value := [.bool a0, .int .i64 a1, .int .i64 a2, .slice a3.a a3.len a3.cap, .slice a4.a a4.len a4.cap, .slice a5.a a5.len a5.cap, .slice a6.a a6.len a6.cap, .slice a7.a a7.len a7.cap, .slice a8.a a8.len a8.cap, .slice a9.a a9.len a9.cap, .slice a10.a a10.len a10.cap]
def skE (r : Nat) (a0 : Bool) (a1 : Int) (a2 : Int) (a3 : SV) (a4 : SV) (a5 : SV) (a6 : SV) (a7 : SV) (a8 : SV) (a9 : SV) (a10 : SV) : Ent := ⟨some r, skC a0 a1 a2 a3 a4 a5 a6 a7 a8 a9 a10, 11⟩
theorem sk_one {a0 : Bool} {a1 : Int} {a2 : Int} {a3 : SV} {a4 : SV} {a5 : SV} {a6 : SV} {a7 : SV} {a8 : SV} {a9 : SV} {a10 : SV} : allOne (skC a0 a1 a2 a3 a4 a5 a6 a7 a8 a9 a10) := ⟨rfl, rfl, rfl, rfl, rfl, rfl, rfl, rfl, rfl, rfl, rfl, trivial⟩
theorem sk_get {h : H} {r : Nat} {a0 : Bool} {a1 : Int} {a2 : Int} {a3 : SV} {a4 : SV} {a5 : SV} {a6 : SV} {a7 : SV} {a8 : SV} {a9 : SV} {a10 : SV} {K : Bool → Int → Int → SV → SV → SV → SV → SV → SV → SV → SV → Prop} (he : skE r a0 a1 a2 a3 a4 a5 a6 a7 a8 a9 a10 ∈ h.own) (hK : K a0 a1 a2 a3 a4 a5 a6 a7 a8 a9 a10) :
    ∃ x0 : Bool, H.rd h (Addr.add (Addr.mk r 0 none) 0) (.bool x0) ∧ ∃ x1 : Int, H.rd h (Addr.add (Addr.mk r 0 none) 1) (.int .i64 x1) ∧ ∃ x2 : Int, H.rd h (Addr.add (Addr.mk r 0 none) 2) (.int .i64 x2) ∧ ∃ x3 : SV, H.rd h (Addr.add (Addr.mk r 0 none) 3) (.slice x3.a x3.len x3.cap) ∧ ∃ x4 : SV, H.rd h (Addr.add (Addr.mk r 0 none) 4) (.slice x4.a x4.len x4.cap) ∧ ∃ x5 : SV, H.rd h (Addr.add (Addr.mk r 0 none) 5) (.slice x5.a x5.len x5.cap) ∧ ∃ x6 : SV, H.rd h (Addr.add (Addr.mk r 0 none) 6) (.slice x6.a x6.len x6.cap) ∧ ∃ x7 : SV, H.rd h (Addr.add (Addr.mk r 0 none) 7) (.slice x7.a x7.len x7.cap) ∧ ∃ x8 : SV, H.rd h (Addr.add (Addr.mk r 0 none) 8) (.slice x8.a x8.len x8.cap) ∧ ∃ x9 : SV, H.rd h (Addr.add (Addr.mk r 0 none) 9) (.slice x9.a x9.len x9.cap) ∧ ∃ x10 : SV, H.rd h (Addr.add (Addr.mk r 0 none) 10) (.slice x10.a x10.len x10.cap) ∧ K x0 x1 x2 x3 x4 x5 x6 x7 x8 x9 x10 :=
  rB _ he rfl rfl (rI _ he rfl rfl (rI _ he rfl rfl (rS _ he rfl rfl (rS _ he rfl rfl (rS _ he rfl rfl (rS _ he rfl rfl (rS _ he rfl rfl (rS _ he rfl rfl (rS _ he rfl rfl (rS _ he rfl rfl (hK)))))))))))
theorem sk_put {own : List Ent} {ro : Addr → Option Value} {r : Nat} {a0 : Bool} {a1 : Int} {a2 : Int} {a3 : SV} {a4 : SV} {a5 : SV} {a6 : SV} {a7 : SV} {a8 : SV} {a9 : SV} {a10 : SV} {z0 : Bool} {z1 : Int} {z2 : Int} {z3 : SV} {z4 : SV} {z5 : SV} {z6 : SV} {z7 : SV} {z8 : SV} {z9 : SV} {z10 : SV} {K : H → Prop} (A C : List Ent) (hown : own = A ++ skE r z0 z1 z2 z3 z4 z5 z6 z7 z8 z9 z10 :: C) (hK : K ⟨A ++ skE r a0 a1 a2 a3 a4 a5 a6 a7 a8 a9 a10 :: C, ro⟩) :
    (skC a0 a1 a2 a3 a4 a5 a6 a7 a8 a9 a10).length = 11 ∧ (Program.underlying Tryd.prog 32).isSome = true ∧ H.wr ⟨own, ro⟩ (Addr.mk r 0 none) (skC a0 a1 a2 a3 a4 a5 a6 a7 a8 a9 a10) K :=
  ⟨rfl, rfl, wro A (skE r z0 z1 z2 z3 z4 z5 z6 z7 z8 z9 z10) C sk_one hown rfl (Nat.le_refl _) hK⟩
theorem sk_fin {own Y : List Ent} {ro : Addr → Option Value} {r1 r3 : Nat} {a0 : Bool} {a1 : Int} {a2 : Int} {a3 : SV} {a4 : SV} {a5 : SV} {a6 : SV} {a7 : SV} {a8 : SV} {a9 : SV} {a10 : SV} {z0 : Bool} {z1 : Int} {z2 : Int} {z3 : SV} {z4 : SV} {z5 : SV} {z6 : SV} {z7 : SV} {z8 : SV} {z9 : SV} {z10 : SV} {Q : Bool → Int → Int → SV → SV → SV → SV → SV → SV → SV → SV → Value} {post : Value → H → Prop} (hp : post (Q a0 a1 a2 a3 a4 a5 a6 a7 a8 a9 a10) ⟨own, ro⟩) :
    ∃ x0 : Bool, H.rd ⟨own ++ skE r1 a0 a1 a2 a3 a4 a5 a6 a7 a8 a9 a10 :: skE r3 z0 z1 z2 z3 z4 z5 z6 z7 z8 z9 z10 :: Y, ro⟩ (Addr.add (Addr.mk r1 0 none) 0) (.bool x0) ∧ ∃ x1 : Int, H.rd ⟨own ++ skE r1 a0 a1 a2 a3 a4 a5 a6 a7 a8 a9 a10 :: skE r3 z0 z1 z2 z3 z4 z5 z6 z7 z8 z9 z10 :: Y, ro⟩ (Addr.add (Addr.mk r1 0 none) 1) (.int .i64 x1) ∧ ∃ x2 : Int, H.rd ⟨own ++ skE r1 a0 a1 a2 a3 a4 a5 a6 a7 a8 a9 a10 :: skE r3 z0 z1 z2 z3 z4 z5 z6 z7 z8 z9 z10 :: Y, ro⟩ (Addr.add (Addr.mk r1 0 none) 2) (.int .i64 x2) ∧ ∃ x3 : SV, H.rd ⟨own ++ skE r1 a0 a1 a2 a3 a4 a5 a6 a7 a8 a9 a10 :: skE r3 z0 z1 z2 z3 z4 z5 z6 z7 z8 z9 z10 :: Y, ro⟩ (Addr.add (Addr.mk r1 0 none) 3) (.slice x3.a x3.len x3.cap) ∧ ∃ x4 : SV, H.rd ⟨own ++ skE r1 a0 a1 a2 a3 a4 a5 a6 a7 a8 a9 a10 :: skE r3 z0 z1 z2 z3 z4 z5 z6 z7 z8 z9 z10 :: Y, ro⟩ (Addr.add (Addr.mk r1 0 none) 4) (.slice x4.a x4.len x4.cap) ∧ ∃ x5 : SV, H.rd ⟨own ++ skE r1 a0 a1 a2 a3 a4 a5 a6 a7 a8 a9 a10 :: skE r3 z0 z1 z2 z3 z4 z5 z6 z7 z8 z9 z10 :: Y, ro⟩ (Addr.add (Addr.mk r1 0 none) 5) (.slice x5.a x5.len x5.cap) ∧ ∃ x6 : SV, H.rd ⟨own ++ skE r1 a0 a1 a2 a3 a4 a5 a6 a7 a8 a9 a10 :: skE r3 z0 z1 z2 z3 z4 z5 z6 z7 z8 z9 z10 :: Y, ro⟩ (Addr.add (Addr.mk r1 0 none) 6) (.slice x6.a x6.len x6.cap) ∧ ∃ x7 : SV, H.rd ⟨own ++ skE r1 a0 a1 a2 a3 a4 a5 a6 a7 a8 a9 a10 :: skE r3 z0 z1 z2 z3 z4 z5 z6 z7 z8 z9 z10 :: Y, ro⟩ (Addr.add (Addr.mk r1 0 none) 7) (.slice x7.a x7.len x7.cap) ∧ ∃ x8 : SV, H.rd ⟨own ++ skE r1 a0 a1 a2 a3 a4 a5 a6 a7 a8 a9 a10 :: skE r3 z0 z1 z2 z3 z4 z5 z6 z7 z8 z9 z10 :: Y, ro⟩ (Addr.add (Addr.mk r1 0 none) 8) (.slice x8.a x8.len x8.cap) ∧ ∃ x9 : SV, H.rd ⟨own ++ skE r1 a0 a1 a2 a3 a4 a5 a6 a7 a8 a9 a10 :: skE r3 z0 z1 z2 z3 z4 z5 z6 z7 z8 z9 z10 :: Y, ro⟩ (Addr.add (Addr.mk r1 0 none) 9) (.slice x9.a x9.len x9.cap) ∧ ∃ x10 : SV, H.rd ⟨own ++ skE r1 a0 a1 a2 a3 a4 a5 a6 a7 a8 a9 a10 :: skE r3 z0 z1 z2 z3 z4 z5 z6 z7 z8 z9 z10 :: Y, ro⟩ (Addr.add (Addr.mk r1 0 none) 10) (.slice x10.a x10.len x10.cap) ∧ 
    (skC x0 x1 x2 x3 x4 x5 x6 x7 x8 x9 x10).length = 11 ∧ (Program.underlying Tryd.prog 32).isSome = true ∧ H.wr ⟨own ++ skE r1 a0 a1 a2 a3 a4 a5 a6 a7 a8 a9 a10 :: skE r3 z0 z1 z2 z3 z4 z5 z6 z7 z8 z9 z10 :: Y, ro⟩ (Addr.mk r3 0 none) (skC x0 x1 x2 x3 x4 x5 x6 x7 x8 x9 x10) fun h =>
    ∃ y0 : Bool, H.rd h (Addr.add (Addr.mk r3 0 none) 0) (.bool y0) ∧ ∃ y1 : Int, H.rd h (Addr.add (Addr.mk r3 0 none) 1) (.int .i64 y1) ∧ ∃ y2 : Int, H.rd h (Addr.add (Addr.mk r3 0 none) 2) (.int .i64 y2) ∧ ∃ y3 : SV, H.rd h (Addr.add (Addr.mk r3 0 none) 3) (.slice y3.a y3.len y3.cap) ∧ ∃ y4 : SV, H.rd h (Addr.add (Addr.mk r3 0 none) 4) (.slice y4.a y4.len y4.cap) ∧ ∃ y5 : SV, H.rd h (Addr.add (Addr.mk r3 0 none) 5) (.slice y5.a y5.len y5.cap) ∧ ∃ y6 : SV, H.rd h (Addr.add (Addr.mk r3 0 none) 6) (.slice y6.a y6.len y6.cap) ∧ ∃ y7 : SV, H.rd h (Addr.add (Addr.mk r3 0 none) 7) (.slice y7.a y7.len y7.cap) ∧ ∃ y8 : SV, H.rd h (Addr.add (Addr.mk r3 0 none) 8) (.slice y8.a y8.len y8.cap) ∧ ∃ y9 : SV, H.rd h (Addr.add (Addr.mk r3 0 none) 9) (.slice y9.a y9.len y9.cap) ∧ ∃ y10 : SV, H.rd h (Addr.add (Addr.mk r3 0 none) 10) (.slice y10.a y10.len y10.cap) ∧ VRet h (Q y0 y1 y2 y3 y4 y5 y6 y7 y8 y9 y10) post :=
  sk_get (a0 := a0) (a1 := a1) (a2 := a2) (a3 := a3) (a4 := a4) (a5 := a5) (a6 := a6) (a7 := a7) (a8 := a8) (a9 := a9) (a10 := a10) (by simp) (sk_put (z0 := z0) (z1 := z1) (z2 := z2) (z3 := z3) (z4 := z4) (z5 := z5) (z6 := z6) (z7 := z7) (z8 := z8) (z9 := z9) (z10 := z10) (own ++ [skE r1 a0 a1 a2 a3 a4 a5 a6 a7 a8 a9 a10]) Y (by simp) (sk_get (a0 := a0) (a1 := a1) (a2 := a2) (a3 := a3) (a4 := a4) (a5 := a5) (a6 := a6) (a7 := a7) (a8 := a8) (a9 := a9) (a10 := a10) (by simp) ⟨⟨own, ro⟩, Gh.drop (by simp), hp⟩))
theorem sk_finY {own Y : List Ent} {ro : Addr → Option Value} {r1 r3 : Nat} {a0 : Bool} {a1 : Int} {a2 : Int} {a3 : SV} {a4 : SV} {a5 : SV} {a6 : SV} {a7 : SV} {a8 : SV} {a9 : SV} {a10 : SV} {z0 : Bool} {z1 : Int} {z2 : Int} {z3 : SV} {z4 : SV} {z5 : SV} {z6 : SV} {z7 : SV} {z8 : SV} {z9 : SV} {z10 : SV} {Q : Bool → Int → Int → SV → SV → SV → SV → SV → SV → SV → SV → Value} {post : Value → H → Prop} (hp : VRet ⟨(own ++ [skE r1 a0 a1 a2 a3 a4 a5 a6 a7 a8 a9 a10]) ++ skE r3 a0 a1 a2 a3 a4 a5 a6 a7 a8 a9 a10 :: Y, ro⟩ (Q a0 a1 a2 a3 a4 a5 a6 a7 a8 a9 a10) post) :
    ∃ x0 : Bool, H.rd ⟨own ++ skE r1 a0 a1 a2 a3 a4 a5 a6 a7 a8 a9 a10 :: skE r3 z0 z1 z2 z3 z4 z5 z6 z7 z8 z9 z10 :: Y, ro⟩ (Addr.add (Addr.mk r1 0 none) 0) (.bool x0) ∧ ∃ x1 : Int, H.rd ⟨own ++ skE r1 a0 a1 a2 a3 a4 a5 a6 a7 a8 a9 a10 :: skE r3 z0 z1 z2 z3 z4 z5 z6 z7 z8 z9 z10 :: Y, ro⟩ (Addr.add (Addr.mk r1 0 none) 1) (.int .i64 x1) ∧ ∃ x2 : Int, H.rd ⟨own ++ skE r1 a0 a1 a2 a3 a4 a5 a6 a7 a8 a9 a10 :: skE r3 z0 z1 z2 z3 z4 z5 z6 z7 z8 z9 z10 :: Y, ro⟩ (Addr.add (Addr.mk r1 0 none) 2) (.int .i64 x2) ∧ ∃ x3 : SV, H.rd ⟨own ++ skE r1 a0 a1 a2 a3 a4 a5 a6 a7 a8 a9 a10 :: skE r3 z0 z1 z2 z3 z4 z5 z6 z7 z8 z9 z10 :: Y, ro⟩ (Addr.add (Addr.mk r1 0 none) 3) (.slice x3.a x3.len x3.cap) ∧ ∃ x4 : SV, H.rd ⟨own ++ skE r1 a0 a1 a2 a3 a4 a5 a6 a7 a8 a9 a10 :: skE r3 z0 z1 z2 z3 z4 z5 z6 z7 z8 z9 z10 :: Y, ro⟩ (Addr.add (Addr.mk r1 0 none) 4) (.slice x4.a x4.len x4.cap) ∧ ∃ x5 : SV, H.rd ⟨own ++ skE r1 a0 a1 a2 a3 a4 a5 a6 a7 a8 a9 a10 :: skE r3 z0 z1 z2 z3 z4 z5 z6 z7 z8 z9 z10 :: Y, ro⟩ (Addr.add (Addr.mk r1 0 none) 5) (.slice x5.a x5.len x5.cap) ∧ ∃ x6 : SV, H.rd ⟨own ++ skE r1 a0 a1 a2 a3 a4 a5 a6 a7 a8 a9 a10 :: skE r3 z0 z1 z2 z3 z4 z5 z6 z7 z8 z9 z10 :: Y, ro⟩ (Addr.add (Addr.mk r1 0 none) 6) (.slice x6.a x6.len x6.cap) ∧ ∃ x7 : SV, H.rd ⟨own ++ skE r1 a0 a1 a2 a3 a4 a5 a6 a7 a8 a9 a10 :: skE r3 z0 z1 z2 z3 z4 z5 z6 z7 z8 z9 z10 :: Y, ro⟩ (Addr.add (Addr.mk r1 0 none) 7) (.slice x7.a x7.len x7.cap) ∧ ∃ x8 : SV, H.rd ⟨own ++ skE r1 a0 a1 a2 a3 a4 a5 a6 a7 a8 a9 a10 :: skE r3 z0 z1 z2 z3 z4 z5 z6 z7 z8 z9 z10 :: Y, ro⟩ (Addr.add (Addr.mk r1 0 none) 8) (.slice x8.a x8.len x8.cap) ∧ ∃ x9 : SV, H.rd ⟨own ++ skE r1 a0 a1 a2 a3 a4 a5 a6 a7 a8 a9 a10 :: skE r3 z0 z1 z2 z3 z4 z5 z6 z7 z8 z9 z10 :: Y, ro⟩ (Addr.add (Addr.mk r1 0 none) 9) (.slice x9.a x9.len x9.cap) ∧ ∃ x10 : SV, H.rd ⟨own ++ skE r1 a0 a1 a2 a3 a4 a5 a6 a7 a8 a9 a10 :: skE r3 z0 z1 z2 z3 z4 z5 z6 z7 z8 z9 z10 :: Y, ro⟩ (Addr.add (Addr.mk r1 0 none) 10) (.slice x10.a x10.len x10.cap) ∧ 
    (skC x0 x1 x2 x3 x4 x5 x6 x7 x8 x9 x10).length = 11 ∧ (Program.underlying Tryd.prog 32).isSome = true ∧ H.wr ⟨own ++ skE r1 a0 a1 a2 a3 a4 a5 a6 a7 a8 a9 a10 :: skE r3 z0 z1 z2 z3 z4 z5 z6 z7 z8 z9 z10 :: Y, ro⟩ (Addr.mk r3 0 none) (skC x0 x1 x2 x3 x4 x5 x6 x7 x8 x9 x10) fun h =>
    ∃ y0 : Bool, H.rd h (Addr.add (Addr.mk r3 0 none) 0) (.bool y0) ∧ ∃ y1 : Int, H.rd h (Addr.add (Addr.mk r3 0 none) 1) (.int .i64 y1) ∧ ∃ y2 : Int, H.rd h (Addr.add (Addr.mk r3 0 none) 2) (.int .i64 y2) ∧ ∃ y3 : SV, H.rd h (Addr.add (Addr.mk r3 0 none) 3) (.slice y3.a y3.len y3.cap) ∧ ∃ y4 : SV, H.rd h (Addr.add (Addr.mk r3 0 none) 4) (.slice y4.a y4.len y4.cap) ∧ ∃ y5 : SV, H.rd h (Addr.add (Addr.mk r3 0 none) 5) (.slice y5.a y5.len y5.cap) ∧ ∃ y6 : SV, H.rd h (Addr.add (Addr.mk r3 0 none) 6) (.slice y6.a y6.len y6.cap) ∧ ∃ y7 : SV, H.rd h (Addr.add (Addr.mk r3 0 none) 7) (.slice y7.a y7.len y7.cap) ∧ ∃ y8 : SV, H.rd h (Addr.add (Addr.mk r3 0 none) 8) (.slice y8.a y8.len y8.cap) ∧ ∃ y9 : SV, H.rd h (Addr.add (Addr.mk r3 0 none) 9) (.slice y9.a y9.len y9.cap) ∧ ∃ y10 : SV, H.rd h (Addr.add (Addr.mk r3 0 none) 10) (.slice y10.a y10.len y10.cap) ∧ VRet h (Q y0 y1 y2 y3 y4 y5 y6 y7 y8 y9 y10) post :=
  sk_get (a0 := a0) (a1 := a1) (a2 := a2) (a3 := a3) (a4 := a4) (a5 := a5) (a6 := a6) (a7 := a7) (a8 := a8) (a9 := a9) (a10 := a10) (by simp) (sk_put (z0 := z0) (z1 := z1) (z2 := z2) (z3 := z3) (z4 := z4) (z5 := z5) (z6 := z6) (z7 := z7) (z8 := z8) (z9 := z9) (z10 := z10) (own ++ [skE r1 a0 a1 a2 a3 a4 a5 a6 a7 a8 a9 a10]) Y (by simp) (sk_get (a0 := a0) (a1 := a1) (a2 := a2) (a3 := a3) (a4 := a4) (a5 := a5) (a6 := a6) (a7 := a7) (a8 := a8) (a9 := a9) (a10 := a10) (by simp) hp))
theorem sk_w {own C : List Ent} {ro : Addr → Option Value} {r1 : Nat} {a0 : Bool} {a1 : Int} {a2 : Int} {a3 : SV} {a4 : SV} {a5 : SV} {a6 : SV} {a7 : SV} {a8 : SV} {a9 : SV} {a10 : SV} {j : Nat} {v : Value} {K : H → Prop} (b0 : Bool) (b1 : Int) (b2 : Int) (b3 : SV) (b4 : SV) (b5 : SV) (b6 : SV) (b7 : SV) (b8 : SV) (b9 : SV) (b10 : SV) (h1 : v.oneCell' = true) (hj : 0 + j + 1 ≤ 11) (hs : spl (skC a0 a1 a2 a3 a4 a5 a6 a7 a8 a9 a10) (0 + j) [v] = skC b0 b1 b2 b3 b4 b5 b6 b7 b8 b9 b10)
    (hK : K ⟨own ++ skE r1 b0 b1 b2 b3 b4 b5 b6 b7 b8 b9 b10 :: C, ro⟩) : H.wr ⟨own ++ skE r1 a0 a1 a2 a3 a4 a5 a6 a7 a8 a9 a10 :: C, ro⟩ (Addr.add (Addr.mk r1 0 none) j) [v] K := by
  refine wF own (skE r1 a0 a1 a2 a3 a4 a5 a6 a7 a8 a9 a10) C ⟨h1, trivial⟩ rfl rfl hj ?_
  show K ⟨own ++ ⟨some r1, spl (skC a0 a1 a2 a3 a4 a5 a6 a7 a8 a9 a10) (0 + j) [v], 11⟩ :: C, ro⟩
  rw [hs]
  exact hK
/-! ### the document's stack -/
set_option maxRecDepth 20000 in
theorem grows_bools : Grows Tryd.prog 30 4 1 := ⟨rfl, rfl, by decide, by decide, ⟨_, rfl, rfl, ⟨rfl, trivial⟩⟩⟩
theorem rm_congr {α : Type} {n : Nat} {f g : Nat → α} (h : ∀ k, k < n → f k = g k) : rm n f = rm n g := List.map_congr_left fun k hk => h k (List.mem_range.1 hk)
theorem rm_rep (n : Nat) : rm n (fun _ => (0 : Int)) = List.replicate n 0 := by
  refine List.ext_getElem? fun k => ?_
  by_cases hk : k < n
  · rw [rm_get _ hk, List.getElem?_replicate, if_pos hk]
  · rw [List.getElem?_eq_none (by rw [rm_len]; omega), List.getElem?_eq_none (by simp; omega)]
/-- a number of a row -/
theorem rm_ati {n : Nat} {f : Nat → Int} {s : SV} {own : List Ent} {ro : Addr → Option Value} (r : RdSl ⟨[], ro⟩ s (ints (rm n f))) {k : Nat} (hk : k < n) {i : Int} (hi : i = (k : Int)) {K : Int → Prop} (hK : K (f k)) :
    ∃ b : Addr, s.a = some b ∧ 0 ≤ i ∧ i < ((s.len : Nat) : Int) ∧ ∃ x : Int, H.rd ⟨own, ro⟩ (Addr.add (Addr.add b (i.toNat * 1)) 0) (Value.int .i64 x) ∧ K x := by
  subst hi
  have hl := r.len
  rw [ints_length, rm_len] at hl
  refine RdSl.idx (h := ⟨own, ro⟩) r.ro (by omega) (by omega) (fun x hx => ?_)
  rw [Int.toNat_natCast, rm_get _ hk] at hx
  cases hx; exact hK
theorem rm_rd {n : Nat} {f : Nat → Int} {s : SV} {own : List Ent} {ro ro' : Addr → Option Value} (r : RdSl ⟨[], ro⟩ s (ints (rm n f))) (m : ∀ a v, ro a = some v → ro' a = some v) {b : Addr} (hb : s.a = some b) {k : Nat} (hk : k < n) {i : Int} (hi : i = (k : Int)) : H.rd ⟨own, ro'⟩ (Addr.add (Addr.add b (i.toNat * 1)) 0) (Value.int .i64 (f k)) := by
  subst hi
  rw [Int.toNat_natCast]
  exact (r.mono (h2 := ⟨own, ro'⟩) (by simp) m).rdi hb (rm_get _ hk)
theorem ref3_upd_c {n : Nat} {f : Nat → Int} {s : SV} {v i : Int} {own : List Ent} {ro : Addr → Option Value} {post : Value → H → Prop} (r : RdSl ⟨[], ro⟩ s (ints (rm n f))) (hn : n ≤ 1000000) {k : Nat} (hk : k < n) (hi : i = (k : Int))
    (hK : ∀ (s' : SV) (ro' : Addr → Option Value), (∀ a v, ro a = some v → ro' a = some v) → RdSl ⟨[], ro'⟩ s' (ints (rm n (updN f k v))) → post (.slice s'.a s'.len s'.cap) ⟨own, ro'⟩) :
    SemCall Tryd.prog 31 (List.toArray [.slice s.a s.len s.cap, .int .i64 i, .int .i64 v]) ⟨own, ro⟩ post := by
  subst hi
  have hl := r.len
  rw [ints_length, rm_len] at hl
  refine ref3_set_c r.ro (by omega) (by omega) (by omega) (fun s' ro' m h _ => hK s' ro' m ?_)
  rw [Int.toNat_natCast, rm_set] at h
  exact h
/-! rows of bools -/
def bs (u : Nat → Bool) : List Value := (rm 4 u).map Value.bool
theorem bs_len (u : Nat → Bool) : (bs u).length = 4 := rfl
theorem bs_one (u : Nat → Bool) : allOne (bs u) := ⟨rfl, rfl, rfl, rfl, trivial⟩
theorem app_newB {s : SV} {u : Nat → Bool} {own : List Ent} {ro : Addr → Option Value} {K : SV → H → Prop} (hr : RdSl ⟨own, ro⟩ s (bs u))
    (hk : ∀ (s' : SV) (e' : Ent), OwnsSl 1 s' e' (bs u) → s'.len = s.len → (∀ a v, ro a = some v → e'.id ≠ some a.block) → K s' ⟨own ++ [e'], ro⟩) :
    appVC Tryd.prog 30 (.slice none 0 0) (.slice s.a s.len s.cap) ⟨own, ro⟩ K := by
  have hl := hr.len
  rw [bs_len] at hl
  refine appVC_of (s := ⟨none, 0, 0⟩) (s2 := s) grows_bools (ys := bs u) (by have := hr.len; omega) hr.rows.rdS (bs_one u) hr.2.1 (A := own) (C := []) (en := ⟨none, [], 0⟩) (xs := []) (by simpa using Gh.phantom own [] ro 0) (OwnsSl.nil 1) (by simp only; omega) (fun s' e' o l _ _ hf => hk s' e' (by simpa using o) (by simpa using l) (fun a v hv hid => ?_))
  rcases hf _ hid with h | h
  · cases h
  · exact h.2 a v hv rfl
theorem ref3_used_c {s : SV} {u : Nat → Bool} {i : Int} {b : Bool} {own : List Ent} {ro : Addr → Option Value} {post : Value → H → Prop} (r : RdSl ⟨[], ro⟩ s (bs u)) {k : Nat} (hk : k < 4) (hi : i = (k : Int))
    (hK : ∀ (s' : SV) (ro' : Addr → Option Value), (∀ a v, ro a = some v → ro' a = some v) → RdSl ⟨[], ro'⟩ s' (bs (updN u k b)) → post (.slice s'.a s'.len s'.cap) ⟨own, ro'⟩) :
    SemCall Tryd.prog 32 (List.toArray [.slice s.a s.len s.cap, .int .i64 i, .bool b]) ⟨own, ro⟩ post := by
  subst hi
  have hl := r.len
  rw [bs_len] at hl
  refine f32_call _ _ _ _ post (app_newB r.ro (fun s' e' o l hf => ?_))
  refine wr_atM (f := Value.bool) (fun _ => rfl) own e' [] rfl (xs := rm 4 u) o (by omega) (by omega) (fun e2 o2 hid => ?_)
  have hf2 : ∀ a v, ro a = some v → e2.id ≠ some a.block := fun a v h => by rw [hid]; exact hf a v h
  refine ⟨_, by simpa using Gh.freeze own [] ro e2 hf2, hK _ _ (frozen_mono hf2) (RdSl.frozen ?_)⟩
  rw [Int.toNat_natCast, rm_set] at o2
  exact o2
theorem bs_at {u : Nat → Bool} {s : SV} {own : List Ent} {ro : Addr → Option Value} (r : RdSl ⟨[], ro⟩ s (bs u)) {k : Nat} (hk : k < 4) {K : Bool → Prop} (hK : K (u k)) :
    ∃ b : Addr, s.a = some b ∧ 0 ≤ (k : Int) ∧ (k : Int) < ((s.len : Nat) : Int) ∧ ∃ x : Bool, H.rd ⟨own, ro⟩ (Addr.add (Addr.add b (((k : Int)).toNat * 1)) 0) (Value.bool x) ∧ K x := by
  have hl := r.len
  rw [bs_len] at hl
  refine RdSl.idxM (f := Value.bool) (h := ⟨own, ro⟩) (xs := rm 4 u) r.ro (by omega) (by omega) (fun x hx => ?_)
  rw [Int.toNat_natCast, rm_get _ hk] at hx
  cases hx; exact hK
/-! the document -/
structure SD where
  tg : Bool
  nd : Int
  tag : Int
  v : Nat → Int
  x : Nat → Int
  u : Nat → Bool
  a : Nat → Int
  m : Nat → Int
  sn : Nat → Int
  st : Nat → Int
  sx : Nat → Int
structure SS where
  V : SV
  X : SV
  U : SV
  A : SV
  M : SV
  N : SV
  T : SV
  Y : SV
structure StR (ro : Addr → Option Value) (n : Nat) (d : SD) (S : SS) : Prop where
  v : RdSl ⟨[], ro⟩ S.V (ints (rm 4 d.v))
  x : RdSl ⟨[], ro⟩ S.X (ints (rm 4 d.x))
  u : RdSl ⟨[], ro⟩ S.U (bs d.u)
  a : RdSl ⟨[], ro⟩ S.A (ints (rm n d.a))
  m : RdSl ⟨[], ro⟩ S.M (ints (rm n d.m))
  sn : RdSl ⟨[], ro⟩ S.N (ints (rm n d.sn))
  st : RdSl ⟨[], ro⟩ S.T (ints (rm n d.st))
  sx : RdSl ⟨[], ro⟩ S.Y (ints (rm n d.sx))
theorem StR.up {ro ro' : Addr → Option Value} {n : Nat} {d : SD} {S : SS} (r : StR ro n d S) (m : ∀ a v, ro a = some v → ro' a = some v) : StR ro' n d S :=
  ⟨r.v.mono (by simp) m, r.x.mono (by simp) m, r.u.mono (by simp) m, r.a.mono (by simp) m, r.m.mono (by simp) m, r.sn.mono (by simp) m, r.st.mono (by simp) m, r.sx.mono (by simp) m⟩
def sdC (d : SD) (S : SS) : List Value := skC d.tg d.nd d.tag S.V S.X S.U S.A S.M S.N S.T S.Y
def sdE (r : Nat) (d : SD) (S : SS) : Ent := skE r d.tg d.nd d.tag S.V S.X S.U S.A S.M S.N S.T S.Y
def zV : SV := ⟨none, 0, 0⟩
def skZ (r : Nat) : Ent := skE r false 0 0 zV zV zV zV zV zV zV zV
theorem sd_w {own C : List Ent} {ro : Addr → Option Value} {r1 : Nat} {d : SD} {S : SS} {j : Nat} {v : Value} {K : H → Prop} (d' : SD) (S' : SS) (h1 : v.oneCell' = true) (hj : 0 + j + 1 ≤ 11) (hs : spl (sdC d S) (0 + j) [v] = sdC d' S')
    (hK : K ⟨own ++ sdE r1 d' S' :: C, ro⟩) : H.wr ⟨own ++ sdE r1 d S :: C, ro⟩ (Addr.add (Addr.mk r1 0 none) j) [v] K :=
  sk_w d'.tg d'.nd d'.tag S'.V S'.X S'.U S'.A S'.M S'.N S'.T S'.Y h1 hj hs hK
def sdP (e : Int) (d : SD) (S : SS) : Value := .tuple (List.toArray [.agg (List.toArray (sdC d S)), .int .i64 e])
def sdQ (dn : Bool) (g e : Int) (d : SD) (S : SS) : Value := .tuple (List.toArray [.agg (List.toArray (sdC d S)), .bool dn, .int .i64 g, .int .i64 e])
def dPut (d : SD) (k : Nat) (v : Int) : SD := { d with u := updN d.u (kLeast d.u) true, v := updN d.v (kLeast d.u) v, m := updN d.m k (kLeast d.u), a := updN d.a k 1 }
set_option maxHeartbeats 2000000 in
theorem ref_sbegin_c {n : Nat} {q value : Int} {d : SD} {S : SS} {own : List Ent} {ro : Addr → Option Value} {post : Value → H → Prop} (hr : StR ro n d S) (hn : n ≤ 4)
    (h1 : ¬ (0 ≤ q ∧ q ≤ (n : Int) - 1) → post (sdP 1 d S) ⟨own, ro⟩)
    (h7 : ∀ k : Nat, q = k → k < n → d.a k ≠ 0 → post (sdP 7 d S) ⟨own, ro⟩)
    (h3 : ∀ k : Nat, q = k → k < n → d.a k = 0 → value < 0 → ∀ S' ro', (∀ a v, ro a = some v → ro' a = some v) → StR ro' n { d with a := updN d.a k 3 } S' → post (sdP 0 { d with a := updN d.a k 3 } S') ⟨own, ro'⟩)
    (h4 : ∀ k : Nat, q = k → k < n → d.a k = 0 → 0 ≤ value → kLeast d.u = 4 → post (sdP 4 d S) ⟨own, ro⟩)
    (h0 : ∀ k : Nat, q = k → k < n → d.a k = 0 → 0 ≤ value → kLeast d.u ≠ 4 → ∀ S' ro', (∀ a v, ro a = some v → ro' a = some v) → StR ro' n (dPut d k value) S' → post (sdP 0 (dPut d k value) S') ⟨own, ro'⟩) :
    SemCall Tryd.prog 9 (List.toArray [.agg (List.toArray (sdC d S)), .int .i64 q, .int .i64 value]) ⟨own, ro⟩ post := by
  have la := hr.a.len
  rw [ints_length, rm_len] at la
  refine f9_call _ _ _ _ _ _ _ _ _ _ _ _ _ _ post ?_
  refine new2 (n1 := 11) (n2 := 11) rfl rfl (fun r1 r3 => ?_)
  have m1 : ∀ {e : Ent} {Z : List Ent}, e ∈ own ++ e :: Z := by simp
  have fin : ∀ {ro : Addr → Option Value} {e : Int} {d : SD} {S : SS}, post (sdP e d S) ⟨own, ro⟩ → _ := fun {ro e d S} h =>
    sk_fin (own := own) (Y := []) (ro := ro) (r1 := r1) (r3 := r3) (a0 := d.tg) (a1 := d.nd) (a2 := d.tag) (a3 := S.V) (a4 := S.X) (a5 := S.U) (a6 := S.A) (a7 := S.M) (a8 := S.N) (a9 := S.T) (a10 := S.Y) (z0 := false) (z1 := 0) (z2 := 0) (z3 := zV) (z4 := zV) (z5 := zV) (z6 := zV) (z7 := zV) (z8 := zV) (z9 := zV) (z10 := zV) (Q := fun y0 y1 y2 y3 y4 y5 y6 y7 y8 y9 y10 => .tuple (List.toArray [.agg (List.toArray (skC y0 y1 y2 y3 y4 y5 y6 y7 y8 y9 y10)), .int .i64 e])) (post := post) h
  refine rS0 (sdE r1 d S) m1 rfl rfl ⟨⟨by omega, by omega⟩, ref3_in_c ⟨_, rfl, VIf_not (fun hc => fin (h1 (fun h => hc ⟨h.1, by omega⟩))) (fun hc => ?_)⟩⟩
  obtain ⟨k, rfl⟩ : ∃ k : Nat, q = (k : Int) := ⟨q.toNat, by omega⟩
  have hkn : k < n := by omega
  refine rS0 (sdE r1 d S) m1 rfl rfl (rm_ati hr.a hkn rfl (VIf_ne (fun hc => fin (h7 k rfl hkn hc)) (fun hc => VIf_dec (fun hneg => ?_) (fun hpos => ?_))))
  · refine rS0 (sdE r1 d S) m1 rfl rfl (ref3_upd_c hr.a (by omega) hkn rfl (fun A' ro2 q2 ha' => ⟨A', rfl, sd_w { d with a := updN d.a k 3 } { S with A := A' } rfl (by decide) rfl ?_⟩))
    have r2 := hr.up q2
    exact fin (h3 k rfl hkn hc hneg _ ro2 q2 { r2 with a := ha' })
  refine ⟨fun x h => x = (kLeast d.u : Int) ∧ h = ⟨own ++ [sdE r1 d S, skZ r3], ro⟩, ⟨fun m x h => h = ⟨own ++ [sdE r1 d S, skZ r3], ro⟩ ∧ ∃ j : Nat, x = j ∧ j ≤ 4 ∧ m = 4 - j ∧ ∀ i, i < j → d.u i = true, ⟨4, gi ⟨rfl, 0, rfl, by omega, rfl, fun i hi => by omega⟩⟩, ?_⟩, ?_⟩
  · rintro m _ _ _ ⟨rfl, j, rfl, hj4, rfl, hu⟩
    refine join_b (h := ⟨own ++ [sdE r1 d S, skZ r3], ro⟩) (decide (j < 4 ∧ d.u j = true)) (VIf_dec (fun hj => rS0 (sdE r1 d S) m1 rfl rfl (bs_at hr.u (by omega) (gi ⟨rfl, ?_⟩))) (fun hj => gi ⟨rfl, (decide_eq_false (fun h => hj (by omega))).symm⟩)) ?_
    · have h4 : j < 4 := by omega
      cases hb : d.u j
      · exact (decide_eq_false (fun h => by cases h.2)).symm
      · exact (decide_eq_true ⟨h4, rfl⟩).symm
    refine VIf_dec (fun hj => ⟨⟨by omega, by omega⟩, 4 - (j + 1), by omega, gi ⟨rfl, j + 1, by omega, by omega, rfl, fun i hi => ?_⟩⟩) (fun hj => gi ⟨?_, rfl⟩)
    · by_cases e : i = j
      · rw [e]; exact hj.2
      · exact hu i (by omega)
    · by_cases h4 : j < 4
      · have hz : d.u j = false := by
          cases hb : d.u j
          · rfl
          · exact absurd ⟨h4, hb⟩ hj
        rw [kLeast_lt hu h4 hz]
      · obtain rfl : j = 4 := by omega
        rw [kLeast_four hu]
  rintro _ _ _ ⟨rfl, rfl⟩
  refine VIf_eq (fun h => fin (h4 k rfl hkn hc (by omega) (by omega))) (fun h => ?_)
  have hl4 : kLeast d.u < 4 := by have := kLeast_le d.u; omega
  refine rS0 (sdE r1 d S) m1 rfl rfl (ref3_used_c hr.u hl4 rfl (fun U' ro1 q1 hu' => ⟨U', rfl, sd_w { d with u := updN d.u (kLeast d.u) true } { S with U := U' } rfl (by decide) rfl ?_⟩))
  refine rS0 (sdE r1 { d with u := updN d.u (kLeast d.u) true } { S with U := U' }) m1 rfl rfl (ref3_upd_c (hr.v.mono (by simp) q1) (by omega) hl4 rfl (fun V' ro2 q2 hv' => ⟨V', rfl, sd_w { d with u := updN d.u (kLeast d.u) true, v := updN d.v (kLeast d.u) value } { S with U := U', V := V' } rfl (by decide) rfl ?_⟩))
  have q12 : ∀ a v, ro a = some v → ro2 a = some v := fun a v h => q2 a v (q1 a v h)
  refine rS0 (sdE r1 { d with u := updN d.u (kLeast d.u) true, v := updN d.v (kLeast d.u) value } { S with U := U', V := V' }) m1 rfl rfl (ref3_upd_c (hr.m.mono (by simp) q12) (by omega) hkn rfl (fun M' ro3 q3 hm' => ⟨M', rfl, sd_w { d with u := updN d.u (kLeast d.u) true, v := updN d.v (kLeast d.u) value, m := updN d.m k (kLeast d.u) } { S with U := U', V := V', M := M' } rfl (by decide) rfl ?_⟩))
  have q13 : ∀ a v, ro a = some v → ro3 a = some v := fun a v h => q3 a v (q12 a v h)
  refine rS0 (sdE r1 { d with u := updN d.u (kLeast d.u) true, v := updN d.v (kLeast d.u) value, m := updN d.m k (kLeast d.u) } { S with U := U', V := V', M := M' }) m1 rfl rfl (ref3_upd_c (hr.a.mono (by simp) q13) (by omega) hkn rfl (fun A' ro4 q4 ha' => ⟨A', rfl, sd_w (dPut d k value) { S with U := U', V := V', M := M', A := A' } rfl (by decide) rfl ?_⟩))
  have q14 : ∀ a v, ro a = some v → ro4 a = some v := fun a v h => q4 a v (q13 a v h)
  have r4 := hr.up q14
  exact fin (h0 k rfl hkn hc (by omega) (by omega) _ ro4 q14 ⟨hv'.mono (by simp) (fun a v h => q4 a v (q3 a v h)), r4.x, hu'.mono (by simp) (fun a v h => q4 a v (q3 a v (q2 a v h))), ha', hm'.mono (by simp) q4, r4.sn, r4.st, r4.sx⟩)
end Go.Proofs.YtogbkgimpkaemaaDoor
