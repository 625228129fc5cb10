import Derived.Test.YtogbkgimpkaemaaEngG
import Derived.Test.YtogbkgimpkaemaaRows
import Derived.Test.YtogbkgimpkaemaaT
namespace Go.Proofs.Ytogbkgimpkaemaa
open Go.Eng
/- latchgarth/ring.New -/
def f8_sem (p0_size : Int) (h0 : H) (post : Value → H → Prop) : Prop :=
 SemCall Go.Proofs.Try.prog 26 (List.toArray [(Value.int .i64 p0_size), (Value.int .i64 (1 : Int)), (Value.int .i64 (8 : Int))]) h0 fun v1 h2 =>
 ∃ x3 : Bool, v1 = (Value.bool x3) ∧
 VIf (!x3) (
 VRet h2 (Value.tuple (List.toArray [(Value.pointer none), (Value.iface 57 (Value.int .i64 (1 : Int)))])) post) (
 0 ≤ p0_size ∧ p0_size ≤ p0_size ∧ ((8 : Nat) : Int) * p0_size ≤ 140737488355328 ∧ p0_size ≤ 1000000000 ∧
 H.new h2 (repl (p0_size).toNat [(Value.int .i64 0)]) fun r4 h5 =>
 H.new h5 [(Value.slice (some (Addr.mk r4 0 none)) ((p0_size).toNat) ((p0_size).toNat)), (Value.int .i64 0), (Value.int .i64 0), (Value.int .i64 0), (Value.int .i64 0), (Value.int .i64 0), (Value.int .i64 0)] fun r6 h7 =>
 VRet h7 (Value.tuple (List.toArray [(Value.pointer (some (Addr.mk r6 0 none))), Value.nilIface])) post)

def f8_hint : Hint := .leaf

theorem f8_eq (p0_size : Int) (h0 : H) (post : Value → H → Prop) : exec Try.prog (bodyOf Try.f8) f8_hint (retQ Try.prog Try.f8 post) (F0 [(Value.int .i64 p0_size)]) h0 = f8_sem p0_size h0 post := by kernel_rfl

set_option maxRecDepth 20000 in
theorem f8_call (p0_size : Int) (h0 : H) (post : Value → H → Prop) (hx : f8_sem p0_size h0 post) : SemCall Try.prog 8 (List.toArray [(Value.int .i64 p0_size)]) h0 post :=
 sem_of_exec (g := f8_hint) mixed Try.func8 (bodyOf_eq (by kernel_rfl)) (by kernel_rfl) ((f8_eq p0_size h0 post).mpr hx)

/- (*latchgarth/ring.Ring).Put -/
def f10_sem (p0_r : Option Addr) (p1_value : Int) (h0 : H) (post : Value → H → Prop) : Prop :=
 SemCall Go.Proofs.Try.prog 26 (List.toArray [(Value.int .i64 p1_value), (Value.int .i64 0), (Value.int .i64 (1000 : Int))]) h0 fun v1 h2 =>
 ∃ x3 : Bool, v1 = (Value.bool x3) ∧
 VIf (!x3) (
 VRet h2 (Value.iface 57 (Value.int .i64 (1 : Int))) post) (
 ∃ a4 : Addr, p0_r = some a4 ∧
 ∃ x5 : Int, H.rd h2 (Addr.add (Addr.add (Addr.add a4 3) 0) 0) (Value.int .i64 x5) ∧
 VIf (x5 != (0 : Int)) (
 VRet h2 (Value.iface 57 (Value.int .i64 (7 : Int))) post) (
 ∃ a6 : Addr, p0_r = some a6 ∧
 ([(Value.int .i64 (1 : Int)), (Value.int .i64 p1_value)]).length = 2 ∧ (Program.underlying Go.Proofs.Try.prog 59).isSome = true ∧
 H.wr h2 (Addr.add a6 3) ([(Value.int .i64 (1 : Int)), (Value.int .i64 p1_value)]) fun h7 =>
 VRet h7 Value.nilIface post))

def f10_hint : Hint := .leaf

theorem f10_eq (p0_r : Option Addr) (p1_value : Int) (h0 : H) (post : Value → H → Prop) : exec Try.prog (bodyOf Try.f10) f10_hint (retQ Try.prog Try.f10 post) (F0 [(Value.pointer p0_r), (Value.int .i64 p1_value)]) h0 = f10_sem p0_r p1_value h0 post := by kernel_rfl

set_option maxRecDepth 20000 in
theorem f10_call (p0_r : Option Addr) (p1_value : Int) (h0 : H) (post : Value → H → Prop) (hx : f10_sem p0_r p1_value h0 post) : SemCall Try.prog 10 (List.toArray [(Value.pointer p0_r), (Value.int .i64 p1_value)]) h0 post :=
 sem_of_exec (g := f10_hint) mixed Try.func10 (bodyOf_eq (by kernel_rfl)) (by kernel_rfl) ((f10_eq p0_r p1_value h0 post).mpr hx)

/- (*latchgarth/ring.Ring).StepPut -/
def f12_sem (p0_r : Option Addr) (h0 : H) (post : Value → H → Prop) : Prop :=
 ∃ a1 : Addr, p0_r = some a1 ∧
 ∃ x2 : Int, H.rd h0 (Addr.add (Addr.add (Addr.add a1 3) 0) 0) (Value.int .i64 x2) ∧
 VIf (x2 == (0 : Int)) (
 VRet h0 (Value.tuple (List.toArray [(Value.bool false), (Value.bool false), (Value.iface 57 (Value.int .i64 (7 : Int)))])) post) (
 ∃ R3 : H → Prop, (
 VIf (x2 == (1 : Int)) (
 ∃ a4 : Addr, p0_r = some a4 ∧
 ∃ x5 : Int, H.rd h0 (Addr.add (Addr.add a4 2) 0) (Value.int .i64 x5) ∧
 ∃ a6 : Addr, p0_r = some a6 ∧
 ∃ x7 : Int, H.rd h0 (Addr.add (Addr.add a6 1) 0) (Value.int .i64 x7) ∧
 In64 (x5 - x7) ∧
 ∃ a8 : Addr, p0_r = some a8 ∧
 ∃ x9 : SV, H.rd h0 (Addr.add (Addr.add a8 0) 0) (Value.slice x9.a x9.len x9.cap) ∧
 VIf ((x5 - x7) == ((x9.len : Nat) : Int)) (
 ∃ a10 : Addr, p0_r = some a10 ∧
 ([(Value.int .i64 0), (Value.int .i64 0)]).length = 2 ∧ (Program.underlying Go.Proofs.Try.prog 59).isSome = true ∧
 H.wr h0 (Addr.add a10 3) ([(Value.int .i64 0), (Value.int .i64 0)]) fun h11 =>
 VRet h11 (Value.tuple (List.toArray [(Value.bool true), (Value.bool false), Value.nilIface])) post) (
 (∃ h12, Gh h0 h12 ∧ R3 h12))) (
 VIf (x2 == (2 : Int)) (
 ∃ a13 : Addr, p0_r = some a13 ∧
 ∃ x14 : SV, H.rd h0 (Addr.add (Addr.add a13 0) 0) (Value.slice x14.a x14.len x14.cap) ∧
 ∃ a15 : Addr, p0_r = some a15 ∧
 ∃ x16 : Int, H.rd h0 (Addr.add (Addr.add a15 2) 0) (Value.int .i64 x16) ∧
 ∃ a17 : Addr, p0_r = some a17 ∧
 ∃ x18 : SV, H.rd h0 (Addr.add (Addr.add a17 0) 0) (Value.slice x18.a x18.len x18.cap) ∧
 ((x18.len : Nat) : Int) ≠ 0 ∧
 ∃ a19 : Addr, p0_r = some a19 ∧
 ∃ x20 : Int, H.rd h0 (Addr.add (Addr.add (Addr.add a19 3) 1) 0) (Value.int .i64 x20) ∧
 ∃ b21 : Addr, x14.a = some b21 ∧ 0 ≤ (Int.tmod x16 ((x18.len : Nat) : Int)) ∧ (Int.tmod x16 ((x18.len : Nat) : Int)) < ((x14.len : Nat) : Int) ∧
 H.wr h0 (Addr.add b21 (((Int.tmod x16 ((x18.len : Nat) : Int))).toNat * 1)) ([(Value.int .i64 x20)]) fun h22 =>
 (∃ h23, Gh h22 h23 ∧ R3 h23)) (
 VIf (x2 == (3 : Int)) (
 ∃ a24 : Addr, p0_r = some a24 ∧
 ∃ x25 : Int, H.rd h0 (Addr.add (Addr.add a24 2) 0) (Value.int .i64 x25) ∧
 In64 (x25 + (1 : Int)) ∧
 ∃ a26 : Addr, p0_r = some a26 ∧
 H.wr h0 (Addr.add a26 2) ([(Value.int .i64 (x25 + (1 : Int)))]) fun h27 =>
 ∃ a28 : Addr, p0_r = some a28 ∧
 ([(Value.int .i64 0), (Value.int .i64 0)]).length = 2 ∧ (Program.underlying Go.Proofs.Try.prog 59).isSome = true ∧
 H.wr h27 (Addr.add a28 3) ([(Value.int .i64 0), (Value.int .i64 0)]) fun h29 =>
 VRet h29 (Value.tuple (List.toArray [(Value.bool true), (Value.bool true), Value.nilIface])) post) (
 (∃ h30, Gh h0 h30 ∧ R3 h30))))) ∧
 ∀ (_ : F) (h31 : H), R3 h31 →
 ∃ a32 : Addr, p0_r = some a32 ∧
 ∃ x33 : Int, H.rd h31 (Addr.add (Addr.add (Addr.add a32 3) 0) 0) (Value.int .i64 x33) ∧
 In64 (x33 + (1 : Int)) ∧
 ∃ a34 : Addr, p0_r = some a34 ∧
 H.wr h31 (Addr.add (Addr.add a34 3) 0) ([(Value.int .i64 (x33 + (1 : Int)))]) fun h35 =>
 VRet h35 (Value.tuple (List.toArray [(Value.bool false), (Value.bool false), Value.nilIface])) post)

def f12_hint : Hint := (.node .leaf (.node (.node .leaf (.node (.node .leaf (.node .leaf (.node .leaf (.join [] (.node .leaf (.node .leaf (.node (.tail 20) .leaf))))))) .leaf)) .leaf))

theorem f12_eq (p0_r : Option Addr) (h0 : H) (post : Value → H → Prop) : exec Try.prog (bodyOf Try.f12) f12_hint (retQ Try.prog Try.f12 post) (F0 [(Value.pointer p0_r)]) h0 = f12_sem p0_r h0 post := by kernel_rfl

set_option maxRecDepth 20000 in
theorem f12_call (p0_r : Option Addr) (h0 : H) (post : Value → H → Prop) (hx : f12_sem p0_r h0 post) : SemCall Try.prog 12 (List.toArray [(Value.pointer p0_r)]) h0 post :=
 sem_of_exec (g := f12_hint) mixed Try.func12 (bodyOf_eq (by kernel_rfl)) (by kernel_rfl) ((f12_eq p0_r h0 post).mpr hx)

/- (*latchgarth/ring.Ring).Get -/
def f14_sem (p0_r : Option Addr) (h0 : H) (post : Value → H → Prop) : Prop :=
 ∃ a1 : Addr, p0_r = some a1 ∧
 ∃ x2 : Int, H.rd h0 (Addr.add (Addr.add (Addr.add a1 5) 0) 0) (Value.int .i64 x2) ∧
 VIf (x2 != (0 : Int)) (
 VRet h0 (Value.iface 57 (Value.int .i64 (7 : Int))) post) (
 ∃ a3 : Addr, p0_r = some a3 ∧
 ([(Value.int .i64 (4 : Int)), (Value.int .i64 0)]).length = 2 ∧ (Program.underlying Go.Proofs.Try.prog 59).isSome = true ∧
 H.wr h0 (Addr.add a3 5) ([(Value.int .i64 (4 : Int)), (Value.int .i64 0)]) fun h4 =>
 VRet h4 Value.nilIface post)

def f14_hint : Hint := .leaf

theorem f14_eq (p0_r : Option Addr) (h0 : H) (post : Value → H → Prop) : exec Try.prog (bodyOf Try.f14) f14_hint (retQ Try.prog Try.f14 post) (F0 [(Value.pointer p0_r)]) h0 = f14_sem p0_r h0 post := by kernel_rfl

set_option maxRecDepth 20000 in
theorem f14_call (p0_r : Option Addr) (h0 : H) (post : Value → H → Prop) (hx : f14_sem p0_r h0 post) : SemCall Try.prog 14 (List.toArray [(Value.pointer p0_r)]) h0 post :=
 sem_of_exec (g := f14_hint) mixed Try.func14 (bodyOf_eq (by kernel_rfl)) (by kernel_rfl) ((f14_eq p0_r h0 post).mpr hx)

/- (*latchgarth/ring.Ring).StepGet -/
def f15_sem (p0_r : Option Addr) (h0 : H) (post : Value → H → Prop) : Prop :=
 ∃ a1 : Addr, p0_r = some a1 ∧
 ∃ x2 : Int, H.rd h0 (Addr.add (Addr.add (Addr.add a1 5) 0) 0) (Value.int .i64 x2) ∧
 VIf (x2 == (0 : Int)) (
 VRet h0 (Value.tuple (List.toArray [(Value.bool false), (Value.int .i64 0), (Value.iface 57 (Value.int .i64 (7 : Int)))])) post) (
 ∃ R3 : H → Prop, (
 VIf (x2 == (4 : Int)) (
 ∃ a4 : Addr, p0_r = some a4 ∧
 ∃ x5 : Int, H.rd h0 (Addr.add (Addr.add a4 2) 0) (Value.int .i64 x5) ∧
 ∃ a6 : Addr, p0_r = some a6 ∧
 ∃ x7 : Int, H.rd h0 (Addr.add (Addr.add a6 1) 0) (Value.int .i64 x7) ∧
 VIf (x5 == x7) (
 ∃ a8 : Addr, p0_r = some a8 ∧
 ([(Value.int .i64 0), (Value.int .i64 0)]).length = 2 ∧ (Program.underlying Go.Proofs.Try.prog 59).isSome = true ∧
 H.wr h0 (Addr.add a8 5) ([(Value.int .i64 0), (Value.int .i64 0)]) fun h9 =>
 VRet h9 (Value.tuple (List.toArray [(Value.bool true), (Value.int .i64 (-1 : Int)), Value.nilIface])) post) (
 (∃ h10, Gh h0 h10 ∧ R3 h10))) (
 VIf (x2 == (5 : Int)) (
 ∃ a11 : Addr, p0_r = some a11 ∧
 ∃ x12 : SV, H.rd h0 (Addr.add (Addr.add a11 0) 0) (Value.slice x12.a x12.len x12.cap) ∧
 ∃ a13 : Addr, p0_r = some a13 ∧
 ∃ x14 : Int, H.rd h0 (Addr.add (Addr.add a13 1) 0) (Value.int .i64 x14) ∧
 ∃ a15 : Addr, p0_r = some a15 ∧
 ∃ x16 : SV, H.rd h0 (Addr.add (Addr.add a15 0) 0) (Value.slice x16.a x16.len x16.cap) ∧
 ((x16.len : Nat) : Int) ≠ 0 ∧
 ∃ b17 : Addr, x12.a = some b17 ∧ 0 ≤ (Int.tmod x14 ((x16.len : Nat) : Int)) ∧ (Int.tmod x14 ((x16.len : Nat) : Int)) < ((x12.len : Nat) : Int) ∧
 ∃ x18 : Int, H.rd h0 (Addr.add (Addr.add b17 (((Int.tmod x14 ((x16.len : Nat) : Int))).toNat * 1)) 0) (Value.int .i64 x18) ∧
 ∃ a19 : Addr, p0_r = some a19 ∧
 H.wr h0 (Addr.add (Addr.add a19 5) 1) ([(Value.int .i64 x18)]) fun h20 =>
 (∃ h21, Gh h20 h21 ∧ R3 h21)) (
 VIf (x2 == (6 : Int)) (
 ∃ a22 : Addr, p0_r = some a22 ∧
 ∃ x23 : Int, H.rd h0 (Addr.add (Addr.add (Addr.add a22 5) 1) 0) (Value.int .i64 x23) ∧
 ∃ a24 : Addr, p0_r = some a24 ∧
 ∃ x25 : Int, H.rd h0 (Addr.add (Addr.add a24 1) 0) (Value.int .i64 x25) ∧
 In64 (x25 + (1 : Int)) ∧
 ∃ a26 : Addr, p0_r = some a26 ∧
 H.wr h0 (Addr.add a26 1) ([(Value.int .i64 (x25 + (1 : Int)))]) fun h27 =>
 ∃ a28 : Addr, p0_r = some a28 ∧
 ([(Value.int .i64 0), (Value.int .i64 0)]).length = 2 ∧ (Program.underlying Go.Proofs.Try.prog 59).isSome = true ∧
 H.wr h27 (Addr.add a28 5) ([(Value.int .i64 0), (Value.int .i64 0)]) fun h29 =>
 VRet h29 (Value.tuple (List.toArray [(Value.bool true), (Value.int .i64 x23), Value.nilIface])) post) (
 (∃ h30, Gh h0 h30 ∧ R3 h30))))) ∧
 ∀ (_ : F) (h31 : H), R3 h31 →
 ∃ a32 : Addr, p0_r = some a32 ∧
 ∃ x33 : Int, H.rd h31 (Addr.add (Addr.add (Addr.add a32 5) 0) 0) (Value.int .i64 x33) ∧
 In64 (x33 + (1 : Int)) ∧
 ∃ a34 : Addr, p0_r = some a34 ∧
 H.wr h31 (Addr.add (Addr.add a34 5) 0) ([(Value.int .i64 (x33 + (1 : Int)))]) fun h35 =>
 VRet h35 (Value.tuple (List.toArray [(Value.bool false), (Value.int .i64 0), Value.nilIface])) post)

def f15_hint : Hint := (.node .leaf (.node (.node .leaf (.node (.node .leaf (.node .leaf (.node .leaf (.join [] (.node .leaf (.node .leaf (.node (.tail 20) .leaf))))))) .leaf)) .leaf))

theorem f15_eq (p0_r : Option Addr) (h0 : H) (post : Value → H → Prop) : exec Try.prog (bodyOf Try.f15) f15_hint (retQ Try.prog Try.f15 post) (F0 [(Value.pointer p0_r)]) h0 = f15_sem p0_r h0 post := by kernel_rfl

set_option maxRecDepth 20000 in
theorem f15_call (p0_r : Option Addr) (h0 : H) (post : Value → H → Prop) (hx : f15_sem p0_r h0 post) : SemCall Try.prog 15 (List.toArray [(Value.pointer p0_r)]) h0 post :=
 sem_of_exec (g := f15_hint) mixed Try.func15 (bodyOf_eq (by kernel_rfl)) (by kernel_rfl) ((f15_eq p0_r h0 post).mpr hx)

end Go.Proofs.Ytogbkgimpkaemaa
