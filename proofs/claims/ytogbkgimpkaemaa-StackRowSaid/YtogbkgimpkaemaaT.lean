import Derived.Test.YtogbkgimpkaemaaEngG
import Derived.Test.YtogbkgimpkaemaaRows
namespace Go.Proofs.Ytogbkgimpkaemaa
open Go.Eng
theorem mixed : Try.prog.follows .mixedOrders = true := by kernel_rfl
/- latchgarth/latchgarthlaw3.in -/
def f17_sem (p0_n : Int) (p1_low : Int) (p2_high : Int) (h0 : H) (post : Value → H → Prop) : Prop :=
 ∃ R1 : Bool → H → Prop, (
 VIf (decide (p0_n ≥ p1_low)) (
 (∃ h2, Gh h0 h2 ∧ R1 (decide (p0_n ≤ p2_high)) h2)) (
 (∃ h3, Gh h0 h3 ∧ R1 false h3))) ∧
 ∀ (_ : F) (x4 : Bool) (h5 : H), R1 x4 h5 →
 VRet h5 (Value.bool x4) post

def f17_hint : Hint := (.node .leaf (.node (.join [(6, .bool)] .leaf) .leaf))

theorem f17_eq (p0_n : Int) (p1_low : Int) (p2_high : Int) (h0 : H) (post : Value → H → Prop) : exec Try.prog (bodyOf Try.f17) f17_hint (retQ Try.prog Try.f17 post) (F0 [(Value.int .i64 p0_n), (Value.int .i64 p1_low), (Value.int .i64 p2_high)]) h0 = f17_sem p0_n p1_low p2_high h0 post := by kernel_rfl

set_option maxRecDepth 20000 in
theorem f17_call (p0_n : Int) (p1_low : Int) (p2_high : Int) (h0 : H) (post : Value → H → Prop) (hx : f17_sem p0_n p1_low p2_high h0 post) : SemCall Try.prog 17 (List.toArray [(Value.int .i64 p0_n), (Value.int .i64 p1_low), (Value.int .i64 p2_high)]) h0 post :=
 sem_of_exec (g := f17_hint) mixed Try.func17 (bodyOf_eq (by kernel_rfl)) (by kernel_rfl) ((f17_eq p0_n p1_low p2_high h0 post).mpr hx)

/- latchgarth/latchgarthsame.Ints -/
def f19_L1 (p0_a : SV) (p1_b : SV) (post : Value → H → Prop) (R1 : H → Prop) (I2 : Nat → Int → H → Prop) (n3 : Nat) (x6_i : Int) (h7 : H) : Prop :=
 VIf (decide (x6_i < ((p0_a.len : Nat) : Int))) (
 ∃ b8 : Addr, p0_a.a = some b8 ∧ 0 ≤ x6_i ∧ x6_i < ((p0_a.len : Nat) : Int) ∧
 ∃ x9 : Int, H.rd h7 (Addr.add (Addr.add b8 ((x6_i).toNat * 1)) 0) (Value.int .i64 x9) ∧
 ∃ b10 : Addr, p1_b.a = some b10 ∧ 0 ≤ x6_i ∧ x6_i < ((p1_b.len : Nat) : Int) ∧
 ∃ x11 : Int, H.rd h7 (Addr.add (Addr.add b10 ((x6_i).toNat * 1)) 0) (Value.int .i64 x11) ∧
 VIf (x9 != x11) (
 VRet h7 (Value.bool false) post) (
 In64 (x6_i + (1 : Int)) ∧
 ∃ m4, m4 < n3 ∧ (∃ h12, Gh h7 h12 ∧ I2 m4 (x6_i + (1 : Int)) h12))) (
 (∃ h13, Gh h7 h13 ∧ R1 h13))

def f19_sem (p0_a : SV) (p1_b : SV) (h0 : H) (post : Value → H → Prop) : Prop :=
 VIf (((p0_a.len : Nat) : Int) != ((p1_b.len : Nat) : Int)) (
 VRet h0 (Value.bool false) post) (
 ∃ R1 : H → Prop, (
 ∃ I2 : Nat → Int → H → Prop, (∃ n3, (∃ h5, Gh h0 h5 ∧ I2 n3 (0 : Int) h5)) ∧
 ∀ (n3 : Nat) (_ : F) (x6_i : Int) (h7 : H), I2 n3 x6_i h7 →
 f19_L1 p0_a p1_b post R1 I2 n3 x6_i h7) ∧
 ∀ (_ : F) (h14 : H), R1 h14 →
 VRet h14 (Value.bool true) post)

def f19_hint : Hint := (.node .leaf (.node .leaf (.node (.node .leaf (.join [] (.node (.loop [(5, .int)] .leaf) .leaf))) .leaf)))

theorem f19_eq (p0_a : SV) (p1_b : SV) (h0 : H) (post : Value → H → Prop) : exec Try.prog (bodyOf Try.f19) f19_hint (retQ Try.prog Try.f19 post) (F0 [(Value.slice p0_a.a p0_a.len p0_a.cap), (Value.slice p1_b.a p1_b.len p1_b.cap)]) h0 = f19_sem p0_a p1_b h0 post := by kernel_rfl

set_option maxRecDepth 20000 in
theorem f19_call (p0_a : SV) (p1_b : SV) (h0 : H) (post : Value → H → Prop) (hx : f19_sem p0_a p1_b h0 post) : SemCall Try.prog 19 (List.toArray [(Value.slice p0_a.a p0_a.len p0_a.cap), (Value.slice p1_b.a p1_b.len p1_b.cap)]) h0 post :=
 sem_of_exec (g := f19_hint) mixed Try.func19 (bodyOf_eq (by kernel_rfl)) (by kernel_rfl) ((f19_eq p0_a p1_b h0 post).mpr hx)

/- latchgarth/stack.New -/
def f20_sem (p0_n : Int) (p1_tags : Bool) (h0 : H) (post : Value → H → Prop) : Prop :=
 SemCall Go.Proofs.Try.prog 25 (List.toArray [(Value.int .i64 p0_n)]) h0 fun v1 h2 =>
 ∃ x3 : Option (TypeId × Value), v1 = (errV x3) ∧
 isIfaceV (errV x3) = true ∧
 VIf (!(isNilV (errV x3))) (
 VRet h2 (Value.tuple (List.toArray [(Value.pointer none), (errV x3)])) post) (
 0 ≤ p0_n ∧ p0_n ≤ p0_n ∧ ((40 : Nat) : Int) * p0_n ≤ 140737488355328 ∧ p0_n ≤ 1000000000 ∧
 H.new h2 (repl (p0_n).toNat [(Value.int .i64 0), (Value.int .i64 0), (Value.int .i64 0), (Value.int .i64 0), (Value.int .i64 0)]) fun r4 h5 =>
 H.new h5 [(Value.bool p1_tags), (Value.int .i64 (-1 : Int)), (Value.int .i64 0), (Value.int .i64 0), (Value.int .i64 0), (Value.bool false), (Value.int .i64 0), (Value.int .i64 0), (Value.bool false), (Value.int .i64 0), (Value.int .i64 0), (Value.bool false), (Value.int .i64 0), (Value.int .i64 0), (Value.bool false), (Value.slice (some (Addr.mk r4 0 none)) ((p0_n).toNat) ((p0_n).toNat))] fun r6 h7 =>
 VRet h7 (Value.tuple (List.toArray [(Value.pointer (some (Addr.mk r6 0 none))), Value.nilIface])) post)

def f20_hint : Hint := .leaf

theorem f20_eq (p0_n : Int) (p1_tags : Bool) (h0 : H) (post : Value → H → Prop) : exec Try.prog (bodyOf Try.f20) f20_hint (retQ Try.prog Try.f20 post) (F0 [(Value.int .i64 p0_n), (Value.bool p1_tags)]) h0 = f20_sem p0_n p1_tags h0 post := by kernel_rfl

set_option maxRecDepth 20000 in
theorem f20_call (p0_n : Int) (p1_tags : Bool) (h0 : H) (post : Value → H → Prop) (hx : f20_sem p0_n p1_tags h0 post) : SemCall Try.prog 20 (List.toArray [(Value.int .i64 p0_n), (Value.bool p1_tags)]) h0 post :=
 sem_of_exec (g := f20_hint) mixed Try.func20 (bodyOf_eq (by kernel_rfl)) (by kernel_rfl) ((f20_eq p0_n p1_tags h0 post).mpr hx)

/- (*latchgarth/stack.Stack).Pop -/
def f21_sem (p0_s : Option Addr) (p1_p : Int) (h0 : H) (post : Value → H → Prop) : Prop :=
 SemCall Go.Proofs.Try.prog 30 (List.toArray [(Value.pointer p0_s), (Value.int .i64 p1_p)]) h0 fun v1 h2 =>
 ∃ x3 : Option (TypeId × Value), v1 = (errV x3) ∧
 isIfaceV (errV x3) = true ∧
 VIf (!(isNilV (errV x3))) (
 VRet h2 (errV x3) post) (
 ∃ a4 : Addr, p0_s = some a4 ∧
 ∃ x5 : SV, H.rd h2 (Addr.add (Addr.add a4 15) 0) (Value.slice x5.a x5.len x5.cap) ∧
 ∃ b6 : Addr, x5.a = some b6 ∧ 0 ≤ p1_p ∧ p1_p < ((x5.len : Nat) : Int) ∧
 ([(Value.int .i64 (3 : Int)), (Value.int .i64 0), (Value.int .i64 0), (Value.int .i64 0), (Value.int .i64 0)]).length = 5 ∧ (Program.underlying Go.Proofs.Try.prog 78).isSome = true ∧
 H.wr h2 (Addr.add b6 ((p1_p).toNat * 5)) ([(Value.int .i64 (3 : Int)), (Value.int .i64 0), (Value.int .i64 0), (Value.int .i64 0), (Value.int .i64 0)]) fun h7 =>
 VRet h7 Value.nilIface post)

def f21_hint : Hint := .leaf

theorem f21_eq (p0_s : Option Addr) (p1_p : Int) (h0 : H) (post : Value → H → Prop) : exec Try.prog (bodyOf Try.f21) f21_hint (retQ Try.prog Try.f21 post) (F0 [(Value.pointer p0_s), (Value.int .i64 p1_p)]) h0 = f21_sem p0_s p1_p h0 post := by kernel_rfl

set_option maxRecDepth 20000 in
theorem f21_call (p0_s : Option Addr) (p1_p : Int) (h0 : H) (post : Value → H → Prop) (hx : f21_sem p0_s p1_p h0 post) : SemCall Try.prog 21 (List.toArray [(Value.pointer p0_s), (Value.int .i64 p1_p)]) h0 post :=
 sem_of_exec (g := f21_hint) mixed Try.func21 (bodyOf_eq (by kernel_rfl)) (by kernel_rfl) ((f21_eq p0_s p1_p h0 post).mpr hx)

/- (*latchgarth/stack.Stack).Push -/
def f22_sem (p0_s : Option Addr) (p1_p : Int) (p2_value : Int) (h0 : H) (post : Value → H → Prop) : Prop :=
 SemCall Go.Proofs.Try.prog 26 (List.toArray [(Value.int .i64 p2_value), (Value.int .i64 0), (Value.int .i64 (1000 : Int))]) h0 fun v1 h2 =>
 ∃ x3 : Bool, v1 = (Value.bool x3) ∧
 VIf (!x3) (
 VRet h2 (Value.iface 57 (Value.int .i64 (1 : Int))) post) (
 SemCall Go.Proofs.Try.prog 30 (List.toArray [(Value.pointer p0_s), (Value.int .i64 p1_p)]) h2 fun v4 h5 =>
 ∃ x6 : Option (TypeId × Value), v4 = (errV x6) ∧
 isIfaceV (errV x6) = true ∧
 VIf (!(isNilV (errV x6))) (
 VRet h5 (errV x6) post) (
 ∃ a7 : Addr, p0_s = some a7 ∧
 SemCall Go.Proofs.Try.prog 31 (List.toArray [(Value.slice (some (Addr.add (Addr.add a7 3) 0)) 4 4), (Value.func (.func 32) #[] #[])]) h5 fun v8 h9 =>
 ∃ x10 : Int, v8 = (Value.int .i64 x10) ∧
 VIf (decide (x10 < (0 : Int))) (
 VRet h9 (Value.iface 57 (Value.int .i64 (4 : Int))) post) (
 ∃ a11 : Addr, p0_s = some a11 ∧
 0 ≤ x10 ∧ x10 < ((4 : Nat) : Int) ∧
 ∃ a12 : Addr, p0_s = some a12 ∧
 H.wr h9 (Addr.add (Addr.add (Addr.add a11 3) ((x10).toNat * 3)) 0) ([(Value.int .i64 p2_value)]) fun h13 =>
 0 ≤ x10 ∧ x10 < ((4 : Nat) : Int) ∧
 H.wr h13 (Addr.add (Addr.add (Addr.add a12 3) ((x10).toNat * 3)) 2) ([(Value.bool true)]) fun h14 =>
 ∃ a15 : Addr, p0_s = some a15 ∧
 ∃ x16 : SV, H.rd h14 (Addr.add (Addr.add a15 15) 0) (Value.slice x16.a x16.len x16.cap) ∧
 ∃ b17 : Addr, x16.a = some b17 ∧ 0 ≤ p1_p ∧ p1_p < ((x16.len : Nat) : Int) ∧
 ([(Value.int .i64 (1 : Int)), (Value.int .i64 x10), (Value.int .i64 0), (Value.int .i64 0), (Value.int .i64 0)]).length = 5 ∧ (Program.underlying Go.Proofs.Try.prog 78).isSome = true ∧
 H.wr h14 (Addr.add b17 ((p1_p).toNat * 5)) ([(Value.int .i64 (1 : Int)), (Value.int .i64 x10), (Value.int .i64 0), (Value.int .i64 0), (Value.int .i64 0)]) fun h18 =>
 VRet h18 Value.nilIface post)))

def f22_hint : Hint := (.node .leaf (.node .leaf (.node .leaf (.node .leaf (.node .leaf (.node .lex .leaf))))))

theorem f22_eq (p0_s : Option Addr) (p1_p : Int) (p2_value : Int) (h0 : H) (post : Value → H → Prop) : exec Try.prog (bodyOf Try.f22) f22_hint (retQ Try.prog Try.f22 post) (F0 [(Value.pointer p0_s), (Value.int .i64 p1_p), (Value.int .i64 p2_value)]) h0 = f22_sem p0_s p1_p p2_value h0 post := by kernel_rfl

set_option maxRecDepth 20000 in
theorem f22_call (p0_s : Option Addr) (p1_p : Int) (p2_value : Int) (h0 : H) (post : Value → H → Prop) (hx : f22_sem p0_s p1_p p2_value h0 post) : SemCall Try.prog 22 (List.toArray [(Value.pointer p0_s), (Value.int .i64 p1_p), (Value.int .i64 p2_value)]) h0 post :=
 sem_of_exec (g := f22_hint) mixed Try.func22 (bodyOf_eq (by kernel_rfl)) (by kernel_rfl) ((f22_eq p0_s p1_p p2_value h0 post).mpr hx)

/- (*latchgarth/stack.Stack).Step -/
def f23_sem (p0_s : Option Addr) (p1_p : Int) (h0 : H) (post : Value → H → Prop) : Prop :=
 ∃ a1 : Addr, p0_s = some a1 ∧
 ∃ x2 : SV, H.rd h0 (Addr.add (Addr.add a1 15) 0) (Value.slice x2.a x2.len x2.cap) ∧
 In64 (((x2.len : Nat) : Int) - (1 : Int)) ∧
 SemCall Go.Proofs.Try.prog 26 (List.toArray [(Value.int .i64 p1_p), (Value.int .i64 0), (Value.int .i64 (((x2.len : Nat) : Int) - (1 : Int)))]) h0 fun v3 h4 =>
 ∃ x5 : Bool, v3 = (Value.bool x5) ∧
 VIf (!x5) (
 VRet h4 (Value.tuple (List.toArray [(Value.bool false), (Value.int .i64 0), (Value.iface 57 (Value.int .i64 (1 : Int)))])) post) (
 ∃ a6 : Addr, p0_s = some a6 ∧
 ∃ x7 : SV, H.rd h4 (Addr.add (Addr.add a6 15) 0) (Value.slice x7.a x7.len x7.cap) ∧
 ∃ b8 : Addr, x7.a = some b8 ∧ 0 ≤ p1_p ∧ p1_p < ((x7.len : Nat) : Int) ∧
 ∃ a9 : Addr, (some (Addr.add b8 ((p1_p).toNat * 5))) = some a9 ∧
 ∃ x10 : Int, H.rd h4 (Addr.add (Addr.add a9 0) 0) (Value.int .i64 x10) ∧
 VIf (x10 == (0 : Int)) (
 VRet h4 (Value.tuple (List.toArray [(Value.bool false), (Value.int .i64 0), (Value.iface 57 (Value.int .i64 (7 : Int)))])) post) (
 VIf (x10 == (1 : Int)) (
 ∃ a11 : Addr, p0_s = some a11 ∧
 ∃ x12 : Int, H.rd h4 (Addr.add (Addr.add a11 1) 0) (Value.int .i64 x12) ∧
 ∃ x13 : Int, H.rd h4 (Addr.add (Addr.add a11 1) 1) (Value.int .i64 x13) ∧
 ∃ a14 : Addr, (some (Addr.add b8 ((p1_p).toNat * 5))) = some a14 ∧
 ([(Value.int .i64 x12), (Value.int .i64 x13)]).length = 2 ∧ (Program.underlying Go.Proofs.Try.prog 70).isSome = true ∧
 H.wr h4 (Addr.add a14 3) ([(Value.int .i64 x12), (Value.int .i64 x13)]) fun h15 =>
 ∃ a16 : Addr, (some (Addr.add b8 ((p1_p).toNat * 5))) = some a16 ∧
 ∃ x17 : Int, H.rd h15 (Addr.add (Addr.add a16 1) 0) (Value.int .i64 x17) ∧
 ∃ a18 : Addr, (some (Addr.add b8 ((p1_p).toNat * 5))) = some a18 ∧
 ∃ x19 : Int, H.rd h15 (Addr.add (Addr.add (Addr.add a18 3) 0) 0) (Value.int .i64 x19) ∧
 ∃ a20 : Addr, p0_s = some a20 ∧
 0 ≤ x17 ∧ x17 < ((4 : Nat) : Int) ∧
 H.wr h15 (Addr.add (Addr.add (Addr.add a20 3) ((x17).toNat * 3)) 1) ([(Value.int .i64 x19)]) fun h21 =>
 ∃ a22 : Addr, (some (Addr.add b8 ((p1_p).toNat * 5))) = some a22 ∧
 H.wr h21 (Addr.add a22 0) ([(Value.int .i64 (2 : Int))]) fun h23 =>
 VRet h23 (Value.tuple (List.toArray [(Value.bool false), (Value.int .i64 0), Value.nilIface])) post) (
 VIf (x10 == (2 : Int)) (
 ∃ a24 : Addr, (some (Addr.add b8 ((p1_p).toNat * 5))) = some a24 ∧
 ∃ x25 : Int, H.rd h4 (Addr.add (Addr.add a24 3) 0) (Value.int .i64 x25) ∧
 ∃ x26 : Int, H.rd h4 (Addr.add (Addr.add a24 3) 1) (Value.int .i64 x26) ∧
 ∃ a27 : Addr, (some (Addr.add b8 ((p1_p).toNat * 5))) = some a27 ∧
 ∃ x28 : Int, H.rd h4 (Addr.add (Addr.add a27 1) 0) (Value.int .i64 x28) ∧
 SemCall Go.Proofs.Try.prog 33 (List.toArray [(Value.pointer p0_s), (Value.agg (List.toArray [(Value.int .i64 x25), (Value.int .i64 x26)])), (Value.int .i64 x28)]) h4 fun v29 h30 =>
 ∃ x31 : Bool, v29 = (Value.bool x31) ∧
 VIf x31 (
 ∃ a32 : Addr, (some (Addr.add b8 ((p1_p).toNat * 5))) = some a32 ∧
 ([(Value.int .i64 0), (Value.int .i64 0), (Value.int .i64 0), (Value.int .i64 0), (Value.int .i64 0)]).length = 5 ∧ (Program.underlying Go.Proofs.Try.prog 78).isSome = true ∧
 H.wr h30 a32 ([(Value.int .i64 0), (Value.int .i64 0), (Value.int .i64 0), (Value.int .i64 0), (Value.int .i64 0)]) fun h33 =>
 VRet h33 (Value.tuple (List.toArray [(Value.bool true), (Value.int .i64 (-1 : Int)), Value.nilIface])) post) (
 ∃ a34 : Addr, (some (Addr.add b8 ((p1_p).toNat * 5))) = some a34 ∧
 H.wr h30 (Addr.add a34 0) ([(Value.int .i64 (1 : Int))]) fun h35 =>
 VRet h35 (Value.tuple (List.toArray [(Value.bool false), (Value.int .i64 0), Value.nilIface])) post)) (
 VIf (x10 == (3 : Int)) (
 ∃ a36 : Addr, p0_s = some a36 ∧
 ∃ x37 : Int, H.rd h4 (Addr.add (Addr.add a36 1) 0) (Value.int .i64 x37) ∧
 ∃ x38 : Int, H.rd h4 (Addr.add (Addr.add a36 1) 1) (Value.int .i64 x38) ∧
 ∃ a39 : Addr, (some (Addr.add b8 ((p1_p).toNat * 5))) = some a39 ∧
 ([(Value.int .i64 x37), (Value.int .i64 x38)]).length = 2 ∧ (Program.underlying Go.Proofs.Try.prog 70).isSome = true ∧
 H.wr h4 (Addr.add a39 3) ([(Value.int .i64 x37), (Value.int .i64 x38)]) fun h40 =>
 ∃ a41 : Addr, (some (Addr.add b8 ((p1_p).toNat * 5))) = some a41 ∧
 ∃ x42 : Int, H.rd h40 (Addr.add (Addr.add (Addr.add a41 3) 0) 0) (Value.int .i64 x42) ∧
 VIf (decide (x42 < (0 : Int))) (
 ∃ a43 : Addr, (some (Addr.add b8 ((p1_p).toNat * 5))) = some a43 ∧
 ([(Value.int .i64 0), (Value.int .i64 0), (Value.int .i64 0), (Value.int .i64 0), (Value.int .i64 0)]).length = 5 ∧ (Program.underlying Go.Proofs.Try.prog 78).isSome = true ∧
 H.wr h40 a43 ([(Value.int .i64 0), (Value.int .i64 0), (Value.int .i64 0), (Value.int .i64 0), (Value.int .i64 0)]) fun h44 =>
 VRet h44 (Value.tuple (List.toArray [(Value.bool true), (Value.int .i64 (-1 : Int)), Value.nilIface])) post) (
 ∃ a45 : Addr, (some (Addr.add b8 ((p1_p).toNat * 5))) = some a45 ∧
 H.wr h40 (Addr.add a45 0) ([(Value.int .i64 (4 : Int))]) fun h46 =>
 VRet h46 (Value.tuple (List.toArray [(Value.bool false), (Value.int .i64 0), Value.nilIface])) post)) (
 VIf (x10 == (4 : Int)) (
 ∃ a47 : Addr, (some (Addr.add b8 ((p1_p).toNat * 5))) = some a47 ∧
 ∃ x48 : Int, H.rd h4 (Addr.add (Addr.add (Addr.add a47 3) 0) 0) (Value.int .i64 x48) ∧
 ∃ a49 : Addr, p0_s = some a49 ∧
 0 ≤ x48 ∧ x48 < ((4 : Nat) : Int) ∧
 ∃ x50 : Int, H.rd h4 (Addr.add (Addr.add (Addr.add (Addr.add a49 3) ((x48).toNat * 3)) 1) 0) (Value.int .i64 x50) ∧
 ∃ a51 : Addr, (some (Addr.add b8 ((p1_p).toNat * 5))) = some a51 ∧
 H.wr h4 (Addr.add a51 2) ([(Value.int .i64 x50)]) fun h52 =>
 ∃ a53 : Addr, (some (Addr.add b8 ((p1_p).toNat * 5))) = some a53 ∧
 H.wr h52 (Addr.add a53 0) ([(Value.int .i64 (5 : Int))]) fun h54 =>
 VRet h54 (Value.tuple (List.toArray [(Value.bool false), (Value.int .i64 0), Value.nilIface])) post) (
 VIf (x10 == (5 : Int)) (
 ∃ a55 : Addr, (some (Addr.add b8 ((p1_p).toNat * 5))) = some a55 ∧
 ∃ x56 : Int, H.rd h4 (Addr.add (Addr.add a55 3) 0) (Value.int .i64 x56) ∧
 ∃ x57 : Int, H.rd h4 (Addr.add (Addr.add a55 3) 1) (Value.int .i64 x57) ∧
 ∃ a58 : Addr, (some (Addr.add b8 ((p1_p).toNat * 5))) = some a58 ∧
 ∃ x59 : Int, H.rd h4 (Addr.add (Addr.add a58 2) 0) (Value.int .i64 x59) ∧
 SemCall Go.Proofs.Try.prog 33 (List.toArray [(Value.pointer p0_s), (Value.agg (List.toArray [(Value.int .i64 x56), (Value.int .i64 x57)])), (Value.int .i64 x59)]) h4 fun v60 h61 =>
 ∃ x62 : Bool, v60 = (Value.bool x62) ∧
 VIf x62 (
 ∃ a63 : Addr, (some (Addr.add b8 ((p1_p).toNat * 5))) = some a63 ∧
 ∃ x64 : Int, H.rd h61 (Addr.add (Addr.add (Addr.add a63 3) 0) 0) (Value.int .i64 x64) ∧
 ∃ a65 : Addr, p0_s = some a65 ∧
 0 ≤ x64 ∧ x64 < ((4 : Nat) : Int) ∧
 ∃ x66 : Int, H.rd h61 (Addr.add (Addr.add (Addr.add (Addr.add a65 3) ((x64).toNat * 3)) 0) 0) (Value.int .i64 x66) ∧
 ∃ a67 : Addr, p0_s = some a67 ∧
 0 ≤ x64 ∧ x64 < ((4 : Nat) : Int) ∧
 H.wr h61 (Addr.add (Addr.add (Addr.add a67 3) ((x64).toNat * 3)) 2) ([(Value.bool false)]) fun h68 =>
 ∃ a69 : Addr, (some (Addr.add b8 ((p1_p).toNat * 5))) = some a69 ∧
 ([(Value.int .i64 0), (Value.int .i64 0), (Value.int .i64 0), (Value.int .i64 0), (Value.int .i64 0)]).length = 5 ∧ (Program.underlying Go.Proofs.Try.prog 78).isSome = true ∧
 H.wr h68 a69 ([(Value.int .i64 0), (Value.int .i64 0), (Value.int .i64 0), (Value.int .i64 0), (Value.int .i64 0)]) fun h70 =>
 VRet h70 (Value.tuple (List.toArray [(Value.bool true), (Value.int .i64 x66), Value.nilIface])) post) (
 ∃ a71 : Addr, (some (Addr.add b8 ((p1_p).toNat * 5))) = some a71 ∧
 H.wr h61 (Addr.add a71 0) ([(Value.int .i64 (3 : Int))]) fun h72 =>
 VRet h72 (Value.tuple (List.toArray [(Value.bool false), (Value.int .i64 0), Value.nilIface])) post)) (
 VRet h4 (Value.tuple (List.toArray [(Value.bool false), (Value.int .i64 0), Value.nilIface])) post)))))))

def f23_hint : Hint := (.node .leaf (.node .leaf (.node .leaf (.node (.node .leaf (.node (.node .leaf (.node .leaf (.node .leaf (.node (.node .leaf (.node (.tail 14) .leaf)) (.node .leaf (.node (.node (.node (.tail 9) .leaf) .leaf) (.node .leaf (.node .leaf (.node .leaf (.node (.node (.tail 14) .leaf) (.node .leaf (.node (.node (.node (.tail 9) .leaf) .leaf) .leaf)))))))))))) .leaf)) .leaf))))

theorem f23_eq (p0_s : Option Addr) (p1_p : Int) (h0 : H) (post : Value → H → Prop) : exec Try.prog (bodyOf Try.f23) f23_hint (retQ Try.prog Try.f23 post) (F0 [(Value.pointer p0_s), (Value.int .i64 p1_p)]) h0 = f23_sem p0_s p1_p h0 post := by kernel_rfl

set_option maxRecDepth 20000 in
theorem f23_call (p0_s : Option Addr) (p1_p : Int) (h0 : H) (post : Value → H → Prop) (hx : f23_sem p0_s p1_p h0 post) : SemCall Try.prog 23 (List.toArray [(Value.pointer p0_s), (Value.int .i64 p1_p)]) h0 post :=
 sem_of_exec (g := f23_hint) mixed Try.func23 (bodyOf_eq (by kernel_rfl)) (by kernel_rfl) ((f23_eq p0_s p1_p h0 post).mpr hx)

/- latchgarth/core.Hands -/
def f25_sem (p0_n : Int) (h0 : H) (post : Value → H → Prop) : Prop :=
 SemCall Go.Proofs.Try.prog 26 (List.toArray [(Value.int .i64 p0_n), (Value.int .i64 (1 : Int)), (Value.int .i64 (4 : Int))]) h0 fun v1 h2 =>
 ∃ x3 : Bool, v1 = (Value.bool x3) ∧
 VIf (!x3) (
 VRet h2 (Value.iface 57 (Value.int .i64 (1 : Int))) post) (
 VRet h2 Value.nilIface post)

def f25_hint : Hint := .leaf

theorem f25_eq (p0_n : Int) (h0 : H) (post : Value → H → Prop) : exec Try.prog (bodyOf Try.f25) f25_hint (retQ Try.prog Try.f25 post) (F0 [(Value.int .i64 p0_n)]) h0 = f25_sem p0_n h0 post := by kernel_rfl

set_option maxRecDepth 20000 in
theorem f25_call (p0_n : Int) (h0 : H) (post : Value → H → Prop) (hx : f25_sem p0_n h0 post) : SemCall Try.prog 25 (List.toArray [(Value.int .i64 p0_n)]) h0 post :=
 sem_of_exec (g := f25_hint) mixed Try.func25 (bodyOf_eq (by kernel_rfl)) (by kernel_rfl) ((f25_eq p0_n h0 post).mpr hx)

/- latchgarth/core.Within -/
def f26_sem (p0_n : Int) (p1_low : Int) (p2_high : Int) (h0 : H) (post : Value → H → Prop) : Prop :=
 ∃ R1 : Bool → H → Prop, (
 VIf (decide (p0_n ≥ p1_low)) (
 (∃ h2, Gh h0 h2 ∧ R1 (decide (p0_n ≤ p2_high)) h2)) (
 (∃ h3, Gh h0 h3 ∧ R1 false h3))) ∧
 ∀ (_ : F) (x4 : Bool) (h5 : H), R1 x4 h5 →
 VRet h5 (Value.bool x4) post

def f26_hint : Hint := (.node .leaf (.node (.join [(6, .bool)] .leaf) .leaf))

theorem f26_eq (p0_n : Int) (p1_low : Int) (p2_high : Int) (h0 : H) (post : Value → H → Prop) : exec Try.prog (bodyOf Try.f26) f26_hint (retQ Try.prog Try.f26 post) (F0 [(Value.int .i64 p0_n), (Value.int .i64 p1_low), (Value.int .i64 p2_high)]) h0 = f26_sem p0_n p1_low p2_high h0 post := by kernel_rfl

set_option maxRecDepth 20000 in
theorem f26_call (p0_n : Int) (p1_low : Int) (p2_high : Int) (h0 : H) (post : Value → H → Prop) (hx : f26_sem p0_n p1_low p2_high h0 post) : SemCall Try.prog 26 (List.toArray [(Value.int .i64 p0_n), (Value.int .i64 p1_low), (Value.int .i64 p2_high)]) h0 post :=
 sem_of_exec (g := f26_hint) mixed Try.func26 (bodyOf_eq (by kernel_rfl)) (by kernel_rfl) ((f26_eq p0_n p1_low p2_high h0 post).mpr hx)

/- latchgarth/core.Cas[int] -/
def f28_sem (p0_word : Option Addr) (p1_old : Int) (p2_new : Int) (h0 : H) (post : Value → H → Prop) : Prop :=
 ∃ a1 : Addr, p0_word = some a1 ∧
 ∃ x2 : Int, H.rd h0 (Addr.add a1 0) (Value.int .i64 x2) ∧
 VIf (x2 != p1_old) (
 VRet h0 (Value.bool false) post) (
 ∃ a3 : Addr, p0_word = some a3 ∧
 H.wr h0 a3 ([(Value.int .i64 p2_new)]) fun h4 =>
 VRet h4 (Value.bool true) post)

def f28_hint : Hint := .leaf

theorem f28_eq (p0_word : Option Addr) (p1_old : Int) (p2_new : Int) (h0 : H) (post : Value → H → Prop) : exec Try.prog (bodyOf Try.f28) f28_hint (retQ Try.prog Try.f28 post) (F0 [(Value.pointer p0_word), (Value.int .i64 p1_old), (Value.int .i64 p2_new)]) h0 = f28_sem p0_word p1_old p2_new h0 post := by kernel_rfl

set_option maxRecDepth 20000 in
theorem f28_call (p0_word : Option Addr) (p1_old : Int) (p2_new : Int) (h0 : H) (post : Value → H → Prop) (hx : f28_sem p0_word p1_old p2_new h0 post) : SemCall Try.prog 28 (List.toArray [(Value.pointer p0_word), (Value.int .i64 p1_old), (Value.int .i64 p2_new)]) h0 post :=
 sem_of_exec (g := f28_hint) mixed Try.func28 (bodyOf_eq (by kernel_rfl)) (by kernel_rfl) ((f28_eq p0_word p1_old p2_new h0 post).mpr hx)

/- (*latchgarth/stack.Stack).free -/
def f30_sem (p0_s : Option Addr) (p1_p : Int) (h0 : H) (post : Value → H → Prop) : Prop :=
 ∃ a1 : Addr, p0_s = some a1 ∧
 ∃ x2 : SV, H.rd h0 (Addr.add (Addr.add a1 15) 0) (Value.slice x2.a x2.len x2.cap) ∧
 In64 (((x2.len : Nat) : Int) - (1 : Int)) ∧
 SemCall Go.Proofs.Try.prog 26 (List.toArray [(Value.int .i64 p1_p), (Value.int .i64 0), (Value.int .i64 (((x2.len : Nat) : Int) - (1 : Int)))]) h0 fun v3 h4 =>
 ∃ x5 : Bool, v3 = (Value.bool x5) ∧
 VIf (!x5) (
 VRet h4 (Value.iface 57 (Value.int .i64 (1 : Int))) post) (
 ∃ a6 : Addr, p0_s = some a6 ∧
 ∃ x7 : SV, H.rd h4 (Addr.add (Addr.add a6 15) 0) (Value.slice x7.a x7.len x7.cap) ∧
 ∃ b8 : Addr, x7.a = some b8 ∧ 0 ≤ p1_p ∧ p1_p < ((x7.len : Nat) : Int) ∧
 ∃ x9 : Int, H.rd h4 (Addr.add (Addr.add (Addr.add b8 ((p1_p).toNat * 5)) 0) 0) (Value.int .i64 x9) ∧
 VIf (x9 != (0 : Int)) (
 VRet h4 (Value.iface 57 (Value.int .i64 (7 : Int))) post) (
 VRet h4 Value.nilIface post))

def f30_hint : Hint := .leaf

theorem f30_eq (p0_s : Option Addr) (p1_p : Int) (h0 : H) (post : Value → H → Prop) : exec Try.prog (bodyOf Try.f30) f30_hint (retQ Try.prog Try.f30 post) (F0 [(Value.pointer p0_s), (Value.int .i64 p1_p)]) h0 = f30_sem p0_s p1_p h0 post := by kernel_rfl

set_option maxRecDepth 20000 in
theorem f30_call (p0_s : Option Addr) (p1_p : Int) (h0 : H) (post : Value → H → Prop) (hx : f30_sem p0_s p1_p h0 post) : SemCall Try.prog 30 (List.toArray [(Value.pointer p0_s), (Value.int .i64 p1_p)]) h0 post :=
 sem_of_exec (g := f30_hint) mixed Try.func30 (bodyOf_eq (by kernel_rfl)) (by kernel_rfl) ((f30_eq p0_s p1_p h0 post).mpr hx)

/- slices.IndexFunc[[]latchgarth/stack.node,latchgarth/stack.node] -/
def f31_L1 (p0_s : SV) (post : Value → H → Prop) (R1 : H → Prop) (I2 : Nat → Int → H → Prop) (n3 : Nat) (x6 : Int) (h7 : H) : Prop :=
 VIf (decide (x6 < ((p0_s.len : Nat) : Int))) (
 ∃ b8 : Addr, p0_s.a = some b8 ∧ 0 ≤ x6 ∧ x6 < ((p0_s.len : Nat) : Int) ∧
 ∃ x9 : Int, H.rd h7 (Addr.add (Addr.add b8 ((x6).toNat * 3)) 0) (Value.int .i64 x9) ∧
 ∃ x10 : Int, H.rd h7 (Addr.add (Addr.add b8 ((x6).toNat * 3)) 1) (Value.int .i64 x10) ∧
 ∃ x11 : Bool, H.rd h7 (Addr.add (Addr.add b8 ((x6).toNat * 3)) 2) (Value.bool x11) ∧
 SemCall Go.Proofs.Try.prog 32 (List.toArray [(Value.agg (List.toArray [(Value.int .i64 x9), (Value.int .i64 x10), (Value.bool x11)]))]) h7 fun v12 h13 =>
 ∃ x14 : Bool, v12 = (Value.bool x14) ∧
 VIf x14 (
 VRet h13 (Value.int .i64 x6) post) (
 In64 (x6 + (1 : Int)) ∧
 ∃ m4, m4 < n3 ∧ (∃ h15, Gh h13 h15 ∧ I2 m4 (x6 + (1 : Int)) h15))) (
 (∃ h16, Gh h7 h16 ∧ R1 h16))

def f31_sem (p0_s : SV) (h0 : H) (post : Value → H → Prop) : Prop :=
 ∃ R1 : H → Prop, (
 ∃ I2 : Nat → Int → H → Prop, (∃ n3, (∃ h5, Gh h0 h5 ∧ I2 n3 (0 : Int) h5)) ∧
 ∀ (n3 : Nat) (_ : F) (x6 : Int) (h7 : H), I2 n3 x6 h7 →
 f31_L1 p0_s post R1 I2 n3 x6 h7) ∧
 ∀ (_ : F) (h17 : H), R1 h17 →
 VRet h17 (Value.int .i64 (-1 : Int)) post

def f31_hint : Hint := (.node .leaf (.node (.node .leaf (.join [] (.node (.loop [(8, .int)] .leaf) .leaf))) .leaf))

theorem f31_eq (p0_s : SV) (h0 : H) (post : Value → H → Prop) : exec Try.prog (bodyOf Try.f31) f31_hint (retQ Try.prog Try.f31 post) (F0 [(Value.slice p0_s.a p0_s.len p0_s.cap), (Value.func (.func 32) #[] #[])]) h0 = f31_sem p0_s h0 post := by kernel_rfl

set_option maxRecDepth 20000 in
theorem f31_call (p0_s : SV) (h0 : H) (post : Value → H → Prop) (hx : f31_sem p0_s h0 post) : SemCall Try.prog 31 (List.toArray [(Value.slice p0_s.a p0_s.len p0_s.cap), (Value.func (.func 32) #[] #[])]) h0 post :=
 sem_of_exec (g := f31_hint) mixed Try.func31 (bodyOf_eq (by kernel_rfl)) (by kernel_rfl) ((f31_eq p0_s h0 post).mpr hx)

/- (*latchgarth/stack.Stack).Push$1 -/
def f32_sem (p0_0_n : Int) (p0_1_n : Int) (p0_2_n : Bool) (h0 : H) (post : Value → H → Prop) : Prop :=
 H.new h0 [(Value.int .i64 p0_0_n), (Value.int .i64 p0_1_n), (Value.bool p0_2_n)] fun r1 h2 =>
 ∃ x3 : Bool, H.rd h2 (Addr.add (Addr.add (Addr.mk r1 0 none) 2) 0) (Value.bool x3) ∧
 VRet h2 (Value.bool (!x3)) post

def f32_hint : Hint := .leaf

theorem f32_eq (p0_0_n : Int) (p0_1_n : Int) (p0_2_n : Bool) (h0 : H) (post : Value → H → Prop) : exec Try.prog (bodyOf Try.f32) f32_hint (retQ Try.prog Try.f32 post) (F0 [(Value.agg (List.toArray [(Value.int .i64 p0_0_n), (Value.int .i64 p0_1_n), (Value.bool p0_2_n)]))]) h0 = f32_sem p0_0_n p0_1_n p0_2_n h0 post := by kernel_rfl

set_option maxRecDepth 20000 in
theorem f32_call (p0_0_n : Int) (p0_1_n : Int) (p0_2_n : Bool) (h0 : H) (post : Value → H → Prop) (hx : f32_sem p0_0_n p0_1_n p0_2_n h0 post) : SemCall Try.prog 32 (List.toArray [(Value.agg (List.toArray [(Value.int .i64 p0_0_n), (Value.int .i64 p0_1_n), (Value.bool p0_2_n)]))]) h0 post :=
 sem_of_exec (g := f32_hint) mixed Try.func32 (bodyOf_eq (by kernel_rfl)) (by kernel_rfl) ((f32_eq p0_0_n p0_1_n p0_2_n h0 post).mpr hx)

/- (*latchgarth/stack.Stack).change -/
def f33_sem (p0_s : Option Addr) (p1_0_seen : Int) (p1_1_seen : Int) (p2_node : Int) (h0 : H) (post : Value → H → Prop) : Prop :=
 H.new h0 [(Value.int .i64 p1_0_seen), (Value.int .i64 p1_1_seen)] fun r1 h2 =>
 ∃ a3 : Addr, p0_s = some a3 ∧
 ∃ x4 : Bool, H.rd h2 (Addr.add (Addr.add a3 0) 0) (Value.bool x4) ∧
 ∃ R5 : Int → H → Prop, (
 VIf x4 (
 ∃ x6 : Int, H.rd h2 (Addr.add (Addr.add (Addr.mk r1 0 none) 1) 0) (Value.int .i64 x6) ∧
 In64 (x6 + (1 : Int)) ∧
 (∃ h7, Gh h2 h7 ∧ R5 (x6 + (1 : Int)) h7)) (
 (∃ h8, Gh h2 h8 ∧ R5 (0 : Int) h8))) ∧
 ∀ (_ : F) (x9_tag : Int) (h10 : H), R5 x9_tag h10 →
 ∃ a11 : Addr, p0_s = some a11 ∧
 ∃ x12 : Int, H.rd h10 (Addr.add (Addr.mk r1 0 none) 0) (Value.int .i64 x12) ∧
 ∃ x13 : Int, H.rd h10 (Addr.add (Addr.mk r1 0 none) 1) (Value.int .i64 x13) ∧
 SemCall Go.Proofs.Try.prog 35 (List.toArray [(Value.pointer (some (Addr.add a11 1))), (Value.agg (List.toArray [(Value.int .i64 x12), (Value.int .i64 x13)])), (Value.agg (List.toArray [(Value.int .i64 p2_node), (Value.int .i64 x9_tag)]))]) h10 fun v14 h15 =>
 ∃ x16 : Bool, v14 = (Value.bool x16) ∧
 VRet h15 (Value.bool x16) post

def f33_hint : Hint := (.node .leaf (.node .leaf (.node (.node .leaf (.join [(7, .int)] .leaf)) (.node (.tail 7) .leaf))))

theorem f33_eq (p0_s : Option Addr) (p1_0_seen : Int) (p1_1_seen : Int) (p2_node : Int) (h0 : H) (post : Value → H → Prop) : exec Try.prog (bodyOf Try.f33) f33_hint (retQ Try.prog Try.f33 post) (F0 [(Value.pointer p0_s), (Value.agg (List.toArray [(Value.int .i64 p1_0_seen), (Value.int .i64 p1_1_seen)])), (Value.int .i64 p2_node)]) h0 = f33_sem p0_s p1_0_seen p1_1_seen p2_node h0 post := by kernel_rfl

set_option maxRecDepth 20000 in
theorem f33_call (p0_s : Option Addr) (p1_0_seen : Int) (p1_1_seen : Int) (p2_node : Int) (h0 : H) (post : Value → H → Prop) (hx : f33_sem p0_s p1_0_seen p1_1_seen p2_node h0 post) : SemCall Try.prog 33 (List.toArray [(Value.pointer p0_s), (Value.agg (List.toArray [(Value.int .i64 p1_0_seen), (Value.int .i64 p1_1_seen)])), (Value.int .i64 p2_node)]) h0 post :=
 sem_of_exec (g := f33_hint) mixed Try.func33 (bodyOf_eq (by kernel_rfl)) (by kernel_rfl) ((f33_eq p0_s p1_0_seen p1_1_seen p2_node h0 post).mpr hx)

/- slices.Clone[[]int,int] -/
def f38_sem (p0_s : SV) (h0 : H) (post : Value → H → Prop) : Prop :=
 VIf (Option.isNone p0_s.a) (
 VRet h0 (Value.slice none 0 0) post) (
 H.new h0 [] fun r1 h2 =>
 appVC Go.Proofs.Try.prog 22 (Value.slice (some (Addr.mk r1 0 none)) 0 0) (Value.slice p0_s.a p0_s.len p0_s.cap) h2 fun x3 h4 =>
 VRet h4 (Value.slice x3.a x3.len x3.cap) post)

def f38_hint : Hint := .leaf

theorem f38_eq (p0_s : SV) (h0 : H) (post : Value → H → Prop) : exec Try.prog (bodyOf Try.f38) f38_hint (retQ Try.prog Try.f38 post) (F0 [(Value.slice p0_s.a p0_s.len p0_s.cap)]) h0 = f38_sem p0_s h0 post := by kernel_rfl

set_option maxRecDepth 20000 in
theorem f38_call (p0_s : SV) (h0 : H) (post : Value → H → Prop) (hx : f38_sem p0_s h0 post) : SemCall Try.prog 38 (List.toArray [(Value.slice p0_s.a p0_s.len p0_s.cap)]) h0 post :=
 sem_of_exec (g := f38_hint) mixed Try.func38 (bodyOf_eq (by kernel_rfl)) (by kernel_rfl) ((f38_eq p0_s h0 post).mpr hx)

end Go.Proofs.Ytogbkgimpkaemaa
