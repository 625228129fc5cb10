import Derived.Test.YtockhbbpcbcenaaEngG
import Derived.Test.YtockhbbpcbcenaaRows
import Derived.Test.YtockhbbpcbcenaaT
namespace Go.Proofs.Ytockhbbpcbcenaa
open Go.Eng
/- latchgarth/univ.New -/
def f18_sem (p0_n : Int) (h0 : H) (post : Value → H → Prop) : Prop :=
 SemCall Go.Proofs.Try.prog 27 (List.toArray [(Value.int .i64 p0_n)]) h0 fun v1 h2 =>
 ∃ x3 : Option (TypeId × Value), v1 = (errV x3) ∧
 isIfaceV (errV x3) = true ∧
 VIf (!(isNilV (errV x3))) (
 VRet h2 (Value.tuple (List.toArray [(Value.pointer none), (errV x3)])) post) (
 (
 0 ≤ (41 : Int) ∧ (41 : Int) ≤ (41 : Int) ∧ ((8 : Nat) : Int) * (41 : Int) ≤ 140737488355328 ∧ (41 : Int) ≤ 1000000000 ∧
 H.new h2 (repl ((41 : Int)).toNat [(Value.int .i64 0)]) fun r4 h5 =>
 0 ≤ p0_n ∧ p0_n ≤ p0_n ∧ ((32 : Nat) : Int) * p0_n ≤ 140737488355328 ∧ p0_n ≤ 1000000000 ∧
 H.new h5 (repl (p0_n).toNat [(Value.int .i64 0), (Value.int .i64 0), (Value.int .i64 0), (Value.int .i64 0)]) fun r6 h7 =>
 H.new h7 [(Value.slice (some (Addr.mk r4 0 none)) (((41 : Int)).toNat) (((41 : Int)).toNat)), (Value.slice none 0 0), (Value.slice (some (Addr.mk r6 0 none)) ((p0_n).toNat) ((p0_n).toNat))] fun r8 h9 =>
 VRet h9 (Value.tuple (List.toArray [(Value.pointer (some (Addr.mk r8 0 none))), Value.nilIface])) post) ∧
 (
 0 ≤ p0_n ∧ p0_n ≤ p0_n ∧ ((32 : Nat) : Int) * p0_n ≤ 140737488355328 ∧ p0_n ≤ 1000000000 ∧
 H.new h2 (repl (p0_n).toNat [(Value.int .i64 0), (Value.int .i64 0), (Value.int .i64 0), (Value.int .i64 0)]) fun r10 h11 =>
 0 ≤ (41 : Int) ∧ (41 : Int) ≤ (41 : Int) ∧ ((8 : Nat) : Int) * (41 : Int) ≤ 140737488355328 ∧ (41 : Int) ≤ 1000000000 ∧
 H.new h11 (repl ((41 : Int)).toNat [(Value.int .i64 0)]) fun r12 h13 =>
 H.new h13 [(Value.slice (some (Addr.mk r12 0 none)) (((41 : Int)).toNat) (((41 : Int)).toNat)), (Value.slice none 0 0), (Value.slice (some (Addr.mk r10 0 none)) ((p0_n).toNat) ((p0_n).toNat))] fun r14 h15 =>
 VRet h15 (Value.tuple (List.toArray [(Value.pointer (some (Addr.mk r14 0 none))), Value.nilIface])) post))

def f18_hint : Hint := (.node .leaf (.node .leaf (.node .any .leaf)))

theorem f18_eq (p0_n : Int) (h0 : H) (post : Value → H → Prop) : exec Try.prog (bodyOf Try.f18) f18_hint (retQ Try.prog Try.f18 post) (F0 [(Value.int .i64 p0_n)]) h0 = f18_sem p0_n h0 post := by kernel_rfl

set_option maxRecDepth 20000 in
theorem f18_call (p0_n : Int) (h0 : H) (post : Value → H → Prop) (hx : f18_sem p0_n h0 post) : SemCall Try.prog 18 (List.toArray [(Value.int .i64 p0_n)]) h0 post :=
 sem_of_exec (g := f18_hint) mixed Try.func18 (bodyOf_eq (by kernel_rfl)) (by kernel_rfl) ((f18_eq p0_n h0 post).mpr hx)

/- (*latchgarth/univ.Row).Begin -/
def f20_J1 (p0_r : Option Addr) (p1_p : Int) (p2_add : Int) (post : Value → H → Prop) (x12 : Bool) (h13 : H) : Prop :=
 VIf x12 (
 VRet h13 (Value.iface 65 (Value.int .i64 (1 : Int))) post) (
 ∃ a14 : Addr, p0_r = some a14 ∧
 ∃ x15 : SV, H.rd h13 (Addr.add (Addr.add a14 2) 0) (Value.slice x15.a x15.len x15.cap) ∧
 ∃ b16 : Addr, x15.a = some b16 ∧ 0 ≤ p1_p ∧ p1_p < ((x15.len : Nat) : Int) ∧
 ∃ x17 : Int, H.rd h13 (Addr.add (Addr.add (Addr.add b16 ((p1_p).toNat * 4)) 0) 0) (Value.int .i64 x17) ∧
 VIf (x17 != (0 : Int)) (
 VRet h13 (Value.iface 65 (Value.int .i64 (7 : Int))) post) (
 ∃ a18 : Addr, p0_r = some a18 ∧
 ∃ x19 : SV, H.rd h13 (Addr.add (Addr.add a18 1) 0) (Value.slice x19.a x19.len x19.cap) ∧
 VIf (((x19.len : Nat) : Int) == (40 : Int)) (
 VRet h13 (Value.iface 65 (Value.int .i64 (4 : Int))) post) (
 ∃ a20 : Addr, p0_r = some a20 ∧
 ∃ x21 : SV, H.rd h13 (Addr.add (Addr.add a20 1) 0) (Value.slice x21.a x21.len x21.cap) ∧
 H.new h13 [(Value.int .i64 p1_p), (Value.int .i64 p2_add)] fun r22 h23 =>
 appVC Go.Proofs.Try.prog 71 (Value.slice x21.a x21.len x21.cap) (Value.slice (some (Addr.mk r22 0 none)) 1 1) h23 fun x24 h25 =>
 ∃ a26 : Addr, p0_r = some a26 ∧
 H.wr h25 (Addr.add a26 1) ([(Value.slice x24.a x24.len x24.cap)]) fun h27 =>
 ∃ a28 : Addr, p0_r = some a28 ∧
 ∃ x29 : SV, H.rd h27 (Addr.add (Addr.add a28 2) 0) (Value.slice x29.a x29.len x29.cap) ∧
 ∃ a30 : Addr, p0_r = some a30 ∧
 ∃ x31 : SV, H.rd h27 (Addr.add (Addr.add a30 1) 0) (Value.slice x31.a x31.len x31.cap) ∧
 ∃ b32 : Addr, x29.a = some b32 ∧ 0 ≤ p1_p ∧ p1_p < ((x29.len : Nat) : Int) ∧
 ([(Value.int .i64 (1 : Int)), (Value.int .i64 ((x31.len : Nat) : Int)), (Value.int .i64 0), (Value.int .i64 0)]).length = 4 ∧ (Program.underlying Go.Proofs.Try.prog 75).isSome = true ∧
 H.wr h27 (Addr.add b32 ((p1_p).toNat * 4)) ([(Value.int .i64 (1 : Int)), (Value.int .i64 ((x31.len : Nat) : Int)), (Value.int .i64 0), (Value.int .i64 0)]) fun h33 =>
 VRet h33 Value.nilIface post)))

def f20_sem (p0_r : Option Addr) (p1_p : Int) (p2_add : Int) (h0 : H) (post : Value → H → Prop) : Prop :=
 ∃ R1 : Bool → H → Prop, (
 ∃ a2 : Addr, p0_r = some a2 ∧
 ∃ x3 : SV, H.rd h0 (Addr.add (Addr.add a2 2) 0) (Value.slice x3.a x3.len x3.cap) ∧
 In64 (((x3.len : Nat) : Int) - (1 : Int)) ∧
 SemCall Go.Proofs.Try.prog 28 (List.toArray [(Value.int .i64 p1_p), (Value.int .i64 0), (Value.int .i64 (((x3.len : Nat) : Int) - (1 : Int)))]) h0 fun v4 h5 =>
 ∃ x6 : Bool, v4 = (Value.bool x6) ∧
 VIf (!x6) (
 (∃ h7, Gh h5 h7 ∧ R1 true h7)) (
 SemCall Go.Proofs.Try.prog 28 (List.toArray [(Value.int .i64 p2_add), (Value.int .i64 0), (Value.int .i64 (1000 : Int))]) h5 fun v8 h9 =>
 ∃ x10 : Bool, v8 = (Value.bool x10) ∧
 (∃ h11, Gh h9 h11 ∧ R1 (!x10) h11))) ∧
 ∀ (_ : F) (x12 : Bool) (h13 : H), R1 x12 h13 →
 f20_J1 p0_r p1_p p2_add post x12 h13

def f20_hint : Hint := (.node .leaf (.node (.node (.join [(20, .bool)] .leaf) .leaf) (.node .leaf (.node .leaf (.node .leaf (.node (.tail 12) .leaf))))))

theorem f20_eq (p0_r : Option Addr) (p1_p : Int) (p2_add : Int) (h0 : H) (post : Value → H → Prop) : exec Try.prog (bodyOf Try.f20) f20_hint (retQ Try.prog Try.f20 post) (F0 [(Value.pointer p0_r), (Value.int .i64 p1_p), (Value.int .i64 p2_add)]) h0 = f20_sem p0_r p1_p p2_add h0 post := by kernel_rfl

set_option maxRecDepth 20000 in
theorem f20_call (p0_r : Option Addr) (p1_p : Int) (p2_add : Int) (h0 : H) (post : Value → H → Prop) (hx : f20_sem p0_r p1_p p2_add h0 post) : SemCall Try.prog 20 (List.toArray [(Value.pointer p0_r), (Value.int .i64 p1_p), (Value.int .i64 p2_add)]) h0 post :=
 sem_of_exec (g := f20_hint) mixed Try.func20 (bodyOf_eq (by kernel_rfl)) (by kernel_rfl) ((f20_eq p0_r p1_p p2_add h0 post).mpr hx)

/- (*latchgarth/univ.Row).Step -/
def f21_sem (p0_r : Option Addr) (p1_p : Int) (h0 : H) (post : Value → H → Prop) : Prop :=
 ∃ a1 : Addr, p0_r = some a1 ∧
 ∃ x2 : SV, H.rd h0 (Addr.add (Addr.add a1 2) 0) (Value.slice x2.a x2.len x2.cap) ∧
 In64 (((x2.len : Nat) : Int) - (1 : Int)) ∧
 SemCall Go.Proofs.Try.prog 28 (List.toArray [(Value.int .i64 p1_p), (Value.int .i64 0), (Value.int .i64 (((x2.len : Nat) : Int) - (1 : Int)))]) h0 fun v3 h4 =>
 ∃ x5 : Bool, v3 = (Value.bool x5) ∧
 VIf (!x5) (
 VRet h4 (Value.tuple (List.toArray [(Value.bool false), (Value.int .i64 0), (Value.iface 65 (Value.int .i64 (1 : Int)))])) post) (
 ∃ a6 : Addr, p0_r = some a6 ∧
 ∃ x7 : SV, H.rd h4 (Addr.add (Addr.add a6 2) 0) (Value.slice x7.a x7.len x7.cap) ∧
 ∃ b8 : Addr, x7.a = some b8 ∧ 0 ≤ p1_p ∧ p1_p < ((x7.len : Nat) : Int) ∧
 ∃ a9 : Addr, (some (Addr.add b8 ((p1_p).toNat * 4))) = some a9 ∧
 ∃ x10 : Int, H.rd h4 (Addr.add (Addr.add a9 0) 0) (Value.int .i64 x10) ∧
 VIf (x10 == (0 : Int)) (
 VRet h4 (Value.tuple (List.toArray [(Value.bool false), (Value.int .i64 0), (Value.iface 65 (Value.int .i64 (7 : Int)))])) post) (
 VIf (x10 == (1 : Int)) (
 ∃ a11 : Addr, p0_r = some a11 ∧
 ∃ x12 : SV, H.rd h4 (Addr.add (Addr.add a11 0) 0) (Value.slice x12.a x12.len x12.cap) ∧
 ∃ a13 : Addr, (some (Addr.add b8 ((p1_p).toNat * 4))) = some a13 ∧
 ∃ x14 : Int, H.rd h4 (Addr.add (Addr.add a13 2) 0) (Value.int .i64 x14) ∧
 ∃ b15 : Addr, x12.a = some b15 ∧ 0 ≤ x14 ∧ x14 < ((x12.len : Nat) : Int) ∧
 ∃ a16 : Addr, (some (Addr.add b8 ((p1_p).toNat * 4))) = some a16 ∧
 ∃ x17 : Int, H.rd h4 (Addr.add (Addr.add a16 1) 0) (Value.int .i64 x17) ∧
 SemCall Go.Proofs.Try.prog 29 (List.toArray [(Value.pointer (some (Addr.add b15 ((x14).toNat * 1)))), (Value.int .i64 0), (Value.int .i64 x17)]) h4 fun v18 h19 =>
 ∃ x20 : Bool, v18 = (Value.bool x20) ∧
 ∃ a21 : Addr, (some (Addr.add b8 ((p1_p).toNat * 4))) = some a21 ∧
 H.wr h19 (Addr.add a21 0) ([(Value.int .i64 (2 : Int))]) fun h22 =>
 VRet h22 (Value.tuple (List.toArray [(Value.bool false), (Value.int .i64 0), Value.nilIface])) post) (
 VIf (x10 == (2 : Int)) (
 ∃ a23 : Addr, p0_r = some a23 ∧
 ∃ x24 : SV, H.rd h4 (Addr.add (Addr.add a23 0) 0) (Value.slice x24.a x24.len x24.cap) ∧
 ∃ a25 : Addr, (some (Addr.add b8 ((p1_p).toNat * 4))) = some a25 ∧
 ∃ x26 : Int, H.rd h4 (Addr.add (Addr.add a25 2) 0) (Value.int .i64 x26) ∧
 ∃ b27 : Addr, x24.a = some b27 ∧ 0 ≤ x26 ∧ x26 < ((x24.len : Nat) : Int) ∧
 ∃ x28 : Int, H.rd h4 (Addr.add (Addr.add b27 ((x26).toNat * 1)) 0) (Value.int .i64 x28) ∧
 ∃ a29 : Addr, (some (Addr.add b8 ((p1_p).toNat * 4))) = some a29 ∧
 ∃ x30 : Int, H.rd h4 (Addr.add (Addr.add a29 1) 0) (Value.int .i64 x30) ∧
 VIf (x28 == x30) (
 ∃ a31 : Addr, (some (Addr.add b8 ((p1_p).toNat * 4))) = some a31 ∧
 ∃ x32 : Int, H.rd h4 (Addr.add (Addr.add a31 3) 0) (Value.int .i64 x32) ∧
 ∃ a33 : Addr, (some (Addr.add b8 ((p1_p).toNat * 4))) = some a33 ∧
 ([(Value.int .i64 0), (Value.int .i64 0), (Value.int .i64 0), (Value.int .i64 0)]).length = 4 ∧ (Program.underlying Go.Proofs.Try.prog 75).isSome = true ∧
 H.wr h4 a33 ([(Value.int .i64 0), (Value.int .i64 0), (Value.int .i64 0), (Value.int .i64 0)]) fun h34 =>
 VRet h34 (Value.tuple (List.toArray [(Value.bool true), (Value.int .i64 x32), Value.nilIface])) post) (
 ∃ a35 : Addr, (some (Addr.add b8 ((p1_p).toNat * 4))) = some a35 ∧
 ∃ x36 : Int, H.rd h4 (Addr.add (Addr.add a35 3) 0) (Value.int .i64 x36) ∧
 ∃ a37 : Addr, p0_r = some a37 ∧
 ∃ x38 : SV, H.rd h4 (Addr.add (Addr.add a37 1) 0) (Value.slice x38.a x38.len x38.cap) ∧
 In64 (x28 - (1 : Int)) ∧
 ∃ b39 : Addr, x38.a = some b39 ∧ 0 ≤ (x28 - (1 : Int)) ∧ (x28 - (1 : Int)) < ((x38.len : Nat) : Int) ∧
 ∃ x40 : Int, H.rd h4 (Addr.add (Addr.add (Addr.add b39 (((x28 - (1 : Int))).toNat * 2)) 1) 0) (Value.int .i64 x40) ∧
 In64 (x36 + x40) ∧
 ∃ a41 : Addr, (some (Addr.add b8 ((p1_p).toNat * 4))) = some a41 ∧
 H.wr h4 (Addr.add a41 3) ([(Value.int .i64 (x36 + x40))]) fun h42 =>
 ∃ a43 : Addr, (some (Addr.add b8 ((p1_p).toNat * 4))) = some a43 ∧
 ∃ x44 : Int, H.rd h42 (Addr.add (Addr.add a43 2) 0) (Value.int .i64 x44) ∧
 In64 (x44 + (1 : Int)) ∧
 ∃ a45 : Addr, (some (Addr.add b8 ((p1_p).toNat * 4))) = some a45 ∧
 H.wr h42 (Addr.add a45 2) ([(Value.int .i64 (x44 + (1 : Int)))]) fun h46 =>
 ∃ a47 : Addr, (some (Addr.add b8 ((p1_p).toNat * 4))) = some a47 ∧
 H.wr h46 (Addr.add a47 0) ([(Value.int .i64 (1 : Int))]) fun h48 =>
 VRet h48 (Value.tuple (List.toArray [(Value.bool false), (Value.int .i64 0), Value.nilIface])) post)) (
 VRet h4 (Value.tuple (List.toArray [(Value.bool false), (Value.int .i64 0), Value.nilIface])) post))))

def f21_hint : Hint := (.node .leaf (.node .leaf (.node .leaf (.node (.node .leaf (.node (.node .leaf (.node .leaf (.node .leaf (.node (.node (.tail 13) .leaf) (.node .leaf (.node (.node .leaf (.node .leaf (.node (.tail 16) .leaf))) .leaf)))))) .leaf)) .leaf))))

theorem f21_eq (p0_r : Option Addr) (p1_p : Int) (h0 : H) (post : Value → H → Prop) : exec Try.prog (bodyOf Try.f21) f21_hint (retQ Try.prog Try.f21 post) (F0 [(Value.pointer p0_r), (Value.int .i64 p1_p)]) h0 = f21_sem p0_r p1_p h0 post := by kernel_rfl

set_option maxRecDepth 20000 in
theorem f21_call (p0_r : Option Addr) (p1_p : Int) (h0 : H) (post : Value → H → Prop) (hx : f21_sem p0_r p1_p h0 post) : SemCall Try.prog 21 (List.toArray [(Value.pointer p0_r), (Value.int .i64 p1_p)]) h0 post :=
 sem_of_exec (g := f21_hint) mixed Try.func21 (bodyOf_eq (by kernel_rfl)) (by kernel_rfl) ((f21_eq p0_r p1_p h0 post).mpr hx)

/- (*latchgarth/univ.Row).Order -/
def f23_L1 (x2 : SV) (R3 : SV → H → Prop) (I4 : Nat → SV → Int → H → Prop) (n5 : Nat) (x8_out : SV) (x9 : Int) (h10 : H) : Prop :=
 VIf (decide (x9 < ((x2.len : Nat) : Int))) (
 ∃ b11 : Addr, x2.a = some b11 ∧ 0 ≤ x9 ∧ x9 < ((x2.len : Nat) : Int) ∧
 ∃ x12 : Int, H.rd h10 (Addr.add (Addr.add b11 ((x9).toNat * 1)) 0) (Value.int .i64 x12) ∧
 VIf (x12 == (0 : Int)) (
 (∃ h13, Gh h10 h13 ∧ R3 x8_out h13)) (
 In64 (x12 - (1 : Int)) ∧
 H.new h10 [(Value.int .i64 (x12 - (1 : Int)))] fun r14 h15 =>
 appVC Go.Proofs.Try.prog 29 (Value.slice x8_out.a x8_out.len x8_out.cap) (Value.slice (some (Addr.mk r14 0 none)) 1 1) h15 fun x16 h17 =>
 In64 (x9 + (1 : Int)) ∧
 ∃ m6, m6 < n5 ∧ (∃ h18, Gh h17 h18 ∧ I4 m6 x16 (x9 + (1 : Int)) h18))) (
 (∃ h19, Gh h10 h19 ∧ R3 x8_out h19))

def f23_sem (p0_r : Option Addr) (h0 : H) (post : Value → H → Prop) : Prop :=
 ∃ a1 : Addr, p0_r = some a1 ∧
 ∃ x2 : SV, H.rd h0 (Addr.add (Addr.add a1 0) 0) (Value.slice x2.a x2.len x2.cap) ∧
 ∃ R3 : SV → H → Prop, (
 ∃ I4 : Nat → SV → Int → H → Prop, (∃ n5, (∃ h7, Gh h0 h7 ∧ I4 n5 (SV.mk none 0 0) (0 : Int) h7)) ∧
 ∀ (n5 : Nat) (_ : F) (x8_out : SV) (x9 : Int) (h10 : H), I4 n5 x8_out x9 h10 →
 f23_L1 x2 R3 I4 n5 x8_out x9 h10) ∧
 ∀ (_ : F) (x20_out : SV) (h21 : H), R3 x20_out h21 →
 SemCall Go.Proofs.Try.prog 33 (List.toArray [(Value.slice x20_out.a x20_out.len x20_out.cap)]) h21 fun v22 h23 =>
 ∃ x24 : SV, v22 = (Value.slice x24.a x24.len x24.cap) ∧
 VRet h23 (Value.slice x24.a x24.len x24.cap) post

def f23_hint : Hint := (.node .leaf (.node .leaf (.node (.node .leaf (.join [(3, .sl)] (.node (.loop [(3, .sl), (11, .int)] .leaf) .leaf))) .leaf)))

theorem f23_eq (p0_r : Option Addr) (h0 : H) (post : Value → H → Prop) : exec Try.prog (bodyOf Try.f23) f23_hint (retQ Try.prog Try.f23 post) (F0 [(Value.pointer p0_r)]) h0 = f23_sem p0_r h0 post := by kernel_rfl

set_option maxRecDepth 20000 in
theorem f23_call (p0_r : Option Addr) (h0 : H) (post : Value → H → Prop) (hx : f23_sem p0_r h0 post) : SemCall Try.prog 23 (List.toArray [(Value.pointer p0_r)]) h0 post :=
 sem_of_exec (g := f23_hint) mixed Try.func23 (bodyOf_eq (by kernel_rfl)) (by kernel_rfl) ((f23_eq p0_r h0 post).mpr hx)

/- latchgarth/latchgarthlaw3.univFact -/
def f24_sem (h0 : H) (post : Value → H → Prop) : Prop :=
 SemCall Go.Proofs.Try.prog 18 (List.toArray [(Value.int .i64 (1 : Int))]) h0 fun v1 h2 =>
 ∃ x3 : Option Addr, ∃ x4 : Option (TypeId × Value), v1 = (Value.tuple (List.toArray [(Value.pointer x3), (errV x4)])) ∧
 isIfaceV (errV x4) = true ∧
 VIf (!(isNilV (errV x4))) (
 VRet h2 (Value.bool false) post) (
 SemCall Go.Proofs.Try.prog 20 (List.toArray [(Value.pointer x3), (Value.int .i64 0), (Value.int .i64 (7 : Int))]) h2 fun v5 h6 =>
 ∃ x7 : Option (TypeId × Value), v5 = (errV x7) ∧
 SemCall Go.Proofs.Try.prog 21 (List.toArray [(Value.pointer x3), (Value.int .i64 0)]) h6 fun v8 h9 =>
 ∃ x10 : Bool, ∃ x11 : Int, ∃ x12 : Option (TypeId × Value), v8 = (Value.tuple (List.toArray [(Value.bool x10), (Value.int .i64 x11), (errV x12)])) ∧
 SemCall Go.Proofs.Try.prog 21 (List.toArray [(Value.pointer x3), (Value.int .i64 0)]) h9 fun v13 h14 =>
 ∃ x15 : Bool, ∃ x16 : Int, ∃ x17 : Option (TypeId × Value), v13 = (Value.tuple (List.toArray [(Value.bool x15), (Value.int .i64 x16), (errV x17)])) ∧
 ∃ R18 : Bool → H → Prop, (
 isIfaceV (errV x7) = true ∧
 VIf (isNilV (errV x7)) (
 isIfaceV (errV x12) = true ∧
 VIf (isNilV (errV x12)) (
 isIfaceV (errV x17) = true ∧
 VIf (isNilV (errV x17)) (
 VIf (!x10) (
 VIf x15 (
 VIf (x16 == (0 : Int)) (
 SemCall Go.Proofs.Try.prog 23 (List.toArray [(Value.pointer x3)]) h14 fun v19 h20 =>
 ∃ x21 : SV, v19 = (Value.slice x21.a x21.len x21.cap) ∧
 H.new h20 [(Value.int .i64 0)] fun r22 h23 =>
 SemCall Go.Proofs.Try.prog 34 (List.toArray [(Value.slice x21.a x21.len x21.cap), (Value.slice (some (Addr.mk r22 0 none)) 1 1)]) h23 fun v24 h25 =>
 ∃ x26 : Bool, v24 = (Value.bool x26) ∧
 (∃ h27, Gh h25 h27 ∧ R18 x26 h27)) (
 (∃ h28, Gh h14 h28 ∧ R18 false h28))) (
 (∃ h29, Gh h14 h29 ∧ R18 false h29))) (
 (∃ h30, Gh h14 h30 ∧ R18 false h30))) (
 (∃ h31, Gh h14 h31 ∧ R18 false h31))) (
 (∃ h32, Gh h14 h32 ∧ R18 false h32))) (
 (∃ h33, Gh h14 h33 ∧ R18 false h33))) ∧
 ∀ (_ : F) (x34 : Bool) (h35 : H), R18 x34 h35 →
 VRet h35 (Value.bool x34) post)

def f24_hint : Hint := (.node .leaf (.node .leaf (.node .leaf (.node .leaf (.node .leaf (.node .leaf (.node (.join [(0, .bool)] .leaf) .leaf)))))))

theorem f24_eq (h0 : H) (post : Value → H → Prop) : exec Try.prog (bodyOf Try.f24) f24_hint (retQ Try.prog Try.f24 post) (F0 []) h0 = f24_sem h0 post := by kernel_rfl

set_option maxRecDepth 20000 in
theorem f24_call (h0 : H) (post : Value → H → Prop) (hx : f24_sem h0 post) : SemCall Try.prog 24 (List.toArray []) h0 post :=
 sem_of_exec (g := f24_hint) mixed Try.func24 (bodyOf_eq (by kernel_rfl)) (by kernel_rfl) ((f24_eq h0 post).mpr hx)

/- 51 (*latchgarth/univ.Row).At : NOT MADE: code None -/
end Go.Proofs.Ytockhbbpcbcenaa
