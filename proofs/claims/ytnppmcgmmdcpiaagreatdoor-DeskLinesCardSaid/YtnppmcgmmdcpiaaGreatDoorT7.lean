
import Derived.Test.YtnppmcgmmdcpiaaGreatDoorT3
import Derived.Test.YtnppmcgmmdcpiaaGreatDoorEngG
import Derived.Test.YtnppmcgmmdcpiaaGreatDoorRows
import Derived.Test.YtnppmcgmmdcpiaaGreatDoorT
namespace Go.Proofs.YtnppmcgmmdcpiaaGreatDoor
open Go.Eng
def f40_sem (h0 : H) (post : Value → H → Prop) : Prop :=
 H.new h0 [(Value.slice none 0 0), (Value.slice none 0 0), (Value.slice none 0 0)] fun r1 h2 =>
 H.new h2 [(Value.int .i64 (6 : Int)), (Value.int .i64 (4 : Int))] fun r3 h4 =>
 H.new h4 [(Value.int .i64 (5 : Int)), (Value.int .i64 (2 : Int))] fun r5 h6 =>
 H.new h6 [(Value.int .i64 (3 : Int)), (Value.int .i64 (3 : Int))] fun r7 h8 =>
 H.new h8 [(Value.int .i64 (4 : Int)), (Value.int .i64 (1 : Int))] fun r9 h10 =>
 H.new h10 [(Value.slice (some (Addr.mk r5 0 none)) 2 2), (Value.slice (some (Addr.mk r7 0 none)) 2 2), (Value.slice (some (Addr.mk r9 0 none)) 2 2)] fun r11 h12 =>
 H.new h12 [(Value.int .i64 0), (Value.int .i64 0)] fun r13 h14 =>
 H.new h14 [(Value.int .i64 0), (Value.int .i64 0)] fun r15 h16 =>
 H.new h16 [(Value.int .i64 0), (Value.int .i64 0)] fun r17 h18 =>
 H.new h18 [(Value.slice (some (Addr.mk r13 0 none)) 2 2), (Value.slice (some (Addr.mk r15 0 none)) 2 2), (Value.slice (some (Addr.mk r17 0 none)) 2 2)] fun r19 h20 =>
 ([(Value.slice (some (Addr.mk r3 0 none)) 2 2), (Value.slice (some (Addr.mk r11 0 none)) 3 3), (Value.slice (some (Addr.mk r19 0 none)) 3 3)]).length = 3 ∧ (Program.underlying Go.Proofs.Tryz.prog 25).isSome = true ∧
 H.wr h20 (Addr.mk r1 0 none) ([(Value.slice (some (Addr.mk r3 0 none)) 2 2), (Value.slice (some (Addr.mk r11 0 none)) 3 3), (Value.slice (some (Addr.mk r19 0 none)) 3 3)]) fun h21 =>
 ∃ x22 : SV, H.rd h21 (Addr.add (Addr.mk r1 0 none) 0) (Value.slice x22.a x22.len x22.cap) ∧
 ∃ x23 : SV, H.rd h21 (Addr.add (Addr.mk r1 0 none) 1) (Value.slice x23.a x23.len x23.cap) ∧
 ∃ x24 : SV, H.rd h21 (Addr.add (Addr.mk r1 0 none) 2) (Value.slice x24.a x24.len x24.cap) ∧
 VRet h21 (Value.agg (List.toArray [(Value.slice x22.a x22.len x22.cap), (Value.slice x23.a x23.len x23.cap), (Value.slice x24.a x24.len x24.cap)])) post
def f40_hint : Hint := .leaf
theorem f40_eq (h0 : H) (post : Value → H → Prop) : exec Tryz.prog (bodyOf Tryz.f40) f40_hint (retQ Tryz.prog Tryz.f40 post) (F0 []) h0 = f40_sem h0 post := by kernel_rfl
set_option maxRecDepth 20000 in
theorem f40_call (h0 : H) (post : Value → H → Prop) (hx : f40_sem h0 post) : SemCall Tryz.prog 40 (List.toArray []) h0 post :=
 sem_of_exec (g := f40_hint) mixed Tryz.func40 (bodyOf_eq (by kernel_rfl)) (by kernel_rfl) ((f40_eq h0 post).mpr hx)
def f41_sem (p0_err : Option (TypeId × Value)) (h0 : H) (post : Value → H → Prop) : Prop :=
 H.new h0 [(Value.int .i64 0)] fun r1 h2 =>
 SemCall Go.Proofs.Tryz.prog 57 (List.toArray [(errV p0_err), (Value.iface 95 (Value.pointer (some (Addr.mk r1 0 none))))]) h2 fun v3 h4 =>
 ∃ x5 : Bool, v3 = (Value.bool x5) ∧
 VIf x5 (
 ∃ x6 : Int, H.rd h4 (Addr.add (Addr.mk r1 0 none) 0) (Value.int .i64 x6) ∧
 SemCall Go.Proofs.Tryz.prog 68 (List.toArray [(Value.int .i64 x6)]) h4 fun v7 h8 =>
 ∃ x9 : ByteArray, v7 = (Value.string x9) ∧
 VRet h8 (Value.string x9) post) (
 VRet h4 (Value.string (ByteArray.mk (List.toArray [(111 : UInt8), (107 : UInt8)]))) post)
def f41_hint : Hint := .leaf
theorem f41_eq (p0_err : Option (TypeId × Value)) (h0 : H) (post : Value → H → Prop) : exec Tryz.prog (bodyOf Tryz.f41) f41_hint (retQ Tryz.prog Tryz.f41 post) (F0 [(errV p0_err)]) h0 = f41_sem p0_err h0 post := by kernel_rfl
set_option maxRecDepth 20000 in
theorem f41_call (p0_err : Option (TypeId × Value)) (h0 : H) (post : Value → H → Prop) (hx : f41_sem p0_err h0 post) : SemCall Tryz.prog 41 (List.toArray [(errV p0_err)]) h0 post :=
 sem_of_exec (g := f41_hint) mixed Tryz.func41 (bodyOf_eq (by kernel_rfl)) (by kernel_rfl) ((f41_eq p0_err h0 post).mpr hx)
def f68_sem (p0_e : Int) (h0 : H) (post : Value → H → Prop) : Prop :=
 VIf (p0_e == (0 : Int)) (
 VRet h0 (Value.string (ByteArray.mk (List.toArray [(79 : UInt8), (75 : UInt8)]))) post) (
 VIf (p0_e == (1 : Int)) (
 VRet h0 (Value.string (ByteArray.mk (List.toArray [(69 : UInt8), (114 : UInt8), (114 : UInt8), (82 : UInt8), (97 : UInt8), (110 : UInt8), (103 : UInt8), (101 : UInt8)]))) post) (
 VIf (p0_e == (2 : Int)) (
 VRet h0 (Value.string (ByteArray.mk (List.toArray [(69 : UInt8), (114 : UInt8), (114 : UInt8), (83 : UInt8), (121 : UInt8), (110 : UInt8), (116 : UInt8), (97 : UInt8), (120 : UInt8)]))) post) (
 VIf (p0_e == (3 : Int)) (
 VRet h0 (Value.string (ByteArray.mk (List.toArray [(69 : UInt8), (114 : UInt8), (114 : UInt8), (83 : UInt8), (104 : UInt8), (97 : UInt8), (112 : UInt8), (101 : UInt8)]))) post) (
 VIf (p0_e == (4 : Int)) (
 VRet h0 (Value.string (ByteArray.mk (List.toArray [(69 : UInt8), (114 : UInt8), (114 : UInt8), (70 : UInt8), (117 : UInt8), (108 : UInt8), (108 : UInt8)]))) post) (
 VIf (p0_e == (5 : Int)) (
 VRet h0 (Value.string (ByteArray.mk (List.toArray [(69 : UInt8), (114 : UInt8), (114 : UInt8), (78 : UInt8), (111 : UInt8), (110 : UInt8), (101 : UInt8)]))) post) (
 VIf (p0_e == (6 : Int)) (
 VRet h0 (Value.string (ByteArray.mk (List.toArray [(69 : UInt8), (114 : UInt8), (114 : UInt8), (67 : UInt8), (108 : UInt8), (97 : UInt8), (115 : UInt8), (104 : UInt8)]))) post) (
 VIf (p0_e == (7 : Int)) (
 VRet h0 (Value.string (ByteArray.mk (List.toArray [(69 : UInt8), (114 : UInt8), (114 : UInt8), (83 : UInt8), (116 : UInt8), (97 : UInt8), (116 : UInt8), (101 : UInt8)]))) post) (
 VRet h0 (Value.string (ByteArray.mk (List.toArray [(69 : UInt8), (114 : UInt8), (114 : UInt8), (110 : UInt8), (111 : UInt8)]))) post))))))))
def f68_hint : Hint := .leaf
theorem f68_eq (p0_e : Int) (h0 : H) (post : Value → H → Prop) : exec Tryz.prog (bodyOf Tryz.f68) f68_hint (retQ Tryz.prog Tryz.f68 post) (F0 [(Value.int .i64 p0_e)]) h0 = f68_sem p0_e h0 post := by kernel_rfl
set_option maxRecDepth 20000 in
theorem f68_call (p0_e : Int) (h0 : H) (post : Value → H → Prop) (hx : f68_sem p0_e h0 post) : SemCall Tryz.prog 68 (List.toArray [(Value.int .i64 p0_e)]) h0 post :=
 sem_of_exec (g := f68_hint) mixed Tryz.func68 (bodyOf_eq (by kernel_rfl)) (by kernel_rfl) ((f68_eq p0_e h0 post).mpr hx)
def f70_sem (p0_d : Option Addr) (p1_l : SV) (h0 : H) (post : Value → H → Prop) : Prop :=
 ∃ a1 : Addr, p0_d = some a1 ∧
 ∃ x2 : Option Addr, H.rd h0 (Addr.add (Addr.add a1 0) 0) (Value.pointer x2) ∧
 ∃ b3 : Addr, p1_l.a = some b3 ∧ 0 ≤ (0 : Int) ∧ (0 : Int) < ((p1_l.len : Nat) : Int) ∧
 ∃ x4 : Int, H.rd h0 (Addr.add (Addr.add b3 (((0 : Int)).toNat * 1)) 0) (Value.int .i64 x4) ∧
 0 ≤ (1 : Int) ∧ (1 : Int) ≤ ((p1_l.len : Nat) : Int) ∧
 SemCall Go.Proofs.Tryz.prog 19 (List.toArray [(Value.pointer x2), (Value.int .i64 x4), (Value.slice (if p1_l.cap = ((1 : Int)).toNat then p1_l.a else Option.map (fun z => Addr.add z (((1 : Int)).toNat * 1)) p1_l.a) (p1_l.len - ((1 : Int)).toNat) (p1_l.cap - ((1 : Int)).toNat))]) h0 fun v5 h6 =>
 ∃ x7 : Option (TypeId × Value), v5 = (errV x7) ∧
 SemCall Go.Proofs.Tryz.prog 41 (List.toArray [(errV x7)]) h6 fun v8 h9 =>
 ∃ x10 : ByteArray, v8 = (Value.string x10) ∧
 VRet h9 (Value.string x10) post
def f70_hint : Hint := (.node .leaf (.node (.tail 9) .leaf))
theorem f70_eq (p0_d : Option Addr) (p1_l : SV) (h0 : H) (post : Value → H → Prop) : exec Tryz.prog (bodyOf Tryz.f70) f70_hint (retQ Tryz.prog Tryz.f70 post) (F0 [(Value.pointer p0_d), (Value.slice p1_l.a p1_l.len p1_l.cap)]) h0 = f70_sem p0_d p1_l h0 post := by kernel_rfl
set_option maxRecDepth 20000 in
theorem f70_call (p0_d : Option Addr) (p1_l : SV) (h0 : H) (post : Value → H → Prop) (hx : f70_sem p0_d p1_l h0 post) : SemCall Tryz.prog 70 (List.toArray [(Value.pointer p0_d), (Value.slice p1_l.a p1_l.len p1_l.cap)]) h0 post :=
 sem_of_exec (g := f70_hint) mixed Tryz.func70 (bodyOf_eq (by kernel_rfl)) (by kernel_rfl) ((f70_eq p0_d p1_l h0 post).mpr hx)
def f71_sem (p0_d : Option Addr) (p1_l : SV) (h0 : H) (post : Value → H → Prop) : Prop :=
 ∃ a1 : Addr, p0_d = some a1 ∧
 ∃ x2 : Option Addr, H.rd h0 (Addr.add (Addr.add a1 0) 0) (Value.pointer x2) ∧
 ∃ b3 : Addr, p1_l.a = some b3 ∧ 0 ≤ (0 : Int) ∧ (0 : Int) < ((p1_l.len : Nat) : Int) ∧
 ∃ x4 : Int, H.rd h0 (Addr.add (Addr.add b3 (((0 : Int)).toNat * 1)) 0) (Value.int .i64 x4) ∧
 0 ≤ (1 : Int) ∧ (1 : Int) ≤ ((p1_l.len : Nat) : Int) ∧
 SemCall Go.Proofs.Tryz.prog 26 (List.toArray [(Value.pointer x2), (Value.int .i64 x4), (Value.slice (if p1_l.cap = ((1 : Int)).toNat then p1_l.a else Option.map (fun z => Addr.add z (((1 : Int)).toNat * 1)) p1_l.a) (p1_l.len - ((1 : Int)).toNat) (p1_l.cap - ((1 : Int)).toNat))]) h0 fun v5 h6 =>
 ∃ x7 : Option (TypeId × Value), v5 = (errV x7) ∧
 SemCall Go.Proofs.Tryz.prog 41 (List.toArray [(errV x7)]) h6 fun v8 h9 =>
 ∃ x10 : ByteArray, v8 = (Value.string x10) ∧
 VRet h9 (Value.string x10) post
def f71_hint : Hint := (.node .leaf (.node (.tail 9) .leaf))
theorem f71_eq (p0_d : Option Addr) (p1_l : SV) (h0 : H) (post : Value → H → Prop) : exec Tryz.prog (bodyOf Tryz.f71) f71_hint (retQ Tryz.prog Tryz.f71 post) (F0 [(Value.pointer p0_d), (Value.slice p1_l.a p1_l.len p1_l.cap)]) h0 = f71_sem p0_d p1_l h0 post := by kernel_rfl
set_option maxRecDepth 20000 in
theorem f71_call (p0_d : Option Addr) (p1_l : SV) (h0 : H) (post : Value → H → Prop) (hx : f71_sem p0_d p1_l h0 post) : SemCall Tryz.prog 71 (List.toArray [(Value.pointer p0_d), (Value.slice p1_l.a p1_l.len p1_l.cap)]) h0 post :=
 sem_of_exec (g := f71_hint) mixed Tryz.func71 (bodyOf_eq (by kernel_rfl)) (by kernel_rfl) ((f71_eq p0_d p1_l h0 post).mpr hx)
def f72_sem (p0_d : Option Addr) (p1_p : SV) (h0 : H) (post : Value → H → Prop) : Prop :=
 ∃ a1 : Addr, p0_d = some a1 ∧
 ∃ x2 : Option Addr, H.rd h0 (Addr.add (Addr.add a1 0) 0) (Value.pointer x2) ∧
 SemCall Go.Proofs.Tryz.prog 18 (List.toArray [(Value.pointer x2)]) h0 fun v3 h4 =>
 ∃ x5 : SV, ∃ x6 : SV, ∃ x7 : SV, v3 = (Value.agg (List.toArray [(Value.slice x5.a x5.len x5.cap), (Value.slice x6.a x6.len x6.cap), (Value.slice x7.a x7.len x7.cap)])) ∧
 SemCall Go.Proofs.Tryz.prog 99 (List.toArray [(Value.string (ByteArray.mk (List.toArray [(102 : UInt8), (114 : UInt8), (101 : UInt8), (101 : UInt8)]))), (Value.slice x5.a x5.len x5.cap)]) h4 fun v8 h9 =>
 ∃ x10 : ByteArray, v8 = (Value.string x10) ∧
 VRet h9 (Value.string x10) post
def f72_hint : Hint := .leaf
theorem f72_eq (p0_d : Option Addr) (p1_p : SV) (h0 : H) (post : Value → H → Prop) : exec Tryz.prog (bodyOf Tryz.f72) f72_hint (retQ Tryz.prog Tryz.f72 post) (F0 [(Value.pointer p0_d), (Value.slice p1_p.a p1_p.len p1_p.cap)]) h0 = f72_sem p0_d p1_p h0 post := by kernel_rfl
set_option maxRecDepth 20000 in
theorem f72_call (p0_d : Option Addr) (p1_p : SV) (h0 : H) (post : Value → H → Prop) (hx : f72_sem p0_d p1_p h0 post) : SemCall Tryz.prog 72 (List.toArray [(Value.pointer p0_d), (Value.slice p1_p.a p1_p.len p1_p.cap)]) h0 post :=
 sem_of_exec (g := f72_hint) mixed Tryz.func72 (bodyOf_eq (by kernel_rfl)) (by kernel_rfl) ((f72_eq p0_d p1_p h0 post).mpr hx)
def f73_sem (p0_d : Option Addr) (p1_p : SV) (h0 : H) (post : Value → H → Prop) : Prop :=
 ∃ a1 : Addr, p0_d = some a1 ∧
 ∃ x2 : Option Addr, H.rd h0 (Addr.add (Addr.add a1 0) 0) (Value.pointer x2) ∧
 SemCall Go.Proofs.Tryz.prog 18 (List.toArray [(Value.pointer x2)]) h0 fun v3 h4 =>
 ∃ x5 : SV, ∃ x6 : SV, ∃ x7 : SV, v3 = (Value.agg (List.toArray [(Value.slice x5.a x5.len x5.cap), (Value.slice x6.a x6.len x6.cap), (Value.slice x7.a x7.len x7.cap)])) ∧
 SemCall Go.Proofs.Tryz.prog 48 (List.toArray [(Value.agg (List.toArray [(Value.slice x5.a x5.len x5.cap), (Value.slice x6.a x6.len x6.cap), (Value.slice x7.a x7.len x7.cap)]))]) h4 fun v8 h9 =>
 ∃ x10 : Bool, ∃ x11 : SV, ∃ x12 : Option (TypeId × Value), v8 = (Value.tuple (List.toArray [(Value.bool x10), (Value.slice x11.a x11.len x11.cap), (errV x12)])) ∧
 isIfaceV (errV x12) = true ∧
 VIf (!(isNilV (errV x12))) (
 SemCall Go.Proofs.Tryz.prog 41 (List.toArray [(errV x12)]) h9 fun v13 h14 =>
 ∃ x15 : ByteArray, v13 = (Value.string x15) ∧
 VRet h14 (Value.string x15) post) (
 SemCall Go.Proofs.Tryz.prog 99 (List.toArray [(Value.string (ByteArray.mk (List.toArray [(114 : UInt8), (111 : UInt8), (119 : UInt8)]))), (Value.slice x11.a x11.len x11.cap)]) h9 fun v16 h17 =>
 ∃ x18 : ByteArray, v16 = (Value.string x18) ∧
 VRet h17 (Value.string x18) post)
def f73_hint : Hint := .leaf
theorem f73_eq (p0_d : Option Addr) (p1_p : SV) (h0 : H) (post : Value → H → Prop) : exec Tryz.prog (bodyOf Tryz.f73) f73_hint (retQ Tryz.prog Tryz.f73 post) (F0 [(Value.pointer p0_d), (Value.slice p1_p.a p1_p.len p1_p.cap)]) h0 = f73_sem p0_d p1_p h0 post := by kernel_rfl
set_option maxRecDepth 20000 in
theorem f73_call (p0_d : Option Addr) (p1_p : SV) (h0 : H) (post : Value → H → Prop) (hx : f73_sem p0_d p1_p h0 post) : SemCall Tryz.prog 73 (List.toArray [(Value.pointer p0_d), (Value.slice p1_p.a p1_p.len p1_p.cap)]) h0 post :=
 sem_of_exec (g := f73_hint) mixed Tryz.func73 (bodyOf_eq (by kernel_rfl)) (by kernel_rfl) ((f73_eq p0_d p1_p h0 post).mpr hx)
def f74_sem (p0_d : Option Addr) (p1_l : SV) (h0 : H) (post : Value → H → Prop) : Prop :=
 ∃ a1 : Addr, p0_d = some a1 ∧
 ∃ x2 : Option Addr, H.rd h0 (Addr.add (Addr.add a1 0) 0) (Value.pointer x2) ∧
 SemCall Go.Proofs.Tryz.prog 13 (List.toArray [(Value.pointer x2)]) h0 fun v3 h4 =>
 ∃ x5 : ByteArray, v3 = (Value.string x5) ∧
 ∃ b6 : Addr, p1_l.a = some b6 ∧ 0 ≤ (0 : Int) ∧ (0 : Int) < ((p1_l.len : Nat) : Int) ∧
 ∃ x7 : Int, H.rd h4 (Addr.add (Addr.add b6 (((0 : Int)).toNat * 1)) 0) (Value.int .i64 x7) ∧
 0 ≤ (if ((ByteArray.size x5 : Nat) : Int) < x7 then ((ByteArray.size x5 : Nat) : Int) else x7) ∧ (if ((ByteArray.size x5 : Nat) : Int) < x7 then ((ByteArray.size x5 : Nat) : Int) else x7) ≤ ((ByteArray.size x5 : Nat) : Int) ∧
 SemCall Go.Proofs.Tryz.prog 40 (List.toArray []) h4 fun v8 h9 => OwnExt h4 h9 ∧
 ∃ x10 : SV, ∃ x11 : SV, ∃ x12 : SV, v8 = (Value.agg (List.toArray [(Value.slice x10.a x10.len x10.cap), (Value.slice x11.a x11.len x11.cap), (Value.slice x12.a x12.len x12.cap)])) ∧
 SemCall Go.Proofs.Tryz.prog 14 (List.toArray [(Value.agg (List.toArray [(Value.slice x10.a x10.len x10.cap), (Value.slice x11.a x11.len x11.cap), (Value.slice x12.a x12.len x12.cap)])), (Value.string (ByteArray.extract x5 0 ((if ((ByteArray.size x5 : Nat) : Int) < x7 then ((ByteArray.size x5 : Nat) : Int) else x7)).toNat))]) h9 fun v13 h14 =>
 ∃ x15 : Option Addr, ∃ x16 : Int, ∃ x17 : Option (TypeId × Value), v13 = (Value.tuple (List.toArray [(Value.pointer x15), (Value.int .i64 x16), (errV x17)])) ∧
 isIfaceV (errV x17) = true ∧
 VIf (!(isNilV (errV x17))) (
 SemCall Go.Proofs.Tryz.prog 41 (List.toArray [(errV x17)]) h14 fun v18 h19 =>
 ∃ x20 : ByteArray, v18 = (Value.string x20) ∧
 VRet h19 (Value.string x20) post) (
 ∃ a21 : Addr, p0_d = some a21 ∧
 H.wr h14 (Addr.add a21 0) ([(Value.pointer x15)]) fun h22 =>
 H.new h22 [(Value.int .i64 x16)] fun r23 h24 =>
 SemCall Go.Proofs.Tryz.prog 99 (List.toArray [(Value.string (ByteArray.mk (List.toArray [(102 : UInt8), (111 : UInt8), (117 : UInt8), (110 : UInt8), (100 : UInt8)]))), (Value.slice (some (Addr.mk r23 0 none)) 1 1)]) h24 fun v25 h26 =>
 ∃ x27 : ByteArray, v25 = (Value.string x27) ∧
 VRet h26 (Value.string x27) post)
def f74_hint : Hint := (.node .leaf (.node .leaf (.node .lex .leaf)))
theorem f74_eq (p0_d : Option Addr) (p1_l : SV) (h0 : H) (post : Value → H → Prop) : exec Tryz.prog (bodyOf Tryz.f74) f74_hint (retQ Tryz.prog Tryz.f74 post) (F0 [(Value.pointer p0_d), (Value.slice p1_l.a p1_l.len p1_l.cap)]) h0 = f74_sem p0_d p1_l h0 post := by kernel_rfl
set_option maxRecDepth 20000 in
theorem f74_call (p0_d : Option Addr) (p1_l : SV) (h0 : H) (post : Value → H → Prop) (hx : f74_sem p0_d p1_l h0 post) : SemCall Tryz.prog 74 (List.toArray [(Value.pointer p0_d), (Value.slice p1_l.a p1_l.len p1_l.cap)]) h0 post :=
 sem_of_exec (g := f74_hint) mixed Tryz.func74 (bodyOf_eq (by kernel_rfl)) (by kernel_rfl) ((f74_eq p0_d p1_l h0 post).mpr hx)
def f75_L1 (p0_l : SV) (post : Value → H → Prop) (R1 : SV → H → Prop) (I2 : Nat → SV → Int → H → Prop) (n3 : Nat) (x6_out : SV) (x7 : Int) (h8 : H) : Prop :=
 VIf (decide (x7 < ((p0_l.len : Nat) : Int))) (
 ∃ b9 : Addr, p0_l.a = some b9 ∧ 0 ≤ x7 ∧ x7 < ((p0_l.len : Nat) : Int) ∧
 ∃ x10 : ByteArray, H.rd h8 (Addr.add (Addr.add b9 ((x7).toNat * 1)) 0) (Value.string x10) ∧
 SemCall Go.Proofs.Tryz.prog 84 (List.toArray [(Value.string x10)]) h8 fun v11 h12 =>
 ∃ x13 : Int, ∃ x14 : Option (TypeId × Value), v11 = (Value.tuple (List.toArray [(Value.int .i64 x13), (errV x14)])) ∧
 ∃ R15 : Bool → H → Prop, (
 isIfaceV (errV x14) = true ∧
 VIf (!(isNilV (errV x14))) (
 (∃ h16, Gh h12 h16 ∧ R15 true h16)) (
 VIf (decide (x13 < (0 : Int))) (
 (∃ h17, Gh h12 h17 ∧ R15 true h17)) (
 VIf (decide (((ByteArray.size x10 : Nat) : Int) > (7 : Int))) (
 (∃ h18, Gh h12 h18 ∧ R15 true h18)) (
 SemCall Go.Proofs.Tryz.prog 64 (List.toArray [(Value.int .i64 x13)]) h12 fun v19 h20 =>
 ∃ x21 : ByteArray, v19 = (Value.string x21) ∧
 (∃ h22, Gh h20 h22 ∧ R15 (!(ByteArray.toList x21 == ByteArray.toList x10)) h22))))) ∧
 ∀ (_ : F) (x23 : Bool) (h24 : H), R15 x23 h24 →
 VIf x23 (
 VRet h24 (Value.tuple (List.toArray [(Value.slice none 0 0), (Value.bool false)])) post) (
 H.new h24 [(Value.int .i64 x13)] fun r25 h26 =>
 appVC Go.Proofs.Tryz.prog 22 (Value.slice x6_out.a x6_out.len x6_out.cap) (Value.slice (some (Addr.mk r25 0 none)) 1 1) h26 fun x27 h28 =>
 In64 (x7 + (1 : Int)) ∧
 ∃ m4, m4 < n3 ∧ (∃ h29, Gh h28 h29 ∧ I2 m4 x27 (x7 + (1 : Int)) h29))) (
 (∃ h30, Gh h8 h30 ∧ R1 x6_out h30))
def f75_sem (p0_l : SV) (h0 : H) (post : Value → H → Prop) : Prop :=
 ∃ R1 : SV → H → Prop, (
 ∃ I2 : Nat → SV → Int → H → Prop, (∃ n3, (∃ h5, Gh h0 h5 ∧ I2 n3 (SV.mk none 0 0) (0 : Int) h5)) ∧
 ∀ (n3 : Nat) (_ : F) (x6_out : SV) (x7 : Int) (h8 : H), I2 n3 x6_out x7 h8 →
 f75_L1 p0_l post R1 I2 n3 x6_out x7 h8) ∧
 ∀ (_ : F) (x31_out : SV) (h32 : H), R1 x31_out h32 →
 VRet h32 (Value.tuple (List.toArray [(Value.slice x31_out.a x31_out.len x31_out.cap), (Value.bool true)])) post
def f75_hint : Hint := (.node .leaf (.node .leaf (.node (.node .leaf (.join [(4, .sl)] (.node (.loop [(4, .sl), (11, .int)] (.node .leaf (.node .leaf (.node (.node (.node .leaf (.node .leaf (.node (.node (.join [(36, .bool)] .leaf) .leaf) .leaf))) .leaf) .leaf)))) .leaf))) .leaf)))
theorem f75_eq (p0_l : SV) (h0 : H) (post : Value → H → Prop) : exec Tryz.prog (bodyOf Tryz.f75) f75_hint (retQ Tryz.prog Tryz.f75 post) (F0 [(Value.slice p0_l.a p0_l.len p0_l.cap)]) h0 = f75_sem p0_l h0 post := by kernel_rfl
set_option maxRecDepth 20000 in
theorem f75_call (p0_l : SV) (h0 : H) (post : Value → H → Prop) (hx : f75_sem p0_l h0 post) : SemCall Tryz.prog 75 (List.toArray [(Value.slice p0_l.a p0_l.len p0_l.cap)]) h0 post :=
 sem_of_exec (g := f75_hint) mixed Tryz.func75 (bodyOf_eq (by kernel_rfl)) (by kernel_rfl) ((f75_eq p0_l h0 post).mpr hx)
def f99_L1 (p1_l : SV) (R1 : ByteArray → H → Prop) (I2 : Nat → ByteArray → Int → H → Prop) (n3 : Nat) (x6_name : ByteArray) (x7 : Int) (h8 : H) : Prop :=
 VIf (decide (x7 < ((p1_l.len : Nat) : Int))) (
 ∃ b9 : Addr, p1_l.a = some b9 ∧ 0 ≤ x7 ∧ x7 < ((p1_l.len : Nat) : Int) ∧
 ∃ x10 : Int, H.rd h8 (Addr.add (Addr.add b9 ((x7).toNat * 1)) 0) (Value.int .i64 x10) ∧
 SemCall Go.Proofs.Tryz.prog 64 (List.toArray [(Value.int .i64 x10)]) h8 fun v11 h12 =>
 ∃ x13 : ByteArray, v11 = (Value.string x13) ∧
 ((ByteArray.size (ByteArray.mk (List.toArray [(32 : UInt8)])) + ByteArray.size x13 : Nat) : Int) ≤ 9223372036854775807 ∧
 ((ByteArray.size x6_name + ByteArray.size ((ByteArray.mk (List.toArray [(32 : UInt8)])) ++ x13) : Nat) : Int) ≤ 9223372036854775807 ∧
 In64 (x7 + (1 : Int)) ∧
 ∃ m4, m4 < n3 ∧ (∃ h14, Gh h12 h14 ∧ I2 m4 (x6_name ++ ((ByteArray.mk (List.toArray [(32 : UInt8)])) ++ x13)) (x7 + (1 : Int)) h14)) (
 (∃ h15, Gh h8 h15 ∧ R1 x6_name h15))
def f99_sem (p0_name : ByteArray) (p1_l : SV) (h0 : H) (post : Value → H → Prop) : Prop :=
 ∃ R1 : ByteArray → H → Prop, (
 ∃ I2 : Nat → ByteArray → Int → H → Prop, (∃ n3, (∃ h5, Gh h0 h5 ∧ I2 n3 p0_name (0 : Int) h5)) ∧
 ∀ (n3 : Nat) (_ : F) (x6_name : ByteArray) (x7 : Int) (h8 : H), I2 n3 x6_name x7 h8 →
 f99_L1 p1_l R1 I2 n3 x6_name x7 h8) ∧
 ∀ (_ : F) (x16_name : ByteArray) (h17 : H), R1 x16_name h17 →
 VRet h17 (Value.string x16_name) post
def f99_hint : Hint := (.node .leaf (.node (.node .leaf (.join [(0, .str)] (.node (.loop [(0, .str), (9, .int)] .leaf) .leaf))) .leaf))
theorem f99_eq (p0_name : ByteArray) (p1_l : SV) (h0 : H) (post : Value → H → Prop) : exec Tryz.prog (bodyOf Tryz.f99) f99_hint (retQ Tryz.prog Tryz.f99 post) (F0 [(Value.string p0_name), (Value.slice p1_l.a p1_l.len p1_l.cap)]) h0 = f99_sem p0_name p1_l h0 post := by kernel_rfl
set_option maxRecDepth 20000 in
theorem f99_call (p0_name : ByteArray) (p1_l : SV) (h0 : H) (post : Value → H → Prop) (hx : f99_sem p0_name p1_l h0 post) : SemCall Tryz.prog 99 (List.toArray [(Value.string p0_name), (Value.slice p1_l.a p1_l.len p1_l.cap)]) h0 post :=
 sem_of_exec (g := f99_hint) mixed Tryz.func99 (bodyOf_eq (by kernel_rfl)) (by kernel_rfl) ((f99_eq p0_name p1_l h0 post).mpr hx)
def f46_sem (h0 : H) (post : Value → H → Prop) : Prop :=
 H.new h0 [(Value.slice none 0 0), (Value.slice none 0 0), (Value.slice none 0 0)] fun r1 h2 =>
 H.new h2 [(Value.int .i64 (6 : Int)), (Value.int .i64 (4 : Int))] fun r3 h4 =>
 H.new h4 [(Value.int .i64 (5 : Int)), (Value.int .i64 (2 : Int))] fun r5 h6 =>
 H.new h6 [(Value.int .i64 (3 : Int)), (Value.int .i64 (3 : Int))] fun r7 h8 =>
 H.new h8 [(Value.int .i64 (4 : Int)), (Value.int .i64 (1 : Int))] fun r9 h10 =>
 H.new h10 [(Value.slice (some (Addr.mk r5 0 none)) 2 2), (Value.slice (some (Addr.mk r7 0 none)) 2 2), (Value.slice (some (Addr.mk r9 0 none)) 2 2)] fun r11 h12 =>
 H.new h12 [(Value.int .i64 0), (Value.int .i64 0)] fun r13 h14 =>
 H.new h14 [(Value.int .i64 0), (Value.int .i64 0)] fun r15 h16 =>
 H.new h16 [(Value.int .i64 0), (Value.int .i64 0)] fun r17 h18 =>
 H.new h18 [(Value.slice (some (Addr.mk r13 0 none)) 2 2), (Value.slice (some (Addr.mk r15 0 none)) 2 2), (Value.slice (some (Addr.mk r17 0 none)) 2 2)] fun r19 h20 =>
 ([(Value.slice (some (Addr.mk r3 0 none)) 2 2), (Value.slice (some (Addr.mk r11 0 none)) 3 3), (Value.slice (some (Addr.mk r19 0 none)) 3 3)]).length = 3 ∧ (Program.underlying Go.Proofs.Tryz.prog 25).isSome = true ∧
 H.wr h20 (Addr.mk r1 0 none) ([(Value.slice (some (Addr.mk r3 0 none)) 2 2), (Value.slice (some (Addr.mk r11 0 none)) 3 3), (Value.slice (some (Addr.mk r19 0 none)) 3 3)]) fun h21 =>
 ∃ x22 : SV, H.rd h21 (Addr.add (Addr.mk r1 0 none) 0) (Value.slice x22.a x22.len x22.cap) ∧
 ∃ x23 : SV, H.rd h21 (Addr.add (Addr.mk r1 0 none) 1) (Value.slice x23.a x23.len x23.cap) ∧
 ∃ x24 : SV, H.rd h21 (Addr.add (Addr.mk r1 0 none) 2) (Value.slice x24.a x24.len x24.cap) ∧
 VRet h21 (Value.agg (List.toArray [(Value.slice x22.a x22.len x22.cap), (Value.slice x23.a x23.len x23.cap), (Value.slice x24.a x24.len x24.cap)])) post
def f46_hint : Hint := .leaf
theorem f46_eq (h0 : H) (post : Value → H → Prop) : exec Tryz.prog (bodyOf Tryz.f46) f46_hint (retQ Tryz.prog Tryz.f46 post) (F0 []) h0 = f46_sem h0 post := by kernel_rfl
set_option maxRecDepth 20000 in
theorem f46_call (h0 : H) (post : Value → H → Prop) (hx : f46_sem h0 post) : SemCall Tryz.prog 46 (List.toArray []) h0 post :=
 sem_of_exec (g := f46_hint) mixed Tryz.func46 (bodyOf_eq (by kernel_rfl)) (by kernel_rfl) ((f46_eq h0 post).mpr hx)
def f47_J1 (post : Value → H → Prop) (r1 : Nat) (r3 : Nat) (I9 : Nat → SV → Int → H → Prop) (n10 : Nat) (x13_l : SV) (x14_i : Int) (x20 : Int) (x27 : Bool) (h28 : H) : Prop :=
 VIf x27 (
 ∃ x29 : SV, H.rd h28 (Addr.add (Addr.mk r1 0 none) 0) (Value.slice x29.a x29.len x29.cap) ∧
 ∃ x30 : SV, H.rd h28 (Addr.add (Addr.mk r1 0 none) 1) (Value.slice x30.a x30.len x30.cap) ∧
 ∃ x31 : SV, H.rd h28 (Addr.add (Addr.mk r1 0 none) 2) (Value.slice x31.a x31.len x31.cap) ∧
 ∃ x32 : ByteArray, H.rd h28 (Addr.add (Addr.mk r1 0 none) 3) (Value.string x32) ∧
 ∃ x33 : Int, H.rd h28 (Addr.add (Addr.mk r1 0 none) 4) (Value.int .i64 x33) ∧
 ([(Value.slice x29.a x29.len x29.cap), (Value.slice x30.a x30.len x30.cap), (Value.slice x31.a x31.len x31.cap), (Value.string x32), (Value.int .i64 x33)]).length = 5 ∧ (Program.underlying Go.Proofs.Tryz.prog 39).isSome = true ∧
 H.wr h28 (Addr.mk r3 0 none) ([(Value.slice x29.a x29.len x29.cap), (Value.slice x30.a x30.len x30.cap), (Value.slice x31.a x31.len x31.cap), (Value.string x32), (Value.int .i64 x33)]) fun h34 =>
 ∃ x35 : SV, H.rd h34 (Addr.add (Addr.mk r3 0 none) 0) (Value.slice x35.a x35.len x35.cap) ∧
 ∃ x36 : SV, H.rd h34 (Addr.add (Addr.mk r3 0 none) 1) (Value.slice x36.a x36.len x36.cap) ∧
 ∃ x37 : SV, H.rd h34 (Addr.add (Addr.mk r3 0 none) 2) (Value.slice x37.a x37.len x37.cap) ∧
 ∃ x38 : ByteArray, H.rd h34 (Addr.add (Addr.mk r3 0 none) 3) (Value.string x38) ∧
 ∃ x39 : Int, H.rd h34 (Addr.add (Addr.mk r3 0 none) 4) (Value.int .i64 x39) ∧
 VRet h34 (Value.tuple (List.toArray [(Value.agg (List.toArray [(Value.slice x35.a x35.len x35.cap), (Value.slice x36.a x36.len x36.cap), (Value.slice x37.a x37.len x37.cap), (Value.string x38), (Value.int .i64 x39)])), (Value.string (ByteArray.mk (List.toArray [(98 : UInt8), (97 : UInt8), (100 : UInt8)])))])) post) (
 H.new h28 [(Value.int .i64 x20)] fun r40 h41 =>
 appVC Go.Proofs.Tryz.prog 22 (Value.slice x13_l.a x13_l.len x13_l.cap) (Value.slice (some (Addr.mk r40 0 none)) 1 1) h41 fun x42 h43 =>
 In64 (x14_i + (1 : Int)) ∧
 ∃ m11, m11 < n10 ∧ (∃ h44, Gh h43 h44 ∧ I9 m11 x42 (x14_i + (1 : Int)) h44))
def f47_L2 (post : Value → H → Prop) (r1 : Nat) (r3 : Nat) (x7 : SV) (R8 : SV → H → Prop) (I9 : Nat → SV → Int → H → Prop) (n10 : Nat) (x13_l : SV) (x14_i : Int) (h15 : H) : Prop :=
 VIf (decide (x14_i < ((x7.len : Nat) : Int))) (
 ∃ b16 : Addr, x7.a = some b16 ∧ 0 ≤ x14_i ∧ x14_i < ((x7.len : Nat) : Int) ∧
 ∃ x17 : ByteArray, H.rd h15 (Addr.add (Addr.add b16 ((x14_i).toNat * 1)) 0) (Value.string x17) ∧
 SemCall Go.Proofs.Tryz.prog 60 (List.toArray [(Value.string x17)]) h15 fun v18 h19 =>
 ∃ x20 : Int, ∃ x21 : Bool, v18 = (Value.tuple (List.toArray [(Value.int .i64 x20), (Value.bool x21)])) ∧
 ∃ R22 : Bool → H → Prop, (
 VIf (!x21) (
 (∃ h23, Gh h19 h23 ∧ R22 true h23)) (
 ∃ b24 : Addr, x7.a = some b24 ∧ 0 ≤ x14_i ∧ x14_i < ((x7.len : Nat) : Int) ∧
 ∃ x25 : ByteArray, H.rd h19 (Addr.add (Addr.add b24 ((x14_i).toNat * 1)) 0) (Value.string x25) ∧
 (∃ h26, Gh h19 h26 ∧ R22 (decide (((ByteArray.size x25 : Nat) : Int) > (7 : Int))) h26))) ∧
 ∀ (_ : F) (x27 : Bool) (h28 : H), R22 x27 h28 →
 f47_J1 post r1 r3 I9 n10 x13_l x14_i x20 x27 h28) (
 (∃ h45, Gh h15 h45 ∧ R8 x13_l h45))
def f47_J3 (post : Value → H → Prop) (r1 : Nat) (r3 : Nat) (x156_n : Int) (h157 : H) : Prop :=
 ∃ x158 : ByteArray, H.rd h157 (Addr.add (Addr.add (Addr.mk r1 0 none) 3) 0) (Value.string x158) ∧
 0 ≤ x156_n ∧ x156_n ≤ ((ByteArray.size x158 : Nat) : Int) ∧
 SemCall Go.Proofs.Tryz.prog 46 (List.toArray []) h157 fun v159 h160 => OwnExt h157 h160 ∧
 ∃ x161 : SV, ∃ x162 : SV, ∃ x163 : SV, v159 = (Value.agg (List.toArray [(Value.slice x161.a x161.len x161.cap), (Value.slice x162.a x162.len x162.cap), (Value.slice x163.a x163.len x163.cap)])) ∧
 SemCall Go.Proofs.Tryz.prog 16 (List.toArray [(Value.agg (List.toArray [(Value.slice x161.a x161.len x161.cap), (Value.slice x162.a x162.len x162.cap), (Value.slice x163.a x163.len x163.cap)])), (Value.string (ByteArray.extract x158 0 (x156_n).toNat))]) h160 fun v164 h165 => OwnExt h160 h165 ∧
 ∃ x166 : SV, ∃ x167 : SV, ∃ x168 : SV, ∃ x169 : ByteArray, ∃ x170 : Int, ∃ x171 : Int, ∃ x172 : Int, v164 = (Value.tuple (List.toArray [(Value.agg (List.toArray [(Value.slice x166.a x166.len x166.cap), (Value.slice x167.a x167.len x167.cap), (Value.slice x168.a x168.len x168.cap), (Value.string x169), (Value.int .i64 x170)])), (Value.int .i64 x171), (Value.int .i64 x172)])) ∧
 H.new h165 [(Value.slice none 0 0), (Value.slice none 0 0), (Value.slice none 0 0), (Value.string ByteArray.empty), (Value.int .i64 0)] fun r173 h174 =>
 ([(Value.slice x166.a x166.len x166.cap), (Value.slice x167.a x167.len x167.cap), (Value.slice x168.a x168.len x168.cap), (Value.string x169), (Value.int .i64 x170)]).length = 5 ∧ (Program.underlying Go.Proofs.Tryz.prog 39).isSome = true ∧
 H.wr h174 (Addr.mk r173 0 none) ([(Value.slice x166.a x166.len x166.cap), (Value.slice x167.a x167.len x167.cap), (Value.slice x168.a x168.len x168.cap), (Value.string x169), (Value.int .i64 x170)]) fun h175 =>
 VIf (x172 != (0 : Int)) (
 ∃ x176 : SV, H.rd h175 (Addr.add (Addr.mk r1 0 none) 0) (Value.slice x176.a x176.len x176.cap) ∧
 ∃ x177 : SV, H.rd h175 (Addr.add (Addr.mk r1 0 none) 1) (Value.slice x177.a x177.len x177.cap) ∧
 ∃ x178 : SV, H.rd h175 (Addr.add (Addr.mk r1 0 none) 2) (Value.slice x178.a x178.len x178.cap) ∧
 ∃ x179 : ByteArray, H.rd h175 (Addr.add (Addr.mk r1 0 none) 3) (Value.string x179) ∧
 ∃ x180 : Int, H.rd h175 (Addr.add (Addr.mk r1 0 none) 4) (Value.int .i64 x180) ∧
 SemCall Go.Proofs.Tryz.prog 77 (List.toArray [(Value.int .i64 x172)]) h175 fun v181 h182 => OwnExt h175 h182 ∧
 ∃ x183 : ByteArray, v181 = (Value.string x183) ∧
 ([(Value.slice x176.a x176.len x176.cap), (Value.slice x177.a x177.len x177.cap), (Value.slice x178.a x178.len x178.cap), (Value.string x179), (Value.int .i64 x180)]).length = 5 ∧ (Program.underlying Go.Proofs.Tryz.prog 39).isSome = true ∧
 H.wr h182 (Addr.mk r3 0 none) ([(Value.slice x176.a x176.len x176.cap), (Value.slice x177.a x177.len x177.cap), (Value.slice x178.a x178.len x178.cap), (Value.string x179), (Value.int .i64 x180)]) fun h184 =>
 ∃ x185 : SV, H.rd h184 (Addr.add (Addr.mk r3 0 none) 0) (Value.slice x185.a x185.len x185.cap) ∧
 ∃ x186 : SV, H.rd h184 (Addr.add (Addr.mk r3 0 none) 1) (Value.slice x186.a x186.len x186.cap) ∧
 ∃ x187 : SV, H.rd h184 (Addr.add (Addr.mk r3 0 none) 2) (Value.slice x187.a x187.len x187.cap) ∧
 ∃ x188 : ByteArray, H.rd h184 (Addr.add (Addr.mk r3 0 none) 3) (Value.string x188) ∧
 ∃ x189 : Int, H.rd h184 (Addr.add (Addr.mk r3 0 none) 4) (Value.int .i64 x189) ∧
 VRet h184 (Value.tuple (List.toArray [(Value.agg (List.toArray [(Value.slice x185.a x185.len x185.cap), (Value.slice x186.a x186.len x186.cap), (Value.slice x187.a x187.len x187.cap), (Value.string x188), (Value.int .i64 x189)])), (Value.string x183)])) post) (
 ∃ x190 : SV, H.rd h175 (Addr.add (Addr.mk r173 0 none) 0) (Value.slice x190.a x190.len x190.cap) ∧
 ∃ x191 : SV, H.rd h175 (Addr.add (Addr.mk r173 0 none) 1) (Value.slice x191.a x191.len x191.cap) ∧
 ∃ x192 : SV, H.rd h175 (Addr.add (Addr.mk r173 0 none) 2) (Value.slice x192.a x192.len x192.cap) ∧
 ∃ x193 : ByteArray, H.rd h175 (Addr.add (Addr.mk r173 0 none) 3) (Value.string x193) ∧
 ∃ x194 : Int, H.rd h175 (Addr.add (Addr.mk r173 0 none) 4) (Value.int .i64 x194) ∧
 SemCall Go.Proofs.Tryz.prog 79 (List.toArray [(Value.int .i64 x171)]) h175 fun v195 h196 => OwnExt h175 h196 ∧
 ∃ x197 : ByteArray, v195 = (Value.string x197) ∧
 ((ByteArray.size (ByteArray.mk (List.toArray [(102 : UInt8), (111 : UInt8), (117 : UInt8), (110 : UInt8), (100 : UInt8), (32 : UInt8)])) + ByteArray.size x197 : Nat) : Int) ≤ 9223372036854775807 ∧
 ([(Value.slice x190.a x190.len x190.cap), (Value.slice x191.a x191.len x191.cap), (Value.slice x192.a x192.len x192.cap), (Value.string x193), (Value.int .i64 x194)]).length = 5 ∧ (Program.underlying Go.Proofs.Tryz.prog 39).isSome = true ∧
 H.wr h196 (Addr.mk r3 0 none) ([(Value.slice x190.a x190.len x190.cap), (Value.slice x191.a x191.len x191.cap), (Value.slice x192.a x192.len x192.cap), (Value.string x193), (Value.int .i64 x194)]) fun h198 =>
 ∃ x199 : SV, H.rd h198 (Addr.add (Addr.mk r3 0 none) 0) (Value.slice x199.a x199.len x199.cap) ∧
 ∃ x200 : SV, H.rd h198 (Addr.add (Addr.mk r3 0 none) 1) (Value.slice x200.a x200.len x200.cap) ∧
 ∃ x201 : SV, H.rd h198 (Addr.add (Addr.mk r3 0 none) 2) (Value.slice x201.a x201.len x201.cap) ∧
 ∃ x202 : ByteArray, H.rd h198 (Addr.add (Addr.mk r3 0 none) 3) (Value.string x202) ∧
 ∃ x203 : Int, H.rd h198 (Addr.add (Addr.mk r3 0 none) 4) (Value.int .i64 x203) ∧
 VRet h198 (Value.tuple (List.toArray [(Value.agg (List.toArray [(Value.slice x199.a x199.len x199.cap), (Value.slice x200.a x200.len x200.cap), (Value.slice x201.a x201.len x201.cap), (Value.string x202), (Value.int .i64 x203)])), (Value.string ((ByteArray.mk (List.toArray [(102 : UInt8), (111 : UInt8), (117 : UInt8), (110 : UInt8), (100 : UInt8), (32 : UInt8)])) ++ x197))])) post)
def f47_J4 (post : Value → H → Prop) (r1 : Nat) (r3 : Nat) (x46_l : SV) (x147 : Bool) (h148 : H) : Prop :=
 VIf x147 (
 ∃ b149 : Addr, x46_l.a = some b149 ∧ 0 ≤ (0 : Int) ∧ (0 : Int) < ((x46_l.len : Nat) : Int) ∧
 ∃ x150 : Int, H.rd h148 (Addr.add (Addr.add b149 (((0 : Int)).toNat * 1)) 0) (Value.int .i64 x150) ∧
 ∃ x151 : ByteArray, H.rd h148 (Addr.add (Addr.add (Addr.mk r1 0 none) 3) 0) (Value.string x151) ∧
 ∃ R152 : Int → H → Prop, (
 VIf (decide (x150 > ((ByteArray.size x151 : Nat) : Int))) (
 ∃ x153 : ByteArray, H.rd h148 (Addr.add (Addr.add (Addr.mk r1 0 none) 3) 0) (Value.string x153) ∧
 (∃ h154, Gh h148 h154 ∧ R152 ((ByteArray.size x153 : Nat) : Int) h154)) (
 (∃ h155, Gh h148 h155 ∧ R152 x150 h155))) ∧
 ∀ (_ : F) (x156_n : Int) (h157 : H), R152 x156_n h157 →
 f47_J3 post r1 r3 x156_n h157) (
 ∃ x204 : SV, H.rd h148 (Addr.add (Addr.mk r1 0 none) 0) (Value.slice x204.a x204.len x204.cap) ∧
 ∃ x205 : SV, H.rd h148 (Addr.add (Addr.mk r1 0 none) 1) (Value.slice x205.a x205.len x205.cap) ∧
 ∃ x206 : SV, H.rd h148 (Addr.add (Addr.mk r1 0 none) 2) (Value.slice x206.a x206.len x206.cap) ∧
 ∃ x207 : ByteArray, H.rd h148 (Addr.add (Addr.mk r1 0 none) 3) (Value.string x207) ∧
 ∃ x208 : Int, H.rd h148 (Addr.add (Addr.mk r1 0 none) 4) (Value.int .i64 x208) ∧
 ([(Value.slice x204.a x204.len x204.cap), (Value.slice x205.a x205.len x205.cap), (Value.slice x206.a x206.len x206.cap), (Value.string x207), (Value.int .i64 x208)]).length = 5 ∧ (Program.underlying Go.Proofs.Tryz.prog 39).isSome = true ∧
 H.wr h148 (Addr.mk r3 0 none) ([(Value.slice x204.a x204.len x204.cap), (Value.slice x205.a x205.len x205.cap), (Value.slice x206.a x206.len x206.cap), (Value.string x207), (Value.int .i64 x208)]) fun h209 =>
 ∃ x210 : SV, H.rd h209 (Addr.add (Addr.mk r3 0 none) 0) (Value.slice x210.a x210.len x210.cap) ∧
 ∃ x211 : SV, H.rd h209 (Addr.add (Addr.mk r3 0 none) 1) (Value.slice x211.a x211.len x211.cap) ∧
 ∃ x212 : SV, H.rd h209 (Addr.add (Addr.mk r3 0 none) 2) (Value.slice x212.a x212.len x212.cap) ∧
 ∃ x213 : ByteArray, H.rd h209 (Addr.add (Addr.mk r3 0 none) 3) (Value.string x213) ∧
 ∃ x214 : Int, H.rd h209 (Addr.add (Addr.mk r3 0 none) 4) (Value.int .i64 x214) ∧
 VRet h209 (Value.tuple (List.toArray [(Value.agg (List.toArray [(Value.slice x210.a x210.len x210.cap), (Value.slice x211.a x211.len x211.cap), (Value.slice x212.a x212.len x212.cap), (Value.string x213), (Value.int .i64 x214)])), (Value.string (ByteArray.mk (List.toArray [(98 : UInt8), (97 : UInt8), (100 : UInt8)])))])) post)
def f47_J5 (post : Value → H → Prop) (r1 : Nat) (r3 : Nat) (x7 : SV) (x46_l : SV) (x119 : Bool) (h120 : H) : Prop :=
 VIf x119 (
 ∃ x121 : SV, H.rd h120 (Addr.add (Addr.add (Addr.mk r1 0 none) 0) 0) (Value.slice x121.a x121.len x121.cap) ∧
 ∃ x122 : SV, H.rd h120 (Addr.add (Addr.add (Addr.mk r1 0 none) 0) 1) (Value.slice x122.a x122.len x122.cap) ∧
 ∃ x123 : SV, H.rd h120 (Addr.add (Addr.add (Addr.mk r1 0 none) 0) 2) (Value.slice x123.a x123.len x123.cap) ∧
 SemCall Go.Proofs.Tryz.prog 59 (List.toArray [(Value.agg (List.toArray [(Value.slice x121.a x121.len x121.cap), (Value.slice x122.a x122.len x122.cap), (Value.slice x123.a x123.len x123.cap)]))]) h120 fun v124 h125 =>
 ∃ x126 : SV, ∃ x127 : Bool, v124 = (Value.tuple (List.toArray [(Value.slice x126.a x126.len x126.cap), (Value.bool x127)])) ∧
 ∃ x128 : SV, H.rd h125 (Addr.add (Addr.mk r1 0 none) 0) (Value.slice x128.a x128.len x128.cap) ∧
 ∃ x129 : SV, H.rd h125 (Addr.add (Addr.mk r1 0 none) 1) (Value.slice x129.a x129.len x129.cap) ∧
 ∃ x130 : SV, H.rd h125 (Addr.add (Addr.mk r1 0 none) 2) (Value.slice x130.a x130.len x130.cap) ∧
 ∃ x131 : ByteArray, H.rd h125 (Addr.add (Addr.mk r1 0 none) 3) (Value.string x131) ∧
 ∃ x132 : Int, H.rd h125 (Addr.add (Addr.mk r1 0 none) 4) (Value.int .i64 x132) ∧
 SemCall Go.Proofs.Tryz.prog 78 (List.toArray [(Value.string (ByteArray.mk (List.toArray [(114 : UInt8), (111 : UInt8), (119 : UInt8)]))), (Value.slice x126.a x126.len x126.cap)]) h125 fun v133 h134 => OwnExt h125 h134 ∧
 ∃ x135 : ByteArray, v133 = (Value.string x135) ∧
 ([(Value.slice x128.a x128.len x128.cap), (Value.slice x129.a x129.len x129.cap), (Value.slice x130.a x130.len x130.cap), (Value.string x131), (Value.int .i64 x132)]).length = 5 ∧ (Program.underlying Go.Proofs.Tryz.prog 39).isSome = true ∧
 H.wr h134 (Addr.mk r3 0 none) ([(Value.slice x128.a x128.len x128.cap), (Value.slice x129.a x129.len x129.cap), (Value.slice x130.a x130.len x130.cap), (Value.string x131), (Value.int .i64 x132)]) fun h136 =>
 ∃ x137 : SV, H.rd h136 (Addr.add (Addr.mk r3 0 none) 0) (Value.slice x137.a x137.len x137.cap) ∧
 ∃ x138 : SV, H.rd h136 (Addr.add (Addr.mk r3 0 none) 1) (Value.slice x138.a x138.len x138.cap) ∧
 ∃ x139 : SV, H.rd h136 (Addr.add (Addr.mk r3 0 none) 2) (Value.slice x139.a x139.len x139.cap) ∧
 ∃ x140 : ByteArray, H.rd h136 (Addr.add (Addr.mk r3 0 none) 3) (Value.string x140) ∧
 ∃ x141 : Int, H.rd h136 (Addr.add (Addr.mk r3 0 none) 4) (Value.int .i64 x141) ∧
 VRet h136 (Value.tuple (List.toArray [(Value.agg (List.toArray [(Value.slice x137.a x137.len x137.cap), (Value.slice x138.a x138.len x138.cap), (Value.slice x139.a x139.len x139.cap), (Value.string x140), (Value.int .i64 x141)])), (Value.string x135)])) post) (
 ∃ R142 : Bool → H → Prop, (
 ∃ b143 : Addr, x7.a = some b143 ∧ 0 ≤ (0 : Int) ∧ (0 : Int) < ((x7.len : Nat) : Int) ∧
 ∃ x144 : ByteArray, H.rd h120 (Addr.add (Addr.add b143 (((0 : Int)).toNat * 1)) 0) (Value.string x144) ∧
 VIf (ByteArray.toList x144 == ByteArray.toList (ByteArray.mk (List.toArray [(99 : UInt8), (114 : UInt8), (97 : UInt8), (115 : UInt8), (104 : UInt8)]))) (
 (∃ h145, Gh h120 h145 ∧ R142 (((x46_l.len : Nat) : Int) == (1 : Int)) h145)) (
 (∃ h146, Gh h120 h146 ∧ R142 false h146))) ∧
 ∀ (_ : F) (x147 : Bool) (h148 : H), R142 x147 h148 →
 f47_J4 post r1 r3 x46_l x147 h148)
def f47_J6 (post : Value → H → Prop) (r1 : Nat) (r3 : Nat) (x7 : SV) (x46_l : SV) (x97 : Bool) (h98 : H) : Prop :=
 VIf x97 (
 ∃ x99 : SV, H.rd h98 (Addr.add (Addr.mk r1 0 none) 0) (Value.slice x99.a x99.len x99.cap) ∧
 ∃ x100 : SV, H.rd h98 (Addr.add (Addr.mk r1 0 none) 1) (Value.slice x100.a x100.len x100.cap) ∧
 ∃ x101 : SV, H.rd h98 (Addr.add (Addr.mk r1 0 none) 2) (Value.slice x101.a x101.len x101.cap) ∧
 ∃ x102 : ByteArray, H.rd h98 (Addr.add (Addr.mk r1 0 none) 3) (Value.string x102) ∧
 ∃ x103 : Int, H.rd h98 (Addr.add (Addr.mk r1 0 none) 4) (Value.int .i64 x103) ∧
 ∃ x104 : SV, H.rd h98 (Addr.add (Addr.add (Addr.add (Addr.mk r1 0 none) 0) 0) 0) (Value.slice x104.a x104.len x104.cap) ∧
 SemCall Go.Proofs.Tryz.prog 78 (List.toArray [(Value.string (ByteArray.mk (List.toArray [(102 : UInt8), (114 : UInt8), (101 : UInt8), (101 : UInt8)]))), (Value.slice x104.a x104.len x104.cap)]) h98 fun v105 h106 => OwnExt h98 h106 ∧
 ∃ x107 : ByteArray, v105 = (Value.string x107) ∧
 ([(Value.slice x99.a x99.len x99.cap), (Value.slice x100.a x100.len x100.cap), (Value.slice x101.a x101.len x101.cap), (Value.string x102), (Value.int .i64 x103)]).length = 5 ∧ (Program.underlying Go.Proofs.Tryz.prog 39).isSome = true ∧
 H.wr h106 (Addr.mk r3 0 none) ([(Value.slice x99.a x99.len x99.cap), (Value.slice x100.a x100.len x100.cap), (Value.slice x101.a x101.len x101.cap), (Value.string x102), (Value.int .i64 x103)]) fun h108 =>
 ∃ x109 : SV, H.rd h108 (Addr.add (Addr.mk r3 0 none) 0) (Value.slice x109.a x109.len x109.cap) ∧
 ∃ x110 : SV, H.rd h108 (Addr.add (Addr.mk r3 0 none) 1) (Value.slice x110.a x110.len x110.cap) ∧
 ∃ x111 : SV, H.rd h108 (Addr.add (Addr.mk r3 0 none) 2) (Value.slice x111.a x111.len x111.cap) ∧
 ∃ x112 : ByteArray, H.rd h108 (Addr.add (Addr.mk r3 0 none) 3) (Value.string x112) ∧
 ∃ x113 : Int, H.rd h108 (Addr.add (Addr.mk r3 0 none) 4) (Value.int .i64 x113) ∧
 VRet h108 (Value.tuple (List.toArray [(Value.agg (List.toArray [(Value.slice x109.a x109.len x109.cap), (Value.slice x110.a x110.len x110.cap), (Value.slice x111.a x111.len x111.cap), (Value.string x112), (Value.int .i64 x113)])), (Value.string x107)])) post) (
 ∃ R114 : Bool → H → Prop, (
 ∃ b115 : Addr, x7.a = some b115 ∧ 0 ≤ (0 : Int) ∧ (0 : Int) < ((x7.len : Nat) : Int) ∧
 ∃ x116 : ByteArray, H.rd h98 (Addr.add (Addr.add b115 (((0 : Int)).toNat * 1)) 0) (Value.string x116) ∧
 VIf (ByteArray.toList x116 == ByteArray.toList (ByteArray.mk (List.toArray [(114 : UInt8), (111 : UInt8), (119 : UInt8)]))) (
 (∃ h117, Gh h98 h117 ∧ R114 (((x46_l.len : Nat) : Int) == (0 : Int)) h117)) (
 (∃ h118, Gh h98 h118 ∧ R114 false h118))) ∧
 ∀ (_ : F) (x119 : Bool) (h120 : H), R114 x119 h120 →
 f47_J5 post r1 r3 x7 x46_l x119 h120)
def f47_J7 (post : Value → H → Prop) (r1 : Nat) (r3 : Nat) (x7 : SV) (x46_l : SV) (x56 : Bool) (h57 : H) : Prop :=
 VIf x56 (
 ∃ b58 : Addr, x7.a = some b58 ∧ 0 ≤ (0 : Int) ∧ (0 : Int) < ((x7.len : Nat) : Int) ∧
 ∃ b59 : Addr, x46_l.a = some b59 ∧ 0 ≤ (0 : Int) ∧ (0 : Int) < ((x46_l.len : Nat) : Int) ∧
 0 ≤ (1 : Int) ∧ (1 : Int) ≤ ((x46_l.len : Nat) : Int) ∧
 ∃ x60 : SV, H.rd h57 (Addr.add (Addr.mk r1 0 none) 0) (Value.slice x60.a x60.len x60.cap) ∧
 ∃ x61 : SV, H.rd h57 (Addr.add (Addr.mk r1 0 none) 1) (Value.slice x61.a x61.len x61.cap) ∧
 ∃ x62 : SV, H.rd h57 (Addr.add (Addr.mk r1 0 none) 2) (Value.slice x62.a x62.len x62.cap) ∧
 ∃ x63 : ByteArray, H.rd h57 (Addr.add (Addr.mk r1 0 none) 3) (Value.string x63) ∧
 ∃ x64 : Int, H.rd h57 (Addr.add (Addr.mk r1 0 none) 4) (Value.int .i64 x64) ∧
 ∃ x65 : ByteArray, H.rd h57 (Addr.add (Addr.add b58 (((0 : Int)).toNat * 1)) 0) (Value.string x65) ∧
 ∃ x66 : Int, H.rd h57 (Addr.add (Addr.add b59 (((0 : Int)).toNat * 1)) 0) (Value.int .i64 x66) ∧
 SemCall Go.Proofs.Tryz.prog 62 (List.toArray [(Value.agg (List.toArray [(Value.slice x60.a x60.len x60.cap), (Value.slice x61.a x61.len x61.cap), (Value.slice x62.a x62.len x62.cap), (Value.string x63), (Value.int .i64 x64)])), (Value.bool (ByteArray.toList x65 == ByteArray.toList (ByteArray.mk (List.toArray [(98 : UInt8), (97 : UInt8), (99 : UInt8), (107 : UInt8)])))), (Value.int .i64 x66), (Value.slice (if x46_l.cap = ((1 : Int)).toNat then x46_l.a else Option.map (fun z => Addr.add z (((1 : Int)).toNat * 1)) x46_l.a) (x46_l.len - ((1 : Int)).toNat) (x46_l.cap - ((1 : Int)).toNat))]) h57 fun v67 h68 => OwnExt h57 h68 ∧
 ∃ x69 : SV, ∃ x70 : SV, ∃ x71 : SV, ∃ x72 : ByteArray, ∃ x73 : Int, ∃ x74 : Int, v67 = (Value.tuple (List.toArray [(Value.agg (List.toArray [(Value.slice x69.a x69.len x69.cap), (Value.slice x70.a x70.len x70.cap), (Value.slice x71.a x71.len x71.cap), (Value.string x72), (Value.int .i64 x73)])), (Value.int .i64 x74)])) ∧
 H.new h68 [(Value.slice none 0 0), (Value.slice none 0 0), (Value.slice none 0 0), (Value.string ByteArray.empty), (Value.int .i64 0)] fun r75 h76 =>
 ([(Value.slice x69.a x69.len x69.cap), (Value.slice x70.a x70.len x70.cap), (Value.slice x71.a x71.len x71.cap), (Value.string x72), (Value.int .i64 x73)]).length = 5 ∧ (Program.underlying Go.Proofs.Tryz.prog 39).isSome = true ∧
 H.wr h76 (Addr.mk r75 0 none) ([(Value.slice x69.a x69.len x69.cap), (Value.slice x70.a x70.len x70.cap), (Value.slice x71.a x71.len x71.cap), (Value.string x72), (Value.int .i64 x73)]) fun h77 =>
 ∃ x78 : SV, H.rd h77 (Addr.add (Addr.mk r75 0 none) 0) (Value.slice x78.a x78.len x78.cap) ∧
 ∃ x79 : SV, H.rd h77 (Addr.add (Addr.mk r75 0 none) 1) (Value.slice x79.a x79.len x79.cap) ∧
 ∃ x80 : SV, H.rd h77 (Addr.add (Addr.mk r75 0 none) 2) (Value.slice x80.a x80.len x80.cap) ∧
 ∃ x81 : ByteArray, H.rd h77 (Addr.add (Addr.mk r75 0 none) 3) (Value.string x81) ∧
 ∃ x82 : Int, H.rd h77 (Addr.add (Addr.mk r75 0 none) 4) (Value.int .i64 x82) ∧
 SemCall Go.Proofs.Tryz.prog 77 (List.toArray [(Value.int .i64 x74)]) h77 fun v83 h84 => OwnExt h77 h84 ∧
 ∃ x85 : ByteArray, v83 = (Value.string x85) ∧
 ([(Value.slice x78.a x78.len x78.cap), (Value.slice x79.a x79.len x79.cap), (Value.slice x80.a x80.len x80.cap), (Value.string x81), (Value.int .i64 x82)]).length = 5 ∧ (Program.underlying Go.Proofs.Tryz.prog 39).isSome = true ∧
 H.wr h84 (Addr.mk r3 0 none) ([(Value.slice x78.a x78.len x78.cap), (Value.slice x79.a x79.len x79.cap), (Value.slice x80.a x80.len x80.cap), (Value.string x81), (Value.int .i64 x82)]) fun h86 =>
 ∃ x87 : SV, H.rd h86 (Addr.add (Addr.mk r3 0 none) 0) (Value.slice x87.a x87.len x87.cap) ∧
 ∃ x88 : SV, H.rd h86 (Addr.add (Addr.mk r3 0 none) 1) (Value.slice x88.a x88.len x88.cap) ∧
 ∃ x89 : SV, H.rd h86 (Addr.add (Addr.mk r3 0 none) 2) (Value.slice x89.a x89.len x89.cap) ∧
 ∃ x90 : ByteArray, H.rd h86 (Addr.add (Addr.mk r3 0 none) 3) (Value.string x90) ∧
 ∃ x91 : Int, H.rd h86 (Addr.add (Addr.mk r3 0 none) 4) (Value.int .i64 x91) ∧
 VRet h86 (Value.tuple (List.toArray [(Value.agg (List.toArray [(Value.slice x87.a x87.len x87.cap), (Value.slice x88.a x88.len x88.cap), (Value.slice x89.a x89.len x89.cap), (Value.string x90), (Value.int .i64 x91)])), (Value.string x85)])) post) (
 ∃ R92 : Bool → H → Prop, (
 ∃ b93 : Addr, x7.a = some b93 ∧ 0 ≤ (0 : Int) ∧ (0 : Int) < ((x7.len : Nat) : Int) ∧
 ∃ x94 : ByteArray, H.rd h57 (Addr.add (Addr.add b93 (((0 : Int)).toNat * 1)) 0) (Value.string x94) ∧
 VIf (ByteArray.toList x94 == ByteArray.toList (ByteArray.mk (List.toArray [(102 : UInt8), (114 : UInt8), (101 : UInt8), (101 : UInt8)]))) (
 (∃ h95, Gh h57 h95 ∧ R92 (((x46_l.len : Nat) : Int) == (0 : Int)) h95)) (
 (∃ h96, Gh h57 h96 ∧ R92 false h96))) ∧
 ∀ (_ : F) (x97 : Bool) (h98 : H), R92 x97 h98 →
 f47_J6 post r1 r3 x7 x46_l x97 h98)
def f47_J8 (post : Value → H → Prop) (r1 : Nat) (r3 : Nat) (x7 : SV) (x46_l : SV) (h47 : H) : Prop :=
 ∃ R48 : Bool → H → Prop, (
 ∃ b49 : Addr, x7.a = some b49 ∧ 0 ≤ (0 : Int) ∧ (0 : Int) < ((x7.len : Nat) : Int) ∧
 ∃ x50 : ByteArray, H.rd h47 (Addr.add (Addr.add b49 (((0 : Int)).toNat * 1)) 0) (Value.string x50) ∧
 VIf (ByteArray.toList x50 == ByteArray.toList (ByteArray.mk (List.toArray [(97 : UInt8), (115 : UInt8), (107 : UInt8)]))) (
 (∃ h51, Gh h47 h51 ∧ R48 (((x46_l.len : Nat) : Int) == (3 : Int)) h51)) (
 ∃ b52 : Addr, x7.a = some b52 ∧ 0 ≤ (0 : Int) ∧ (0 : Int) < ((x7.len : Nat) : Int) ∧
 ∃ x53 : ByteArray, H.rd h47 (Addr.add (Addr.add b52 (((0 : Int)).toNat * 1)) 0) (Value.string x53) ∧
 VIf (ByteArray.toList x53 == ByteArray.toList (ByteArray.mk (List.toArray [(98 : UInt8), (97 : UInt8), (99 : UInt8), (107 : UInt8)]))) (
 (∃ h54, Gh h47 h54 ∧ R48 (((x46_l.len : Nat) : Int) == (3 : Int)) h54)) (
 (∃ h55, Gh h47 h55 ∧ R48 false h55)))) ∧
 ∀ (_ : F) (x56 : Bool) (h57 : H), R48 x56 h57 →
 f47_J7 post r1 r3 x7 x46_l x56 h57
def f47_sem (p0_0_b : SV) (p0_1_b : SV) (p0_2_b : SV) (p0_3_b : ByteArray) (p0_4_b : Int) (p1_s : ByteArray) (h0 : H) (post : Value → H → Prop) : Prop :=
 H.new h0 [(Value.slice p0_0_b.a p0_0_b.len p0_0_b.cap), (Value.slice p0_1_b.a p0_1_b.len p0_1_b.cap), (Value.slice p0_2_b.a p0_2_b.len p0_2_b.cap), (Value.string p0_3_b), (Value.int .i64 p0_4_b)] fun r1 h2 =>
 H.new h2 [(Value.slice none 0 0), (Value.slice none 0 0), (Value.slice none 0 0), (Value.string ByteArray.empty), (Value.int .i64 0)] fun r3 h4 =>
 SemCall Go.Proofs.Tryz.prog 33 (List.toArray [(Value.string p1_s), (Value.int .u8 (32 : Int))]) h4 fun v5 h6 =>
 ∃ x7 : SV, v5 = (Value.slice x7.a x7.len x7.cap) ∧
 ∃ R8 : SV → H → Prop, (
 ∃ I9 : Nat → SV → Int → H → Prop, (∃ n10, (∃ h12, Gh h6 h12 ∧ I9 n10 (SV.mk none 0 0) (1 : Int) h12)) ∧
 ∀ (n10 : Nat) (_ : F) (x13_l : SV) (x14_i : Int) (h15 : H), I9 n10 x13_l x14_i h15 →
 f47_L2 post r1 r3 x7 R8 I9 n10 x13_l x14_i h15) ∧
 ∀ (_ : F) (x46_l : SV) (h47 : H), R8 x46_l h47 →
 f47_J8 post r1 r3 x7 x46_l h47
def f47_hint : Hint := (.node .leaf (.node .leaf (.node .leaf (.node (.node .leaf (.join [(7, .sl)] (.node (.loop [(7, .sl), (8, .int)] (.node .leaf (.node (.node (.node .leaf (.node (.node (.join [(44, .bool)] .leaf) .leaf) .leaf)) .leaf) .leaf))) .leaf))) (.node (.node (.join [(64, .bool)] .leaf) (.node (.node .lex (.node .lex .leaf)) .leaf)) (.node (.node (.join [(90, .bool)] .leaf) (.node (.node .lex .leaf) .leaf)) (.node (.node (.join [(104, .bool)] .leaf) (.node (.node .leaf (.node .lex .leaf)) .leaf)) (.node (.node (.join [(122, .bool)] .leaf) (.node (.node .leaf (.node (.node .leaf (.join [(15, .int)] .leaf)) (.node .lex (.node (.node .leaf (.node (.node .lex .leaf) .leaf)) (.node .lex .leaf))))) .leaf)) .leaf))))))))
theorem f47_eq (p0_0_b : SV) (p0_1_b : SV) (p0_2_b : SV) (p0_3_b : ByteArray) (p0_4_b : Int) (p1_s : ByteArray) (h0 : H) (post : Value → H → Prop) : exec Tryz.prog (bodyOf Tryz.f47) f47_hint (retQ Tryz.prog Tryz.f47 post) (F0 [(Value.agg (List.toArray [(Value.slice p0_0_b.a p0_0_b.len p0_0_b.cap), (Value.slice p0_1_b.a p0_1_b.len p0_1_b.cap), (Value.slice p0_2_b.a p0_2_b.len p0_2_b.cap), (Value.string p0_3_b), (Value.int .i64 p0_4_b)])), (Value.string p1_s)]) h0 = f47_sem p0_0_b p0_1_b p0_2_b p0_3_b p0_4_b p1_s h0 post := by kernel_rfl
set_option maxRecDepth 20000 in
theorem f47_call (p0_0_b : SV) (p0_1_b : SV) (p0_2_b : SV) (p0_3_b : ByteArray) (p0_4_b : Int) (p1_s : ByteArray) (h0 : H) (post : Value → H → Prop) (hx : f47_sem p0_0_b p0_1_b p0_2_b p0_3_b p0_4_b p1_s h0 post) : SemCall Tryz.prog 47 (List.toArray [(Value.agg (List.toArray [(Value.slice p0_0_b.a p0_0_b.len p0_0_b.cap), (Value.slice p0_1_b.a p0_1_b.len p0_1_b.cap), (Value.slice p0_2_b.a p0_2_b.len p0_2_b.cap), (Value.string p0_3_b), (Value.int .i64 p0_4_b)])), (Value.string p1_s)]) h0 post :=
 sem_of_exec (g := f47_hint) mixed Tryz.func47 (bodyOf_eq (by kernel_rfl)) (by kernel_rfl) ((f47_eq p0_0_b p0_1_b p0_2_b p0_3_b p0_4_b p1_s h0 post).mpr hx)
def f77_sem (p0_e : Int) (h0 : H) (post : Value → H → Prop) : Prop :=
 VIf (p0_e == (0 : Int)) (
 VRet h0 (Value.string (ByteArray.mk (List.toArray [(111 : UInt8), (107 : UInt8)]))) post) (
 SemCall Go.Proofs.Tryz.prog 68 (List.toArray [(Value.int .i64 p0_e)]) h0 fun v1 h2 =>
 ∃ x3 : ByteArray, v1 = (Value.string x3) ∧
 VRet h2 (Value.string x3) post)
def f77_hint : Hint := .leaf
theorem f77_eq (p0_e : Int) (h0 : H) (post : Value → H → Prop) : exec Tryz.prog (bodyOf Tryz.f77) f77_hint (retQ Tryz.prog Tryz.f77 post) (F0 [(Value.int .i64 p0_e)]) h0 = f77_sem p0_e h0 post := by kernel_rfl
set_option maxRecDepth 20000 in
theorem f77_call (p0_e : Int) (h0 : H) (post : Value → H → Prop) (hx : f77_sem p0_e h0 post) : SemCall Tryz.prog 77 (List.toArray [(Value.int .i64 p0_e)]) h0 post :=
 sem_of_exec (g := f77_hint) mixed Tryz.func77 (bodyOf_eq (by kernel_rfl)) (by kernel_rfl) ((f77_eq p0_e h0 post).mpr hx)
def f78_L1 (p1_l : SV) (R1 : ByteArray → H → Prop) (I2 : Nat → ByteArray → Int → H → Prop) (n3 : Nat) (x6_s : ByteArray) (x7_i : Int) (h8 : H) : Prop :=
 VIf (decide (x7_i < ((p1_l.len : Nat) : Int))) (
 ((ByteArray.size x6_s + ByteArray.size (ByteArray.mk (List.toArray [(32 : UInt8)])) : Nat) : Int) ≤ 9223372036854775807 ∧
 ∃ b9 : Addr, p1_l.a = some b9 ∧ 0 ≤ x7_i ∧ x7_i < ((p1_l.len : Nat) : Int) ∧
 ∃ x10 : Int, H.rd h8 (Addr.add (Addr.add b9 ((x7_i).toNat * 1)) 0) (Value.int .i64 x10) ∧
 SemCall Go.Proofs.Tryz.prog 79 (List.toArray [(Value.int .i64 x10)]) h8 fun v11 h12 =>
 ∃ x13 : ByteArray, v11 = (Value.string x13) ∧
 ((ByteArray.size (x6_s ++ (ByteArray.mk (List.toArray [(32 : UInt8)]))) + ByteArray.size x13 : Nat) : Int) ≤ 9223372036854775807 ∧
 In64 (x7_i + (1 : Int)) ∧
 ∃ m4, m4 < n3 ∧ (∃ h14, Gh h12 h14 ∧ I2 m4 ((x6_s ++ (ByteArray.mk (List.toArray [(32 : UInt8)]))) ++ x13) (x7_i + (1 : Int)) h14)) (
 (∃ h15, Gh h8 h15 ∧ R1 x6_s h15))
def f78_sem (p0_s : ByteArray) (p1_l : SV) (h0 : H) (post : Value → H → Prop) : Prop :=
 ∃ R1 : ByteArray → H → Prop, (
 ∃ I2 : Nat → ByteArray → Int → H → Prop, (∃ n3, (∃ h5, Gh h0 h5 ∧ I2 n3 p0_s (0 : Int) h5)) ∧
 ∀ (n3 : Nat) (_ : F) (x6_s : ByteArray) (x7_i : Int) (h8 : H), I2 n3 x6_s x7_i h8 →
 f78_L1 p1_l R1 I2 n3 x6_s x7_i h8) ∧
 ∀ (_ : F) (x16_s : ByteArray) (h17 : H), R1 x16_s h17 →
 VRet h17 (Value.string x16_s) post
def f78_hint : Hint := (.node .leaf (.node (.node .leaf (.join [(0, .str)] (.node (.loop [(0, .str), (5, .int)] .leaf) .leaf))) .leaf))
theorem f78_eq (p0_s : ByteArray) (p1_l : SV) (h0 : H) (post : Value → H → Prop) : exec Tryz.prog (bodyOf Tryz.f78) f78_hint (retQ Tryz.prog Tryz.f78 post) (F0 [(Value.string p0_s), (Value.slice p1_l.a p1_l.len p1_l.cap)]) h0 = f78_sem p0_s p1_l h0 post := by kernel_rfl
set_option maxRecDepth 20000 in
theorem f78_call (p0_s : ByteArray) (p1_l : SV) (h0 : H) (post : Value → H → Prop) (hx : f78_sem p0_s p1_l h0 post) : SemCall Tryz.prog 78 (List.toArray [(Value.string p0_s), (Value.slice p1_l.a p1_l.len p1_l.cap)]) h0 post :=
 sem_of_exec (g := f78_hint) mixed Tryz.func78 (bodyOf_eq (by kernel_rfl)) (by kernel_rfl) ((f78_eq p0_s p1_l h0 post).mpr hx)
def f21_L1 (p0_text : ByteArray) (R18 : Int → H → Prop) (I19 : Nat → Int → H → Prop) (n20 : Nat) (x23_i : Int) (h24 : H) : Prop :=
 ∃ R25 : Bool → H → Prop, (
 VIf (decide (x23_i < ((ByteArray.size p0_text : Nat) : Int))) (
 0 ≤ x23_i ∧ x23_i < ((ByteArray.size p0_text : Nat) : Int) ∧
 (∃ h26, Gh h24 h26 ∧ R25 (((((ByteArray.data p0_text).toList.getD (x23_i).toNat 0).toNat : Nat) : Int) != (10 : Int)) h26)) (
 (∃ h27, Gh h24 h27 ∧ R25 false h27))) ∧
 ∀ (_ : F) (x28 : Bool) (h29 : H), R25 x28 h29 →
 VIf x28 (
 In64 (x23_i + (1 : Int)) ∧
 ∃ m21, m21 < n20 ∧ (∃ h30, Gh h29 h30 ∧ I19 m21 (x23_i + (1 : Int)) h30)) (
 (∃ h31, Gh h29 h31 ∧ R18 x23_i h31))
def f21_J2 (p0_text : ByteArray) (r6 : Nat) (x14_out : ByteArray) (x15_from : Int) (R17 : ByteArray → Int → H → Prop) (x32_i : Int) (h33 : H) : Prop :=
 0 ≤ x32_i ∧ x32_i ≤ ((ByteArray.size p0_text : Nat) : Int) ∧ 0 ≤ x15_from ∧ x15_from ≤ x32_i ∧
 ∃ x34 : SV, H.rd h33 (Addr.add (Addr.mk r6 0 none) 0) (Value.slice x34.a x34.len x34.cap) ∧
 ∃ x35 : SV, H.rd h33 (Addr.add (Addr.mk r6 0 none) 1) (Value.slice x35.a x35.len x35.cap) ∧
 ∃ x36 : SV, H.rd h33 (Addr.add (Addr.mk r6 0 none) 2) (Value.slice x36.a x36.len x36.cap) ∧
 ∃ x37 : ByteArray, H.rd h33 (Addr.add (Addr.mk r6 0 none) 3) (Value.string x37) ∧
 ∃ x38 : Int, H.rd h33 (Addr.add (Addr.mk r6 0 none) 4) (Value.int .i64 x38) ∧
 SemCall Go.Proofs.Tryz.prog 47 (List.toArray [(Value.agg (List.toArray [(Value.slice x34.a x34.len x34.cap), (Value.slice x35.a x35.len x35.cap), (Value.slice x36.a x36.len x36.cap), (Value.string x37), (Value.int .i64 x38)])), (Value.string (ByteArray.extract p0_text (x15_from).toNat (x32_i).toNat))]) h33 fun v39 h40 => OwnExt h33 h40 ∧
 ∃ x41 : SV, ∃ x42 : SV, ∃ x43 : SV, ∃ x44 : ByteArray, ∃ x45 : Int, ∃ x46 : ByteArray, v39 = (Value.tuple (List.toArray [(Value.agg (List.toArray [(Value.slice x41.a x41.len x41.cap), (Value.slice x42.a x42.len x42.cap), (Value.slice x43.a x43.len x43.cap), (Value.string x44), (Value.int .i64 x45)])), (Value.string x46)])) ∧
 H.new h40 [(Value.slice none 0 0), (Value.slice none 0 0), (Value.slice none 0 0), (Value.string ByteArray.empty), (Value.int .i64 0)] fun r47 h48 =>
 ([(Value.slice x41.a x41.len x41.cap), (Value.slice x42.a x42.len x42.cap), (Value.slice x43.a x43.len x43.cap), (Value.string x44), (Value.int .i64 x45)]).length = 5 ∧ (Program.underlying Go.Proofs.Tryz.prog 39).isSome = true ∧
 H.wr h48 (Addr.mk r47 0 none) ([(Value.slice x41.a x41.len x41.cap), (Value.slice x42.a x42.len x42.cap), (Value.slice x43.a x43.len x43.cap), (Value.string x44), (Value.int .i64 x45)]) fun h49 =>
 ∃ x50 : SV, H.rd h49 (Addr.add (Addr.mk r47 0 none) 0) (Value.slice x50.a x50.len x50.cap) ∧
 ∃ x51 : SV, H.rd h49 (Addr.add (Addr.mk r47 0 none) 1) (Value.slice x51.a x51.len x51.cap) ∧
 ∃ x52 : SV, H.rd h49 (Addr.add (Addr.mk r47 0 none) 2) (Value.slice x52.a x52.len x52.cap) ∧
 ∃ x53 : ByteArray, H.rd h49 (Addr.add (Addr.mk r47 0 none) 3) (Value.string x53) ∧
 ∃ x54 : Int, H.rd h49 (Addr.add (Addr.mk r47 0 none) 4) (Value.int .i64 x54) ∧
 ([(Value.slice x50.a x50.len x50.cap), (Value.slice x51.a x51.len x51.cap), (Value.slice x52.a x52.len x52.cap), (Value.string x53), (Value.int .i64 x54)]).length = 5 ∧ (Program.underlying Go.Proofs.Tryz.prog 39).isSome = true ∧
 H.wr h49 (Addr.mk r6 0 none) ([(Value.slice x50.a x50.len x50.cap), (Value.slice x51.a x51.len x51.cap), (Value.slice x52.a x52.len x52.cap), (Value.string x53), (Value.int .i64 x54)]) fun h55 =>
 ((ByteArray.size x14_out + ByteArray.size x46 : Nat) : Int) ≤ 9223372036854775807 ∧
 ((ByteArray.size (x14_out ++ x46) + ByteArray.size (ByteArray.mk (List.toArray [(10 : UInt8)])) : Nat) : Int) ≤ 9223372036854775807 ∧
 In64 (x32_i + (1 : Int)) ∧
 (∃ h56, Gh h55 h56 ∧ R17 ((x14_out ++ x46) ++ (ByteArray.mk (List.toArray [(10 : UInt8)]))) (x32_i + (1 : Int)) h56)
def f21_L3 (p0_text : ByteArray) (r6 : Nat) (R9 : ByteArray → H → Prop) (I10 : Nat → ByteArray → Int → H → Prop) (n11 : Nat) (x14_out : ByteArray) (x15_from : Int) (h16 : H) : Prop :=
 VIf (decide (x15_from < ((ByteArray.size p0_text : Nat) : Int))) (
 ∃ R17 : ByteArray → Int → H → Prop, (
 ∃ R18 : Int → H → Prop, (
 ∃ I19 : Nat → Int → H → Prop, (∃ n20, (∃ h22, Gh h16 h22 ∧ I19 n20 x15_from h22)) ∧
 ∀ (n20 : Nat) (_ : F) (x23_i : Int) (h24 : H), I19 n20 x23_i h24 →
 f21_L1 p0_text R18 I19 n20 x23_i h24) ∧
 ∀ (_ : F) (x32_i : Int) (h33 : H), R18 x32_i h33 →
 f21_J2 p0_text r6 x14_out x15_from R17 x32_i h33) ∧
 ∀ (_ : F) (x57_out : ByteArray) (x58_from : Int) (h59 : H), R17 x57_out x58_from h59 →
 ∃ m12, m12 < n11 ∧ (∃ h60, Gh h59 h60 ∧ I10 m12 x57_out x58_from h60)) (
 (∃ h61, Gh h16 h61 ∧ R9 x14_out h61))
def f21_sem (p0_text : ByteArray) (h0 : H) (post : Value → H → Prop) : Prop :=
 VIf (decide (((ByteArray.size p0_text : Nat) : Int) > (3000 : Int))) (
 VRet h0 (Value.string (ByteArray.mk (List.toArray [(116 : UInt8), (111 : UInt8), (111 : UInt8), (32 : UInt8), (108 : UInt8), (111 : UInt8), (110 : UInt8), (103 : UInt8), (10 : UInt8)]))) post) (
 SemCall Go.Proofs.Tryz.prog 46 (List.toArray []) h0 fun v1 h2 =>
 ∃ x3 : SV, ∃ x4 : SV, ∃ x5 : SV, v1 = (Value.agg (List.toArray [(Value.slice x3.a x3.len x3.cap), (Value.slice x4.a x4.len x4.cap), (Value.slice x5.a x5.len x5.cap)])) ∧
 H.new h2 [(Value.slice none 0 0), (Value.slice none 0 0), (Value.slice none 0 0), (Value.string ByteArray.empty), (Value.int .i64 0)] fun r6 h7 =>
 ([(Value.slice x3.a x3.len x3.cap), (Value.slice x4.a x4.len x4.cap), (Value.slice x5.a x5.len x5.cap), (Value.string ByteArray.empty), (Value.int .i64 0)]).length = 5 ∧ (Program.underlying Go.Proofs.Tryz.prog 39).isSome = true ∧
 H.wr h7 (Addr.mk r6 0 none) ([(Value.slice x3.a x3.len x3.cap), (Value.slice x4.a x4.len x4.cap), (Value.slice x5.a x5.len x5.cap), (Value.string ByteArray.empty), (Value.int .i64 0)]) fun h8 =>
 ∃ R9 : ByteArray → H → Prop, (
 ∃ I10 : Nat → ByteArray → Int → H → Prop, (∃ n11, (∃ h13, Gh h8 h13 ∧ I10 n11 (ByteArray.mk (List.toArray [])) (0 : Int) h13)) ∧
 ∀ (n11 : Nat) (_ : F) (x14_out : ByteArray) (x15_from : Int) (h16 : H), I10 n11 x14_out x15_from h16 →
 f21_L3 p0_text r6 R9 I10 n11 x14_out x15_from h16) ∧
 ∀ (_ : F) (x62_out : ByteArray) (h63 : H), R9 x62_out h63 →
 VRet h63 (Value.string x62_out) post)
def f21_hint : Hint := (.node .leaf (.node .leaf (.node .leaf (.node .leaf (.node .leaf (.node (.join [(4, .str)] (.node (.loop [(4, .str), (5, .int)] (.node .leaf (.join [(4, .str), (5, .int)] (.node (.node .leaf (.node (.join [(6, .int)] (.node (.loop [(6, .int)] (.node (.node (.join [(28, .bool)] .leaf) .leaf) .leaf)) .leaf)) (.node .lex .leaf))) .leaf)))) .leaf)) .leaf))))))
theorem f21_eq (p0_text : ByteArray) (h0 : H) (post : Value → H → Prop) : exec Tryz.prog (bodyOf Tryz.f21) f21_hint (retQ Tryz.prog Tryz.f21 post) (F0 [(Value.string p0_text)]) h0 = f21_sem p0_text h0 post := by kernel_rfl
set_option maxRecDepth 20000 in
theorem f21_call (p0_text : ByteArray) (h0 : H) (post : Value → H → Prop) (hx : f21_sem p0_text h0 post) : SemCall Tryz.prog 21 (List.toArray [(Value.string p0_text)]) h0 post :=
 sem_of_exec (g := f21_hint) mixed Tryz.func21 (bodyOf_eq (by kernel_rfl)) (by kernel_rfl) ((f21_eq p0_text h0 post).mpr hx)
end Go.Proofs.YtnppmcgmmdcpiaaGreatDoor
