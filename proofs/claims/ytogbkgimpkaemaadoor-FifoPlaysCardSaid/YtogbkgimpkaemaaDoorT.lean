import Derived.Test.YtogbkgimpkaemaaDoorEngG
import Derived.Test.YtogbkgimpkaemaaDoorRows
namespace Go.Proofs.YtogbkgimpkaemaaDoor
open Go.Eng
theorem mixed : Tryd.prog.follows .mixedOrders = true := by kernel_rfl
/- latchgarth/latchgarthlaw3.FifoPlays -/
def f4_L1 (p0_n : Int) (post : Value → H → Prop) (x3 : Option Addr) (r24 : Nat) (R211 : H → Prop) (I212 : Nat → Int → H → Prop) (n213 : Nat) (x216_k : Int) (h217 : H) : Prop :=
 VIf (decide (x216_k < p0_n)) (
 ∃ x218 : SV, H.rd h217 (Addr.add (Addr.add (Addr.mk r24 0 none) 4) 0) (Value.slice x218.a x218.len x218.cap) ∧
 ∃ b219 : Addr, x218.a = some b219 ∧ 0 ≤ x216_k ∧ x216_k < ((x218.len : Nat) : Int) ∧
 ∃ x220 : Int, H.rd h217 (Addr.add (Addr.add b219 ((x216_k).toNat * 1)) 0) (Value.int .i64 x220) ∧
 SemCall Go.Proofs.Tryd.prog 23 (List.toArray [(Value.pointer x3), (Value.int .i64 x216_k)]) h217 fun v221 h222 => OwnExt h217 h222 ∧
 ∃ x223 : Int, v221 = (Value.int .i64 x223) ∧
 VIf (x223 != x220) (
 VRet h222 (Value.bool false) post) (
 In64 (x216_k + (1 : Int)) ∧
 ∃ m214, m214 < n213 ∧ (∃ h224, Gh h222 h224 ∧ I212 m214 (x216_k + (1 : Int)) h224))) (
 (∃ h225, Gh h217 h225 ∧ R211 h225))

def f4_J2 (p0_n : Int) (post : Value → H → Prop) (x3 : Option Addr) (r24 : Nat) (R39 : H → Prop) (h199 : H) : Prop :=
 SemCall Go.Proofs.Tryd.prog 22 (List.toArray [(Value.pointer x3)]) h199 fun v200 h201 =>
 ∃ x202 : Int, ∃ x203 : Int, v200 = (Value.tuple (List.toArray [(Value.int .i64 x202), (Value.int .i64 x203)])) ∧
 ∃ R204 : Bool → H → Prop, (
 ∃ x205 : Int, H.rd h201 (Addr.add (Addr.add (Addr.mk r24 0 none) 0) 0) (Value.int .i64 x205) ∧
 VIf (x202 != x205) (
 (∃ h206, Gh h201 h206 ∧ R204 true h206)) (
 ∃ x207 : Int, H.rd h201 (Addr.add (Addr.add (Addr.mk r24 0 none) 1) 0) (Value.int .i64 x207) ∧
 (∃ h208, Gh h201 h208 ∧ R204 (x203 != x207) h208))) ∧
 ∀ (_ : F) (x209 : Bool) (h210 : H), R204 x209 h210 →
 VIf x209 (
 VRet h210 (Value.bool false) post) (
 ∃ R211 : H → Prop, (
 ∃ I212 : Nat → Int → H → Prop, (∃ n213, (∃ h215, Gh h210 h215 ∧ I212 n213 (0 : Int) h215)) ∧
 ∀ (n213 : Nat) (_ : F) (x216_k : Int) (h217 : H), I212 n213 x216_k h217 →
 f4_L1 p0_n post x3 r24 R211 I212 n213 x216_k h217) ∧
 ∀ (_ : F) (h226 : H), R211 h226 →
 (∃ h227, Gh h226 h227 ∧ R39 h227))

def f4_J3 (p0_n : Int) (post : Value → H → Prop) (x3 : Option Addr) (r24 : Nat) (R39 : H → Prop) (x41 : SV) (h141 : H) : Prop :=
 ∃ R142 : H → Prop, (
 VIf (((x41.len : Nat) : Int) == (1 : Int)) (
 ∃ b143 : Addr, x41.a = some b143 ∧ 0 ≤ (0 : Int) ∧ (0 : Int) < ((x41.len : Nat) : Int) ∧
 ∃ x144 : Int, H.rd h141 (Addr.add (Addr.mk r24 0 none) 0) (Value.int .i64 x144) ∧
 ∃ x145 : Int, H.rd h141 (Addr.add (Addr.mk r24 0 none) 1) (Value.int .i64 x145) ∧
 ∃ x146 : SV, H.rd h141 (Addr.add (Addr.mk r24 0 none) 2) (Value.slice x146.a x146.len x146.cap) ∧
 ∃ x147 : SV, H.rd h141 (Addr.add (Addr.mk r24 0 none) 3) (Value.slice x147.a x147.len x147.cap) ∧
 ∃ x148 : SV, H.rd h141 (Addr.add (Addr.mk r24 0 none) 4) (Value.slice x148.a x148.len x148.cap) ∧
 ∃ x149 : SV, H.rd h141 (Addr.add (Addr.mk r24 0 none) 5) (Value.slice x149.a x149.len x149.cap) ∧
 ∃ x150 : SV, H.rd h141 (Addr.add (Addr.mk r24 0 none) 6) (Value.slice x150.a x150.len x150.cap) ∧
 ∃ x151 : SV, H.rd h141 (Addr.add (Addr.mk r24 0 none) 7) (Value.slice x151.a x151.len x151.cap) ∧
 ∃ x152 : SV, H.rd h141 (Addr.add (Addr.mk r24 0 none) 8) (Value.slice x152.a x152.len x152.cap) ∧
 ∃ x153 : Int, H.rd h141 (Addr.add (Addr.add b143 (((0 : Int)).toNat * 1)) 0) (Value.int .i64 x153) ∧
 SemCall Go.Proofs.Tryd.prog 20 (List.toArray [(Value.agg (List.toArray [(Value.int .i64 x144), (Value.int .i64 x145), (Value.slice x146.a x146.len x146.cap), (Value.slice x147.a x147.len x147.cap), (Value.slice x148.a x148.len x148.cap), (Value.slice x149.a x149.len x149.cap), (Value.slice x150.a x150.len x150.cap), (Value.slice x151.a x151.len x151.cap), (Value.slice x152.a x152.len x152.cap)])), (Value.int .i64 x153)]) h141 fun v154 h155 => OwnExt h141 h155 ∧
 ∃ x156 : Int, ∃ x157 : Int, ∃ x158 : SV, ∃ x159 : SV, ∃ x160 : SV, ∃ x161 : SV, ∃ x162 : SV, ∃ x163 : SV, ∃ x164 : SV, ∃ x165 : Bool, ∃ x166 : Int, ∃ x167 : Int, v154 = (Value.tuple (List.toArray [(Value.agg (List.toArray [(Value.int .i64 x156), (Value.int .i64 x157), (Value.slice x158.a x158.len x158.cap), (Value.slice x159.a x159.len x159.cap), (Value.slice x160.a x160.len x160.cap), (Value.slice x161.a x161.len x161.cap), (Value.slice x162.a x162.len x162.cap), (Value.slice x163.a x163.len x163.cap), (Value.slice x164.a x164.len x164.cap)])), (Value.bool x165), (Value.int .i64 x166), (Value.int .i64 x167)])) ∧
 H.new h155 [(Value.int .i64 0), (Value.int .i64 0), (Value.slice none 0 0), (Value.slice none 0 0), (Value.slice none 0 0), (Value.slice none 0 0), (Value.slice none 0 0), (Value.slice none 0 0), (Value.slice none 0 0)] fun r168 h169 =>
 ([(Value.int .i64 x156), (Value.int .i64 x157), (Value.slice x158.a x158.len x158.cap), (Value.slice x159.a x159.len x159.cap), (Value.slice x160.a x160.len x160.cap), (Value.slice x161.a x161.len x161.cap), (Value.slice x162.a x162.len x162.cap), (Value.slice x163.a x163.len x163.cap), (Value.slice x164.a x164.len x164.cap)]).length = 9 ∧ (Program.underlying Go.Proofs.Tryd.prog 50).isSome = true ∧
 H.wr h169 (Addr.mk r168 0 none) ([(Value.int .i64 x156), (Value.int .i64 x157), (Value.slice x158.a x158.len x158.cap), (Value.slice x159.a x159.len x159.cap), (Value.slice x160.a x160.len x160.cap), (Value.slice x161.a x161.len x161.cap), (Value.slice x162.a x162.len x162.cap), (Value.slice x163.a x163.len x163.cap), (Value.slice x164.a x164.len x164.cap)]) fun h170 =>
 ∃ x171 : Int, H.rd h170 (Addr.add (Addr.mk r168 0 none) 0) (Value.int .i64 x171) ∧
 ∃ x172 : Int, H.rd h170 (Addr.add (Addr.mk r168 0 none) 1) (Value.int .i64 x172) ∧
 ∃ x173 : SV, H.rd h170 (Addr.add (Addr.mk r168 0 none) 2) (Value.slice x173.a x173.len x173.cap) ∧
 ∃ x174 : SV, H.rd h170 (Addr.add (Addr.mk r168 0 none) 3) (Value.slice x174.a x174.len x174.cap) ∧
 ∃ x175 : SV, H.rd h170 (Addr.add (Addr.mk r168 0 none) 4) (Value.slice x175.a x175.len x175.cap) ∧
 ∃ x176 : SV, H.rd h170 (Addr.add (Addr.mk r168 0 none) 5) (Value.slice x176.a x176.len x176.cap) ∧
 ∃ x177 : SV, H.rd h170 (Addr.add (Addr.mk r168 0 none) 6) (Value.slice x177.a x177.len x177.cap) ∧
 ∃ x178 : SV, H.rd h170 (Addr.add (Addr.mk r168 0 none) 7) (Value.slice x178.a x178.len x178.cap) ∧
 ∃ x179 : SV, H.rd h170 (Addr.add (Addr.mk r168 0 none) 8) (Value.slice x179.a x179.len x179.cap) ∧
 ([(Value.int .i64 x171), (Value.int .i64 x172), (Value.slice x173.a x173.len x173.cap), (Value.slice x174.a x174.len x174.cap), (Value.slice x175.a x175.len x175.cap), (Value.slice x176.a x176.len x176.cap), (Value.slice x177.a x177.len x177.cap), (Value.slice x178.a x178.len x178.cap), (Value.slice x179.a x179.len x179.cap)]).length = 9 ∧ (Program.underlying Go.Proofs.Tryd.prog 50).isSome = true ∧
 H.wr h170 (Addr.mk r24 0 none) ([(Value.int .i64 x171), (Value.int .i64 x172), (Value.slice x173.a x173.len x173.cap), (Value.slice x174.a x174.len x174.cap), (Value.slice x175.a x175.len x175.cap), (Value.slice x176.a x176.len x176.cap), (Value.slice x177.a x177.len x177.cap), (Value.slice x178.a x178.len x178.cap), (Value.slice x179.a x179.len x179.cap)]) fun h180 =>
 ∃ b181 : Addr, x41.a = some b181 ∧ 0 ≤ (0 : Int) ∧ (0 : Int) < ((x41.len : Nat) : Int) ∧
 ∃ x182 : Int, H.rd h180 (Addr.add (Addr.add b181 (((0 : Int)).toNat * 1)) 0) (Value.int .i64 x182) ∧
 SemCall Go.Proofs.Tryd.prog 21 (List.toArray [(Value.pointer x3), (Value.int .i64 x182)]) h180 fun v183 h184 =>
 ∃ x185 : Bool, ∃ x186 : Int, ∃ x187 : Option (TypeId × Value), v183 = (Value.tuple (List.toArray [(Value.bool x185), (Value.int .i64 x186), (errV x187)])) ∧
 ∃ R188 : Bool → H → Prop, (
 SemCall Go.Proofs.Tryd.prog 6 (List.toArray [(errV x187), (Value.int .i64 x167)]) h184 fun v189 h190 =>
 ∃ x191 : Bool, v189 = (Value.bool x191) ∧
 VIf (!x191) (
 (∃ h192, Gh h190 h192 ∧ R188 true h192)) (
 VIf (!(x185 == x165)) (
 (∃ h193, Gh h190 h193 ∧ R188 true h193)) (
 (∃ h194, Gh h190 h194 ∧ R188 (x186 != x166) h194)))) ∧
 ∀ (_ : F) (x195 : Bool) (h196 : H), R188 x195 h196 →
 VIf x195 (
 VRet h196 (Value.bool false) post) (
 (∃ h197, Gh h196 h197 ∧ R142 h197))) (
 (∃ h198, Gh h141 h198 ∧ R142 h198))) ∧
 ∀ (_ : F) (h199 : H), R142 h199 →
 f4_J2 p0_n post x3 r24 R39 h199

def f4_J4 (p0_n : Int) (post : Value → H → Prop) (x3 : Option Addr) (r24 : Nat) (R39 : H → Prop) (x41 : SV) (x47 : Bool) (h48 : H) : Prop :=
 ∃ R49 : H → Prop, (
 VIf x47 (
 ∃ b50 : Addr, x41.a = some b50 ∧ 0 ≤ (0 : Int) ∧ (0 : Int) < ((x41.len : Nat) : Int) ∧
 ∃ x51 : Int, H.rd h48 (Addr.add (Addr.add b50 (((0 : Int)).toNat * 1)) 0) (Value.int .i64 x51) ∧
 ∃ b52 : Addr, x41.a = some b52 ∧ 0 ≤ (1 : Int) ∧ (1 : Int) < ((x41.len : Nat) : Int) ∧
 ∃ x53 : Int, H.rd h48 (Addr.add (Addr.add b52 (((1 : Int)).toNat * 1)) 0) (Value.int .i64 x53) ∧
 SemCall Go.Proofs.Tryd.prog 17 (List.toArray [(Value.pointer x3), (Value.int .i64 x51), (Value.int .i64 x53)]) h48 fun v54 h55 =>
 ∃ x56 : Option (TypeId × Value), v54 = (errV x56) ∧
 SemCall Go.Proofs.Tryd.prog 6 (List.toArray [(errV x56), (Value.int .i64 (1 : Int))]) h55 fun v57 h58 =>
 ∃ x59 : Bool, v57 = (Value.bool x59) ∧
 VIf (!x59) (
 VRet h58 (Value.bool false) post) (
 (∃ h60, Gh h58 h60 ∧ R49 h60))) (
 VIf (((x41.len : Nat) : Int) == (2 : Int)) (
 ∃ b61 : Addr, x41.a = some b61 ∧ 0 ≤ (0 : Int) ∧ (0 : Int) < ((x41.len : Nat) : Int) ∧
 ∃ b62 : Addr, x41.a = some b62 ∧ 0 ≤ (1 : Int) ∧ (1 : Int) < ((x41.len : Nat) : Int) ∧
 ∃ x63 : Int, H.rd h48 (Addr.add (Addr.mk r24 0 none) 0) (Value.int .i64 x63) ∧
 ∃ x64 : Int, H.rd h48 (Addr.add (Addr.mk r24 0 none) 1) (Value.int .i64 x64) ∧
 ∃ x65 : SV, H.rd h48 (Addr.add (Addr.mk r24 0 none) 2) (Value.slice x65.a x65.len x65.cap) ∧
 ∃ x66 : SV, H.rd h48 (Addr.add (Addr.mk r24 0 none) 3) (Value.slice x66.a x66.len x66.cap) ∧
 ∃ x67 : SV, H.rd h48 (Addr.add (Addr.mk r24 0 none) 4) (Value.slice x67.a x67.len x67.cap) ∧
 ∃ x68 : SV, H.rd h48 (Addr.add (Addr.mk r24 0 none) 5) (Value.slice x68.a x68.len x68.cap) ∧
 ∃ x69 : SV, H.rd h48 (Addr.add (Addr.mk r24 0 none) 6) (Value.slice x69.a x69.len x69.cap) ∧
 ∃ x70 : SV, H.rd h48 (Addr.add (Addr.mk r24 0 none) 7) (Value.slice x70.a x70.len x70.cap) ∧
 ∃ x71 : SV, H.rd h48 (Addr.add (Addr.mk r24 0 none) 8) (Value.slice x71.a x71.len x71.cap) ∧
 ∃ x72 : Int, H.rd h48 (Addr.add (Addr.add b61 (((0 : Int)).toNat * 1)) 0) (Value.int .i64 x72) ∧
 ∃ x73 : Int, H.rd h48 (Addr.add (Addr.add b62 (((1 : Int)).toNat * 1)) 0) (Value.int .i64 x73) ∧
 SemCall Go.Proofs.Tryd.prog 18 (List.toArray [(Value.agg (List.toArray [(Value.int .i64 x63), (Value.int .i64 x64), (Value.slice x65.a x65.len x65.cap), (Value.slice x66.a x66.len x66.cap), (Value.slice x67.a x67.len x67.cap), (Value.slice x68.a x68.len x68.cap), (Value.slice x69.a x69.len x69.cap), (Value.slice x70.a x70.len x70.cap), (Value.slice x71.a x71.len x71.cap)])), (Value.int .i64 x72), (Value.int .i64 x73)]) h48 fun v74 h75 => OwnExt h48 h75 ∧
 ∃ x76 : Int, ∃ x77 : Int, ∃ x78 : SV, ∃ x79 : SV, ∃ x80 : SV, ∃ x81 : SV, ∃ x82 : SV, ∃ x83 : SV, ∃ x84 : SV, ∃ x85 : Int, v74 = (Value.tuple (List.toArray [(Value.agg (List.toArray [(Value.int .i64 x76), (Value.int .i64 x77), (Value.slice x78.a x78.len x78.cap), (Value.slice x79.a x79.len x79.cap), (Value.slice x80.a x80.len x80.cap), (Value.slice x81.a x81.len x81.cap), (Value.slice x82.a x82.len x82.cap), (Value.slice x83.a x83.len x83.cap), (Value.slice x84.a x84.len x84.cap)])), (Value.int .i64 x85)])) ∧
 H.new h75 [(Value.int .i64 0), (Value.int .i64 0), (Value.slice none 0 0), (Value.slice none 0 0), (Value.slice none 0 0), (Value.slice none 0 0), (Value.slice none 0 0), (Value.slice none 0 0), (Value.slice none 0 0)] fun r86 h87 =>
 ([(Value.int .i64 x76), (Value.int .i64 x77), (Value.slice x78.a x78.len x78.cap), (Value.slice x79.a x79.len x79.cap), (Value.slice x80.a x80.len x80.cap), (Value.slice x81.a x81.len x81.cap), (Value.slice x82.a x82.len x82.cap), (Value.slice x83.a x83.len x83.cap), (Value.slice x84.a x84.len x84.cap)]).length = 9 ∧ (Program.underlying Go.Proofs.Tryd.prog 50).isSome = true ∧
 H.wr h87 (Addr.mk r86 0 none) ([(Value.int .i64 x76), (Value.int .i64 x77), (Value.slice x78.a x78.len x78.cap), (Value.slice x79.a x79.len x79.cap), (Value.slice x80.a x80.len x80.cap), (Value.slice x81.a x81.len x81.cap), (Value.slice x82.a x82.len x82.cap), (Value.slice x83.a x83.len x83.cap), (Value.slice x84.a x84.len x84.cap)]) fun h88 =>
 ∃ x89 : Int, H.rd h88 (Addr.add (Addr.mk r86 0 none) 0) (Value.int .i64 x89) ∧
 ∃ x90 : Int, H.rd h88 (Addr.add (Addr.mk r86 0 none) 1) (Value.int .i64 x90) ∧
 ∃ x91 : SV, H.rd h88 (Addr.add (Addr.mk r86 0 none) 2) (Value.slice x91.a x91.len x91.cap) ∧
 ∃ x92 : SV, H.rd h88 (Addr.add (Addr.mk r86 0 none) 3) (Value.slice x92.a x92.len x92.cap) ∧
 ∃ x93 : SV, H.rd h88 (Addr.add (Addr.mk r86 0 none) 4) (Value.slice x93.a x93.len x93.cap) ∧
 ∃ x94 : SV, H.rd h88 (Addr.add (Addr.mk r86 0 none) 5) (Value.slice x94.a x94.len x94.cap) ∧
 ∃ x95 : SV, H.rd h88 (Addr.add (Addr.mk r86 0 none) 6) (Value.slice x95.a x95.len x95.cap) ∧
 ∃ x96 : SV, H.rd h88 (Addr.add (Addr.mk r86 0 none) 7) (Value.slice x96.a x96.len x96.cap) ∧
 ∃ x97 : SV, H.rd h88 (Addr.add (Addr.mk r86 0 none) 8) (Value.slice x97.a x97.len x97.cap) ∧
 ([(Value.int .i64 x89), (Value.int .i64 x90), (Value.slice x91.a x91.len x91.cap), (Value.slice x92.a x92.len x92.cap), (Value.slice x93.a x93.len x93.cap), (Value.slice x94.a x94.len x94.cap), (Value.slice x95.a x95.len x95.cap), (Value.slice x96.a x96.len x96.cap), (Value.slice x97.a x97.len x97.cap)]).length = 9 ∧ (Program.underlying Go.Proofs.Tryd.prog 50).isSome = true ∧
 H.wr h88 (Addr.mk r24 0 none) ([(Value.int .i64 x89), (Value.int .i64 x90), (Value.slice x91.a x91.len x91.cap), (Value.slice x92.a x92.len x92.cap), (Value.slice x93.a x93.len x93.cap), (Value.slice x94.a x94.len x94.cap), (Value.slice x95.a x95.len x95.cap), (Value.slice x96.a x96.len x96.cap), (Value.slice x97.a x97.len x97.cap)]) fun h98 =>
 ∃ R99 : Bool → H → Prop, (
 ∃ b100 : Addr, x41.a = some b100 ∧ 0 ≤ (1 : Int) ∧ (1 : Int) < ((x41.len : Nat) : Int) ∧
 ∃ x101 : Int, H.rd h98 (Addr.add (Addr.add b100 (((1 : Int)).toNat * 1)) 0) (Value.int .i64 x101) ∧
 VIf (decide (x101 ≥ (0 : Int))) (
 ∃ b102 : Addr, x41.a = some b102 ∧ 0 ≤ (0 : Int) ∧ (0 : Int) < ((x41.len : Nat) : Int) ∧
 ∃ b103 : Addr, x41.a = some b103 ∧ 0 ≤ (1 : Int) ∧ (1 : Int) < ((x41.len : Nat) : Int) ∧
 ∃ x104 : Int, H.rd h98 (Addr.add (Addr.add b102 (((0 : Int)).toNat * 1)) 0) (Value.int .i64 x104) ∧
 ∃ x105 : Int, H.rd h98 (Addr.add (Addr.add b103 (((1 : Int)).toNat * 1)) 0) (Value.int .i64 x105) ∧
 SemCall Go.Proofs.Tryd.prog 17 (List.toArray [(Value.pointer x3), (Value.int .i64 x104), (Value.int .i64 x105)]) h98 fun v106 h107 =>
 ∃ x108 : Option (TypeId × Value), v106 = (errV x108) ∧
 SemCall Go.Proofs.Tryd.prog 6 (List.toArray [(errV x108), (Value.int .i64 x85)]) h107 fun v109 h110 =>
 ∃ x111 : Bool, v109 = (Value.bool x111) ∧
 VIf (!x111) (
 (∃ h112, Gh h110 h112 ∧ R99 true h112)) (
 ∃ b113 : Addr, x41.a = some b113 ∧ 0 ≤ (1 : Int) ∧ (1 : Int) < ((x41.len : Nat) : Int) ∧
 ∃ x114 : Int, H.rd h110 (Addr.add (Addr.add b113 (((1 : Int)).toNat * 1)) 0) (Value.int .i64 x114) ∧
 VIf (decide (x114 < (0 : Int))) (
 ∃ b115 : Addr, x41.a = some b115 ∧ 0 ≤ (0 : Int) ∧ (0 : Int) < ((x41.len : Nat) : Int) ∧
 ∃ x116 : Int, H.rd h110 (Addr.add (Addr.add b115 (((0 : Int)).toNat * 1)) 0) (Value.int .i64 x116) ∧
 SemCall Go.Proofs.Tryd.prog 19 (List.toArray [(Value.pointer x3), (Value.int .i64 x116)]) h110 fun v117 h118 =>
 ∃ x119 : Option (TypeId × Value), v117 = (errV x119) ∧
 SemCall Go.Proofs.Tryd.prog 6 (List.toArray [(errV x119), (Value.int .i64 x85)]) h118 fun v120 h121 =>
 ∃ x122 : Bool, v120 = (Value.bool x122) ∧
 (∃ h123, Gh h121 h123 ∧ R99 (!x122) h123)) (
 (∃ h124, Gh h110 h124 ∧ R99 false h124)))) (
 ∃ b125 : Addr, x41.a = some b125 ∧ 0 ≤ (1 : Int) ∧ (1 : Int) < ((x41.len : Nat) : Int) ∧
 ∃ x126 : Int, H.rd h98 (Addr.add (Addr.add b125 (((1 : Int)).toNat * 1)) 0) (Value.int .i64 x126) ∧
 VIf (decide (x126 < (0 : Int))) (
 ∃ b127 : Addr, x41.a = some b127 ∧ 0 ≤ (0 : Int) ∧ (0 : Int) < ((x41.len : Nat) : Int) ∧
 ∃ x128 : Int, H.rd h98 (Addr.add (Addr.add b127 (((0 : Int)).toNat * 1)) 0) (Value.int .i64 x128) ∧
 SemCall Go.Proofs.Tryd.prog 19 (List.toArray [(Value.pointer x3), (Value.int .i64 x128)]) h98 fun v129 h130 =>
 ∃ x131 : Option (TypeId × Value), v129 = (errV x131) ∧
 SemCall Go.Proofs.Tryd.prog 6 (List.toArray [(errV x131), (Value.int .i64 x85)]) h130 fun v132 h133 =>
 ∃ x134 : Bool, v132 = (Value.bool x134) ∧
 (∃ h135, Gh h133 h135 ∧ R99 (!x134) h135)) (
 (∃ h136, Gh h98 h136 ∧ R99 false h136)))) ∧
 ∀ (_ : F) (x137 : Bool) (h138 : H), R99 x137 h138 →
 VIf x137 (
 VRet h138 (Value.bool false) post) (
 (∃ h139, Gh h138 h139 ∧ R49 h139))) (
 (∃ h140, Gh h48 h140 ∧ R49 h140)))) ∧
 ∀ (_ : F) (h141 : H), R49 h141 →
 f4_J3 p0_n post x3 r24 R39 x41 h141

def f4_J5 (p0_n : Int) (p1_steps : SV) (post : Value → H → Prop) (x3 : Option Addr) (r24 : Nat) (R27 : H → Prop) (I28 : Nat → Int → H → Prop) (n29 : Nat) (x32_i : Int) (x37 : Bool) (h38 : H) : Prop :=
 VIf x37 (
 ∃ R39 : H → Prop, (
 ∃ b40 : Addr, p1_steps.a = some b40 ∧ 0 ≤ x32_i ∧ x32_i < ((p1_steps.len : Nat) : Int) ∧
 ∃ x41 : SV, H.rd h38 (Addr.add (Addr.add b40 ((x32_i).toNat * 1)) 0) (Value.slice x41.a x41.len x41.cap) ∧
 ∃ R42 : Bool → H → Prop, (
 VIf (((x41.len : Nat) : Int) == (2 : Int)) (
 ∃ b43 : Addr, x41.a = some b43 ∧ 0 ≤ (1 : Int) ∧ (1 : Int) < ((x41.len : Nat) : Int) ∧
 ∃ x44 : Int, H.rd h38 (Addr.add (Addr.add b43 (((1 : Int)).toNat * 1)) 0) (Value.int .i64 x44) ∧
 (∃ h45, Gh h38 h45 ∧ R42 (decide (x44 > (1000 : Int))) h45)) (
 (∃ h46, Gh h38 h46 ∧ R42 false h46))) ∧
 ∀ (_ : F) (x47 : Bool) (h48 : H), R42 x47 h48 →
 f4_J4 p0_n post x3 r24 R39 x41 x47 h48) ∧
 ∀ (_ : F) (h228 : H), R39 h228 →
 In64 (x32_i + (1 : Int)) ∧
 ∃ m30, m30 < n29 ∧ (∃ h229, Gh h228 h229 ∧ I28 m30 (x32_i + (1 : Int)) h229)) (
 (∃ h230, Gh h38 h230 ∧ R27 h230))

def f4_L6 (p0_n : Int) (p1_steps : SV) (post : Value → H → Prop) (x3 : Option Addr) (r24 : Nat) (R27 : H → Prop) (I28 : Nat → Int → H → Prop) (n29 : Nat) (x32_i : Int) (h33 : H) : Prop :=
 ∃ R34 : Bool → H → Prop, (
 VIf (decide (x32_i < ((p1_steps.len : Nat) : Int))) (
 (∃ h35, Gh h33 h35 ∧ R34 (decide (x32_i < (400 : Int))) h35)) (
 (∃ h36, Gh h33 h36 ∧ R34 false h36))) ∧
 ∀ (_ : F) (x37 : Bool) (h38 : H), R34 x37 h38 →
 f4_J5 p0_n p1_steps post x3 r24 R27 I28 n29 x32_i x37 h38

def f4_J7 (p0_n : Int) (post : Value → H → Prop) (x3 : Option Addr) (h231 : H) : Prop :=
 ∃ R232 : Bool → H → Prop, (
 SemCall Go.Proofs.Tryd.prog 23 (List.toArray [(Value.pointer x3), (Value.int .i64 (-1 : Int))]) h231 fun v233 h234 =>
 ∃ x235 : Int, v233 = (Value.int .i64 x235) ∧
 VIf (x235 == (0 : Int)) (
 SemCall Go.Proofs.Tryd.prog 23 (List.toArray [(Value.pointer x3), (Value.int .i64 p0_n)]) h234 fun v236 h237 =>
 ∃ x238 : Int, v236 = (Value.int .i64 x238) ∧
 (∃ h239, Gh h237 h239 ∧ R232 (x238 == (0 : Int)) h239)) (
 (∃ h240, Gh h234 h240 ∧ R232 false h240))) ∧
 ∀ (_ : F) (x241 : Bool) (h242 : H), R232 x241 h242 →
 VRet h242 (Value.bool x241) post

def f4_J8 (p0_n : Int) (p1_steps : SV) (post : Value → H → Prop) (x3 : Option Addr) (x4 : Option (TypeId × Value)) (x8 : Bool) (h9 : H) : Prop :=
 VIf x8 (
 SemCall Go.Proofs.Tryd.prog 6 (List.toArray [(errV x4), (Value.int .i64 (1 : Int))]) h9 fun v10 h11 =>
 ∃ x12 : Bool, v10 = (Value.bool x12) ∧
 VRet h11 (Value.bool x12) post) (
 isIfaceV (errV x4) = true ∧
 VIf (!(isNilV (errV x4))) (
 VRet h9 (Value.bool false) post) (
 SemCall Go.Proofs.Tryd.prog 16 (List.toArray [(Value.int .i64 p0_n)]) h9 fun v13 h14 =>
 ∃ x15 : Int, ∃ x16 : Int, ∃ x17 : SV, ∃ x18 : SV, ∃ x19 : SV, ∃ x20 : SV, ∃ x21 : SV, ∃ x22 : SV, ∃ x23 : SV, v13 = (Value.agg (List.toArray [(Value.int .i64 x15), (Value.int .i64 x16), (Value.slice x17.a x17.len x17.cap), (Value.slice x18.a x18.len x18.cap), (Value.slice x19.a x19.len x19.cap), (Value.slice x20.a x20.len x20.cap), (Value.slice x21.a x21.len x21.cap), (Value.slice x22.a x22.len x22.cap), (Value.slice x23.a x23.len x23.cap)])) ∧
 H.new h14 [(Value.int .i64 0), (Value.int .i64 0), (Value.slice none 0 0), (Value.slice none 0 0), (Value.slice none 0 0), (Value.slice none 0 0), (Value.slice none 0 0), (Value.slice none 0 0), (Value.slice none 0 0)] fun r24 h25 =>
 ([(Value.int .i64 x15), (Value.int .i64 x16), (Value.slice x17.a x17.len x17.cap), (Value.slice x18.a x18.len x18.cap), (Value.slice x19.a x19.len x19.cap), (Value.slice x20.a x20.len x20.cap), (Value.slice x21.a x21.len x21.cap), (Value.slice x22.a x22.len x22.cap), (Value.slice x23.a x23.len x23.cap)]).length = 9 ∧ (Program.underlying Go.Proofs.Tryd.prog 50).isSome = true ∧
 H.wr h25 (Addr.mk r24 0 none) ([(Value.int .i64 x15), (Value.int .i64 x16), (Value.slice x17.a x17.len x17.cap), (Value.slice x18.a x18.len x18.cap), (Value.slice x19.a x19.len x19.cap), (Value.slice x20.a x20.len x20.cap), (Value.slice x21.a x21.len x21.cap), (Value.slice x22.a x22.len x22.cap), (Value.slice x23.a x23.len x23.cap)]) fun h26 =>
 ∃ R27 : H → Prop, (
 ∃ I28 : Nat → Int → H → Prop, (∃ n29, (∃ h31, Gh h26 h31 ∧ I28 n29 (0 : Int) h31)) ∧
 ∀ (n29 : Nat) (_ : F) (x32_i : Int) (h33 : H), I28 n29 x32_i h33 →
 f4_L6 p0_n p1_steps post x3 r24 R27 I28 n29 x32_i h33) ∧
 ∀ (_ : F) (h231 : H), R27 h231 →
 f4_J7 p0_n post x3 h231))

def f4_sem (p0_n : Int) (p1_steps : SV) (h0 : H) (post : Value → H → Prop) : Prop :=
 SemCall Go.Proofs.Tryd.prog 15 (List.toArray [(Value.int .i64 p0_n)]) h0 fun v1 h2 =>
 ∃ x3 : Option Addr, ∃ x4 : Option (TypeId × Value), v1 = (Value.tuple (List.toArray [(Value.pointer x3), (errV x4)])) ∧
 ∃ R5 : Bool → H → Prop, (
 VIf (decide (p0_n < (1 : Int))) (
 (∃ h6, Gh h2 h6 ∧ R5 true h6)) (
 (∃ h7, Gh h2 h7 ∧ R5 (decide (p0_n > (4 : Int))) h7))) ∧
 ∀ (_ : F) (x8 : Bool) (h9 : H), R5 x8 h9 →
 f4_J8 p0_n p1_steps post x3 x4 x8 h9

def f4_hint : Hint := (.node .leaf (.node .leaf (.node (.node (.join [(32, .bool)] .leaf) .leaf) (.node .leaf (.node .leaf (.node (.node .leaf (.join [] (.node (.loop [(8, .int)] (.node (.node (.join [(46, .bool)] .leaf) .leaf) (.node (.join [] (.node (.node .leaf (.node (.node (.join [(61, .bool)] .leaf) (.join [] (.node (.node (.tail 7) .leaf) (.node .leaf (.node (.node .lex (.node .leaf (.node (.join [(119, .bool)] .lex) .leaf))) .leaf))))) (.node (.node .leaf (.join [] (.node (.node .lex (.node .leaf (.node .leaf (.node (.join [(156, .bool)] .leaf) .leaf)))) .leaf))) (.node .leaf (.node (.node (.join [(171, .bool)] .leaf) .leaf) (.node .leaf (.join [] (.node (.loop [(21, .int)] (.node .leaf (.node (.node (.node .lex .leaf) .leaf) .leaf))) .leaf)))))))) .leaf)) .leaf))) .leaf))) (.node (.join [(4, .bool)] .leaf) .leaf)))))))

theorem f4_eq (p0_n : Int) (p1_steps : SV) (h0 : H) (post : Value → H → Prop) : exec Tryd.prog (bodyOf Tryd.f4) f4_hint (retQ Tryd.prog Tryd.f4 post) (F0 [(Value.int .i64 p0_n), (Value.slice p1_steps.a p1_steps.len p1_steps.cap)]) h0 = f4_sem p0_n p1_steps h0 post := by kernel_rfl

set_option maxRecDepth 20000 in
theorem f4_call (p0_n : Int) (p1_steps : SV) (h0 : H) (post : Value → H → Prop) (hx : f4_sem p0_n p1_steps h0 post) : SemCall Tryd.prog 4 (List.toArray [(Value.int .i64 p0_n), (Value.slice p1_steps.a p1_steps.len p1_steps.cap)]) h0 post :=
 sem_of_exec (g := f4_hint) mixed Tryd.func4 (bodyOf_eq (by kernel_rfl)) (by kernel_rfl) ((f4_eq p0_n p1_steps h0 post).mpr hx)

/- latchgarth/latchgarthsame.Error -/
def f6_sem (p0_err : Option (TypeId × Value)) (p1_e : Int) (h0 : H) (post : Value → H → Prop) : Prop :=
 SemCall Go.Proofs.Tryd.prog 25 (List.toArray [(errV p0_err)]) h0 fun v1 h2 =>
 ∃ x3 : Int, v1 = (Value.int .i64 x3) ∧
 VRet h2 (Value.bool (x3 == p1_e)) post

def f6_hint : Hint := .leaf

theorem f6_eq (p0_err : Option (TypeId × Value)) (p1_e : Int) (h0 : H) (post : Value → H → Prop) : exec Tryd.prog (bodyOf Tryd.f6) f6_hint (retQ Tryd.prog Tryd.f6 post) (F0 [(errV p0_err), (Value.int .i64 p1_e)]) h0 = f6_sem p0_err p1_e h0 post := by kernel_rfl

set_option maxRecDepth 20000 in
theorem f6_call (p0_err : Option (TypeId × Value)) (p1_e : Int) (h0 : H) (post : Value → H → Prop) (hx : f6_sem p0_err p1_e h0 post) : SemCall Tryd.prog 6 (List.toArray [(errV p0_err), (Value.int .i64 p1_e)]) h0 post :=
 sem_of_exec (g := f6_hint) mixed Tryd.func6 (bodyOf_eq (by kernel_rfl)) (by kernel_rfl) ((f6_eq p0_err p1_e h0 post).mpr hx)

/- latchgarth/fifo.New -/
def f15_L1 (r6 : Nat) (R8 : H → Prop) (I9 : Nat → Int → H → Prop) (n10 : Nat) (x13 : Int) (h14 : H) : Prop :=
 VIf (decide (x13 < (40 : Int))) (
 ∃ a15 : Addr, (some (Addr.mk r6 0 none)) = some a15 ∧
 0 ≤ x13 ∧ x13 < ((40 : Nat) : Int) ∧
 H.wr h14 (Addr.add (Addr.add a15 2) ((x13).toNat * 1)) ([(Value.int .i64 (-1 : Int))]) fun h16 =>
 In64 (x13 + (1 : Int)) ∧
 ∃ m11, m11 < n10 ∧ (∃ h17, Gh h16 h17 ∧ I9 m11 (x13 + (1 : Int)) h17)) (
 (∃ h18, Gh h14 h18 ∧ R8 h18))

def f15_sem (p0_n : Int) (h0 : H) (post : Value → H → Prop) : Prop :=
 SemCall Go.Proofs.Tryd.prog 24 (List.toArray [(Value.int .i64 p0_n)]) h0 fun v1 h2 =>
 ∃ x3 : Option (TypeId × Value), v1 = (errV x3) ∧
 isIfaceV (errV x3) = true ∧
 VIf (!(isNilV (errV x3))) (
 VRet h2 (Value.tuple (List.toArray [(Value.pointer none), (errV x3)])) post) (
 0 ≤ p0_n ∧ p0_n ≤ p0_n ∧ ((40 : Nat) : Int) * p0_n ≤ 140737488355328 ∧ p0_n ≤ 1000000000 ∧
 H.new h2 (repl (p0_n).toNat [(Value.int .i64 0), (Value.int .i64 0), (Value.int .i64 0), (Value.int .i64 0), (Value.int .i64 0)]) fun r4 h5 =>
 H.new h5 [(Value.int .i64 0), (Value.int .i64 0), (Value.int .i64 0), (Value.int .i64 0), (Value.int .i64 0), (Value.int .i64 0), (Value.int .i64 0), (Value.int .i64 0), (Value.int .i64 0), (Value.int .i64 0), (Value.int .i64 0), (Value.int .i64 0), (Value.int .i64 0), (Value.int .i64 0), (Value.int .i64 0), (Value.int .i64 0), (Value.int .i64 0), (Value.int .i64 0), (Value.int .i64 0), (Value.int .i64 0), (Value.int .i64 0), (Value.int .i64 0), (Value.int .i64 0), (Value.int .i64 0), (Value.int .i64 0), (Value.int .i64 0), (Value.int .i64 0), (Value.int .i64 0), (Value.int .i64 0), (Value.int .i64 0), (Value.int .i64 0), (Value.int .i64 0), (Value.int .i64 0), (Value.int .i64 0), (Value.int .i64 0), (Value.int .i64 0), (Value.int .i64 0), (Value.int .i64 0), (Value.int .i64 0), (Value.int .i64 0), (Value.int .i64 0), (Value.int .i64 0), (Value.int .i64 0), (Value.int .i64 0), (Value.int .i64 0), (Value.int .i64 0), (Value.int .i64 0), (Value.int .i64 0), (Value.int .i64 0), (Value.int .i64 0), (Value.int .i64 0), (Value.int .i64 0), (Value.int .i64 0), (Value.int .i64 0), (Value.int .i64 0), (Value.int .i64 0), (Value.int .i64 0), (Value.int .i64 0), (Value.int .i64 0), (Value.int .i64 0), (Value.int .i64 0), (Value.int .i64 0), (Value.int .i64 0), (Value.int .i64 0), (Value.int .i64 0), (Value.int .i64 0), (Value.int .i64 0), (Value.int .i64 0), (Value.int .i64 0), (Value.int .i64 0), (Value.int .i64 0), (Value.int .i64 0), (Value.int .i64 0), (Value.int .i64 0), (Value.int .i64 0), (Value.int .i64 0), (Value.int .i64 0), (Value.int .i64 0), (Value.int .i64 0), (Value.int .i64 0), (Value.int .i64 0), (Value.int .i64 0), (Value.int .i64 (1 : Int)), (Value.slice (some (Addr.mk r4 0 none)) ((p0_n).toNat) ((p0_n).toNat))] fun r6 h7 =>
 ∃ R8 : H → Prop, (
 ∃ I9 : Nat → Int → H → Prop, (∃ n10, (∃ h12, Gh h7 h12 ∧ I9 n10 (0 : Int) h12)) ∧
 ∀ (n10 : Nat) (_ : F) (x13 : Int) (h14 : H), I9 n10 x13 h14 →
 f15_L1 r6 R8 I9 n10 x13 h14) ∧
 ∀ (_ : F) (h19 : H), R8 h19 →
 VRet h19 (Value.tuple (List.toArray [(Value.pointer (some (Addr.mk r6 0 none))), Value.nilIface])) post)

def f15_hint : Hint := (.node .leaf (.node .leaf (.node .leaf (.node (.node .leaf (.join [] (.node (.loop [(16, .int)] .leaf) .leaf))) .leaf))))

theorem f15_eq (p0_n : Int) (h0 : H) (post : Value → H → Prop) : exec Tryd.prog (bodyOf Tryd.f15) f15_hint (retQ Tryd.prog Tryd.f15 post) (F0 [(Value.int .i64 p0_n)]) h0 = f15_sem p0_n h0 post := by kernel_rfl

set_option maxRecDepth 20000 in
theorem f15_call (p0_n : Int) (h0 : H) (post : Value → H → Prop) (hx : f15_sem p0_n h0 post) : SemCall Tryd.prog 15 (List.toArray [(Value.int .i64 p0_n)]) h0 post :=
 sem_of_exec (g := f15_hint) mixed Tryd.func15 (bodyOf_eq (by kernel_rfl)) (by kernel_rfl) ((f15_eq p0_n h0 post).mpr hx)

/- latchgarth/latchgarthref3.NewFifo -/
def f16_sem (p0_n : Int) (h0 : H) (post : Value → H → Prop) : Prop :=
 H.new h0 [(Value.int .i64 0), (Value.int .i64 0), (Value.slice none 0 0), (Value.slice none 0 0), (Value.slice none 0 0), (Value.slice none 0 0), (Value.slice none 0 0), (Value.slice none 0 0), (Value.slice none 0 0)] fun r1 h2 =>
 H.new h2 [(Value.int .i64 0)] fun r3 h4 =>
 H.new h4 [(Value.int .i64 (-1 : Int))] fun r5 h6 =>
 0 ≤ p0_n ∧ p0_n ≤ p0_n ∧ ((8 : Nat) : Int) * p0_n ≤ 140737488355328 ∧ p0_n ≤ 1000000000 ∧
 H.new h6 (repl (p0_n).toNat [(Value.int .i64 0)]) fun r7 h8 =>
 0 ≤ p0_n ∧ p0_n ≤ p0_n ∧ ((8 : Nat) : Int) * p0_n ≤ 140737488355328 ∧ p0_n ≤ 1000000000 ∧
 H.new h8 (repl (p0_n).toNat [(Value.int .i64 0)]) fun r9 h10 =>
 0 ≤ p0_n ∧ p0_n ≤ p0_n ∧ ((8 : Nat) : Int) * p0_n ≤ 140737488355328 ∧ p0_n ≤ 1000000000 ∧
 H.new h10 (repl (p0_n).toNat [(Value.int .i64 0)]) fun r11 h12 =>
 0 ≤ p0_n ∧ p0_n ≤ p0_n ∧ ((8 : Nat) : Int) * p0_n ≤ 140737488355328 ∧ p0_n ≤ 1000000000 ∧
 H.new h12 (repl (p0_n).toNat [(Value.int .i64 0)]) fun r13 h14 =>
 0 ≤ p0_n ∧ p0_n ≤ p0_n ∧ ((8 : Nat) : Int) * p0_n ≤ 140737488355328 ∧ p0_n ≤ 1000000000 ∧
 H.new h14 (repl (p0_n).toNat [(Value.int .i64 0)]) fun r15 h16 =>
 ([(Value.int .i64 0), (Value.int .i64 0), (Value.slice (some (Addr.mk r3 0 none)) 1 1), (Value.slice (some (Addr.mk r5 0 none)) 1 1), (Value.slice (some (Addr.mk r7 0 none)) ((p0_n).toNat) ((p0_n).toNat)), (Value.slice (some (Addr.mk r9 0 none)) ((p0_n).toNat) ((p0_n).toNat)), (Value.slice (some (Addr.mk r11 0 none)) ((p0_n).toNat) ((p0_n).toNat)), (Value.slice (some (Addr.mk r13 0 none)) ((p0_n).toNat) ((p0_n).toNat)), (Value.slice (some (Addr.mk r15 0 none)) ((p0_n).toNat) ((p0_n).toNat))]).length = 9 ∧ (Program.underlying Go.Proofs.Tryd.prog 50).isSome = true ∧
 H.wr h16 (Addr.mk r1 0 none) ([(Value.int .i64 0), (Value.int .i64 0), (Value.slice (some (Addr.mk r3 0 none)) 1 1), (Value.slice (some (Addr.mk r5 0 none)) 1 1), (Value.slice (some (Addr.mk r7 0 none)) ((p0_n).toNat) ((p0_n).toNat)), (Value.slice (some (Addr.mk r9 0 none)) ((p0_n).toNat) ((p0_n).toNat)), (Value.slice (some (Addr.mk r11 0 none)) ((p0_n).toNat) ((p0_n).toNat)), (Value.slice (some (Addr.mk r13 0 none)) ((p0_n).toNat) ((p0_n).toNat)), (Value.slice (some (Addr.mk r15 0 none)) ((p0_n).toNat) ((p0_n).toNat))]) fun h17 =>
 ∃ x18 : Int, H.rd h17 (Addr.add (Addr.mk r1 0 none) 0) (Value.int .i64 x18) ∧
 ∃ x19 : Int, H.rd h17 (Addr.add (Addr.mk r1 0 none) 1) (Value.int .i64 x19) ∧
 ∃ x20 : SV, H.rd h17 (Addr.add (Addr.mk r1 0 none) 2) (Value.slice x20.a x20.len x20.cap) ∧
 ∃ x21 : SV, H.rd h17 (Addr.add (Addr.mk r1 0 none) 3) (Value.slice x21.a x21.len x21.cap) ∧
 ∃ x22 : SV, H.rd h17 (Addr.add (Addr.mk r1 0 none) 4) (Value.slice x22.a x22.len x22.cap) ∧
 ∃ x23 : SV, H.rd h17 (Addr.add (Addr.mk r1 0 none) 5) (Value.slice x23.a x23.len x23.cap) ∧
 ∃ x24 : SV, H.rd h17 (Addr.add (Addr.mk r1 0 none) 6) (Value.slice x24.a x24.len x24.cap) ∧
 ∃ x25 : SV, H.rd h17 (Addr.add (Addr.mk r1 0 none) 7) (Value.slice x25.a x25.len x25.cap) ∧
 ∃ x26 : SV, H.rd h17 (Addr.add (Addr.mk r1 0 none) 8) (Value.slice x26.a x26.len x26.cap) ∧
 VRet h17 (Value.agg (List.toArray [(Value.int .i64 x18), (Value.int .i64 x19), (Value.slice x20.a x20.len x20.cap), (Value.slice x21.a x21.len x21.cap), (Value.slice x22.a x22.len x22.cap), (Value.slice x23.a x23.len x23.cap), (Value.slice x24.a x24.len x24.cap), (Value.slice x25.a x25.len x25.cap), (Value.slice x26.a x26.len x26.cap)])) post

def f16_hint : Hint := (.node .leaf (.node .lex .leaf))

theorem f16_eq (p0_n : Int) (h0 : H) (post : Value → H → Prop) : exec Tryd.prog (bodyOf Tryd.f16) f16_hint (retQ Tryd.prog Tryd.f16 post) (F0 [(Value.int .i64 p0_n)]) h0 = f16_sem p0_n h0 post := by kernel_rfl

set_option maxRecDepth 20000 in
theorem f16_call (p0_n : Int) (h0 : H) (post : Value → H → Prop) (hx : f16_sem p0_n h0 post) : SemCall Tryd.prog 16 (List.toArray [(Value.int .i64 p0_n)]) h0 post :=
 sem_of_exec (g := f16_hint) mixed Tryd.func16 (bodyOf_eq (by kernel_rfl)) (by kernel_rfl) ((f16_eq p0_n h0 post).mpr hx)

/- (*latchgarth/fifo.Queue).Put -/
def f17_sem (p0_q : Option Addr) (p1_p : Int) (p2_value : Int) (h0 : H) (post : Value → H → Prop) : Prop :=
 SemCall Go.Proofs.Tryd.prog 26 (List.toArray [(Value.int .i64 p2_value), (Value.int .i64 0), (Value.int .i64 (1000 : Int))]) h0 fun v1 h2 =>
 ∃ x3 : Bool, v1 = (Value.bool x3) ∧
 VIf (!x3) (
 VRet h2 (Value.iface 65 (Value.int .i64 (1 : Int))) post) (
 SemCall Go.Proofs.Tryd.prog 34 (List.toArray [(Value.pointer p0_q), (Value.int .i64 p1_p)]) h2 fun v4 h5 =>
 ∃ x6 : Option (TypeId × Value), v4 = (errV x6) ∧
 isIfaceV (errV x6) = true ∧
 VIf (!(isNilV (errV x6))) (
 VRet h5 (errV x6) post) (
 ∃ a7 : Addr, p0_q = some a7 ∧
 ∃ x8 : Int, H.rd h5 (Addr.add (Addr.add a7 82) 0) (Value.int .i64 x8) ∧
 VIf (x8 == (40 : Int)) (
 VRet h5 (Value.iface 65 (Value.int .i64 (4 : Int))) post) (
 ∃ a9 : Addr, p0_q = some a9 ∧
 ∃ x10 : Int, H.rd h5 (Addr.add (Addr.add a9 82) 0) (Value.int .i64 x10) ∧
 ∃ a11 : Addr, p0_q = some a11 ∧
 0 ≤ x10 ∧ x10 < ((40 : Nat) : Int) ∧
 H.wr h5 (Addr.add (Addr.add a11 42) ((x10).toNat * 1)) ([(Value.int .i64 p2_value)]) fun h12 =>
 ∃ a13 : Addr, p0_q = some a13 ∧
 ∃ x14 : SV, H.rd h12 (Addr.add (Addr.add a13 83) 0) (Value.slice x14.a x14.len x14.cap) ∧
 ∃ a15 : Addr, p0_q = some a15 ∧
 ∃ x16 : Int, H.rd h12 (Addr.add (Addr.add a15 82) 0) (Value.int .i64 x16) ∧
 ∃ b17 : Addr, x14.a = some b17 ∧ 0 ≤ p1_p ∧ p1_p < ((x14.len : Nat) : Int) ∧
 ([(Value.int .i64 (1 : Int)), (Value.int .i64 x16), (Value.int .i64 0), (Value.int .i64 0), (Value.int .i64 0)]).length = 5 ∧ (Program.underlying Go.Proofs.Tryd.prog 82).isSome = true ∧
 H.wr h12 (Addr.add b17 ((p1_p).toNat * 5)) ([(Value.int .i64 (1 : Int)), (Value.int .i64 x16), (Value.int .i64 0), (Value.int .i64 0), (Value.int .i64 0)]) fun h18 =>
 ∃ a19 : Addr, p0_q = some a19 ∧
 ∃ x20 : Int, H.rd h18 (Addr.add (Addr.add a19 82) 0) (Value.int .i64 x20) ∧
 In64 (x20 + (1 : Int)) ∧
 ∃ a21 : Addr, p0_q = some a21 ∧
 H.wr h18 (Addr.add a21 82) ([(Value.int .i64 (x20 + (1 : Int)))]) fun h22 =>
 VRet h22 Value.nilIface post)))

def f17_hint : Hint := (.node .leaf (.node .leaf (.node .leaf (.node .leaf (.node (.tail 9) (.node (.tail 11) .leaf))))))

theorem f17_eq (p0_q : Option Addr) (p1_p : Int) (p2_value : Int) (h0 : H) (post : Value → H → Prop) : exec Tryd.prog (bodyOf Tryd.f17) f17_hint (retQ Tryd.prog Tryd.f17 post) (F0 [(Value.pointer p0_q), (Value.int .i64 p1_p), (Value.int .i64 p2_value)]) h0 = f17_sem p0_q p1_p p2_value h0 post := by kernel_rfl

set_option maxRecDepth 20000 in
theorem f17_call (p0_q : Option Addr) (p1_p : Int) (p2_value : Int) (h0 : H) (post : Value → H → Prop) (hx : f17_sem p0_q p1_p p2_value h0 post) : SemCall Tryd.prog 17 (List.toArray [(Value.pointer p0_q), (Value.int .i64 p1_p), (Value.int .i64 p2_value)]) h0 post :=
 sem_of_exec (g := f17_hint) mixed Tryd.func17 (bodyOf_eq (by kernel_rfl)) (by kernel_rfl) ((f17_eq p0_q p1_p p2_value h0 post).mpr hx)

/- latchgarth/latchgarthref3.BeginFifo -/
def f18_sem (p0_0_f : Int) (p0_1_f : Int) (p0_2_f : SV) (p0_3_f : SV) (p0_4_f : SV) (p0_5_f : SV) (p0_6_f : SV) (p0_7_f : SV) (p0_8_f : SV) (p1_p : Int) (p2_value : Int) (h0 : H) (post : Value → H → Prop) : Prop :=
 H.new h0 [(Value.int .i64 p0_0_f), (Value.int .i64 p0_1_f), (Value.slice p0_2_f.a p0_2_f.len p0_2_f.cap), (Value.slice p0_3_f.a p0_3_f.len p0_3_f.cap), (Value.slice p0_4_f.a p0_4_f.len p0_4_f.cap), (Value.slice p0_5_f.a p0_5_f.len p0_5_f.cap), (Value.slice p0_6_f.a p0_6_f.len p0_6_f.cap), (Value.slice p0_7_f.a p0_7_f.len p0_7_f.cap), (Value.slice p0_8_f.a p0_8_f.len p0_8_f.cap)] fun r1 h2 =>
 H.new h2 [(Value.int .i64 0), (Value.int .i64 0), (Value.slice none 0 0), (Value.slice none 0 0), (Value.slice none 0 0), (Value.slice none 0 0), (Value.slice none 0 0), (Value.slice none 0 0), (Value.slice none 0 0)] fun r3 h4 =>
 ∃ x5 : SV, H.rd h4 (Addr.add (Addr.add (Addr.mk r1 0 none) 4) 0) (Value.slice x5.a x5.len x5.cap) ∧
 In64 (((x5.len : Nat) : Int) - (1 : Int)) ∧
 SemCall Go.Proofs.Tryd.prog 30 (List.toArray [(Value.int .i64 p1_p), (Value.int .i64 0), (Value.int .i64 (((x5.len : Nat) : Int) - (1 : Int)))]) h4 fun v6 h7 =>
 ∃ x8 : Bool, v6 = (Value.bool x8) ∧
 VIf (!x8) (
 ∃ x9 : Int, H.rd h7 (Addr.add (Addr.mk r1 0 none) 0) (Value.int .i64 x9) ∧
 ∃ x10 : Int, H.rd h7 (Addr.add (Addr.mk r1 0 none) 1) (Value.int .i64 x10) ∧
 ∃ x11 : SV, H.rd h7 (Addr.add (Addr.mk r1 0 none) 2) (Value.slice x11.a x11.len x11.cap) ∧
 ∃ x12 : SV, H.rd h7 (Addr.add (Addr.mk r1 0 none) 3) (Value.slice x12.a x12.len x12.cap) ∧
 ∃ x13 : SV, H.rd h7 (Addr.add (Addr.mk r1 0 none) 4) (Value.slice x13.a x13.len x13.cap) ∧
 ∃ x14 : SV, H.rd h7 (Addr.add (Addr.mk r1 0 none) 5) (Value.slice x14.a x14.len x14.cap) ∧
 ∃ x15 : SV, H.rd h7 (Addr.add (Addr.mk r1 0 none) 6) (Value.slice x15.a x15.len x15.cap) ∧
 ∃ x16 : SV, H.rd h7 (Addr.add (Addr.mk r1 0 none) 7) (Value.slice x16.a x16.len x16.cap) ∧
 ∃ x17 : SV, H.rd h7 (Addr.add (Addr.mk r1 0 none) 8) (Value.slice x17.a x17.len x17.cap) ∧
 ([(Value.int .i64 x9), (Value.int .i64 x10), (Value.slice x11.a x11.len x11.cap), (Value.slice x12.a x12.len x12.cap), (Value.slice x13.a x13.len x13.cap), (Value.slice x14.a x14.len x14.cap), (Value.slice x15.a x15.len x15.cap), (Value.slice x16.a x16.len x16.cap), (Value.slice x17.a x17.len x17.cap)]).length = 9 ∧ (Program.underlying Go.Proofs.Tryd.prog 50).isSome = true ∧
 H.wr h7 (Addr.mk r3 0 none) ([(Value.int .i64 x9), (Value.int .i64 x10), (Value.slice x11.a x11.len x11.cap), (Value.slice x12.a x12.len x12.cap), (Value.slice x13.a x13.len x13.cap), (Value.slice x14.a x14.len x14.cap), (Value.slice x15.a x15.len x15.cap), (Value.slice x16.a x16.len x16.cap), (Value.slice x17.a x17.len x17.cap)]) fun h18 =>
 ∃ x19 : Int, H.rd h18 (Addr.add (Addr.mk r3 0 none) 0) (Value.int .i64 x19) ∧
 ∃ x20 : Int, H.rd h18 (Addr.add (Addr.mk r3 0 none) 1) (Value.int .i64 x20) ∧
 ∃ x21 : SV, H.rd h18 (Addr.add (Addr.mk r3 0 none) 2) (Value.slice x21.a x21.len x21.cap) ∧
 ∃ x22 : SV, H.rd h18 (Addr.add (Addr.mk r3 0 none) 3) (Value.slice x22.a x22.len x22.cap) ∧
 ∃ x23 : SV, H.rd h18 (Addr.add (Addr.mk r3 0 none) 4) (Value.slice x23.a x23.len x23.cap) ∧
 ∃ x24 : SV, H.rd h18 (Addr.add (Addr.mk r3 0 none) 5) (Value.slice x24.a x24.len x24.cap) ∧
 ∃ x25 : SV, H.rd h18 (Addr.add (Addr.mk r3 0 none) 6) (Value.slice x25.a x25.len x25.cap) ∧
 ∃ x26 : SV, H.rd h18 (Addr.add (Addr.mk r3 0 none) 7) (Value.slice x26.a x26.len x26.cap) ∧
 ∃ x27 : SV, H.rd h18 (Addr.add (Addr.mk r3 0 none) 8) (Value.slice x27.a x27.len x27.cap) ∧
 VRet h18 (Value.tuple (List.toArray [(Value.agg (List.toArray [(Value.int .i64 x19), (Value.int .i64 x20), (Value.slice x21.a x21.len x21.cap), (Value.slice x22.a x22.len x22.cap), (Value.slice x23.a x23.len x23.cap), (Value.slice x24.a x24.len x24.cap), (Value.slice x25.a x25.len x25.cap), (Value.slice x26.a x26.len x26.cap), (Value.slice x27.a x27.len x27.cap)])), (Value.int .i64 (1 : Int))])) post) (
 ∃ x28 : SV, H.rd h7 (Addr.add (Addr.add (Addr.mk r1 0 none) 4) 0) (Value.slice x28.a x28.len x28.cap) ∧
 ∃ b29 : Addr, x28.a = some b29 ∧ 0 ≤ p1_p ∧ p1_p < ((x28.len : Nat) : Int) ∧
 ∃ x30 : Int, H.rd h7 (Addr.add (Addr.add b29 ((p1_p).toNat * 1)) 0) (Value.int .i64 x30) ∧
 VIf (x30 != (0 : Int)) (
 ∃ x31 : Int, H.rd h7 (Addr.add (Addr.mk r1 0 none) 0) (Value.int .i64 x31) ∧
 ∃ x32 : Int, H.rd h7 (Addr.add (Addr.mk r1 0 none) 1) (Value.int .i64 x32) ∧
 ∃ x33 : SV, H.rd h7 (Addr.add (Addr.mk r1 0 none) 2) (Value.slice x33.a x33.len x33.cap) ∧
 ∃ x34 : SV, H.rd h7 (Addr.add (Addr.mk r1 0 none) 3) (Value.slice x34.a x34.len x34.cap) ∧
 ∃ x35 : SV, H.rd h7 (Addr.add (Addr.mk r1 0 none) 4) (Value.slice x35.a x35.len x35.cap) ∧
 ∃ x36 : SV, H.rd h7 (Addr.add (Addr.mk r1 0 none) 5) (Value.slice x36.a x36.len x36.cap) ∧
 ∃ x37 : SV, H.rd h7 (Addr.add (Addr.mk r1 0 none) 6) (Value.slice x37.a x37.len x37.cap) ∧
 ∃ x38 : SV, H.rd h7 (Addr.add (Addr.mk r1 0 none) 7) (Value.slice x38.a x38.len x38.cap) ∧
 ∃ x39 : SV, H.rd h7 (Addr.add (Addr.mk r1 0 none) 8) (Value.slice x39.a x39.len x39.cap) ∧
 ([(Value.int .i64 x31), (Value.int .i64 x32), (Value.slice x33.a x33.len x33.cap), (Value.slice x34.a x34.len x34.cap), (Value.slice x35.a x35.len x35.cap), (Value.slice x36.a x36.len x36.cap), (Value.slice x37.a x37.len x37.cap), (Value.slice x38.a x38.len x38.cap), (Value.slice x39.a x39.len x39.cap)]).length = 9 ∧ (Program.underlying Go.Proofs.Tryd.prog 50).isSome = true ∧
 H.wr h7 (Addr.mk r3 0 none) ([(Value.int .i64 x31), (Value.int .i64 x32), (Value.slice x33.a x33.len x33.cap), (Value.slice x34.a x34.len x34.cap), (Value.slice x35.a x35.len x35.cap), (Value.slice x36.a x36.len x36.cap), (Value.slice x37.a x37.len x37.cap), (Value.slice x38.a x38.len x38.cap), (Value.slice x39.a x39.len x39.cap)]) fun h40 =>
 ∃ x41 : Int, H.rd h40 (Addr.add (Addr.mk r3 0 none) 0) (Value.int .i64 x41) ∧
 ∃ x42 : Int, H.rd h40 (Addr.add (Addr.mk r3 0 none) 1) (Value.int .i64 x42) ∧
 ∃ x43 : SV, H.rd h40 (Addr.add (Addr.mk r3 0 none) 2) (Value.slice x43.a x43.len x43.cap) ∧
 ∃ x44 : SV, H.rd h40 (Addr.add (Addr.mk r3 0 none) 3) (Value.slice x44.a x44.len x44.cap) ∧
 ∃ x45 : SV, H.rd h40 (Addr.add (Addr.mk r3 0 none) 4) (Value.slice x45.a x45.len x45.cap) ∧
 ∃ x46 : SV, H.rd h40 (Addr.add (Addr.mk r3 0 none) 5) (Value.slice x46.a x46.len x46.cap) ∧
 ∃ x47 : SV, H.rd h40 (Addr.add (Addr.mk r3 0 none) 6) (Value.slice x47.a x47.len x47.cap) ∧
 ∃ x48 : SV, H.rd h40 (Addr.add (Addr.mk r3 0 none) 7) (Value.slice x48.a x48.len x48.cap) ∧
 ∃ x49 : SV, H.rd h40 (Addr.add (Addr.mk r3 0 none) 8) (Value.slice x49.a x49.len x49.cap) ∧
 VRet h40 (Value.tuple (List.toArray [(Value.agg (List.toArray [(Value.int .i64 x41), (Value.int .i64 x42), (Value.slice x43.a x43.len x43.cap), (Value.slice x44.a x44.len x44.cap), (Value.slice x45.a x45.len x45.cap), (Value.slice x46.a x46.len x46.cap), (Value.slice x47.a x47.len x47.cap), (Value.slice x48.a x48.len x48.cap), (Value.slice x49.a x49.len x49.cap)])), (Value.int .i64 (7 : Int))])) post) (
 VIf (decide (p2_value < (0 : Int))) (
 ∃ x50 : SV, H.rd h7 (Addr.add (Addr.add (Addr.mk r1 0 none) 4) 0) (Value.slice x50.a x50.len x50.cap) ∧
 SemCall Go.Proofs.Tryd.prog 31 (List.toArray [(Value.slice x50.a x50.len x50.cap), (Value.int .i64 p1_p), (Value.int .i64 (6 : Int))]) h7 fun v51 h52 =>
 ∃ x53 : SV, v51 = (Value.slice x53.a x53.len x53.cap) ∧
 H.wr h52 (Addr.add (Addr.mk r1 0 none) 4) ([(Value.slice x53.a x53.len x53.cap)]) fun h54 =>
 ∃ x55 : Int, H.rd h54 (Addr.add (Addr.mk r1 0 none) 0) (Value.int .i64 x55) ∧
 ∃ x56 : Int, H.rd h54 (Addr.add (Addr.mk r1 0 none) 1) (Value.int .i64 x56) ∧
 ∃ x57 : SV, H.rd h54 (Addr.add (Addr.mk r1 0 none) 2) (Value.slice x57.a x57.len x57.cap) ∧
 ∃ x58 : SV, H.rd h54 (Addr.add (Addr.mk r1 0 none) 3) (Value.slice x58.a x58.len x58.cap) ∧
 ∃ x59 : SV, H.rd h54 (Addr.add (Addr.mk r1 0 none) 4) (Value.slice x59.a x59.len x59.cap) ∧
 ∃ x60 : SV, H.rd h54 (Addr.add (Addr.mk r1 0 none) 5) (Value.slice x60.a x60.len x60.cap) ∧
 ∃ x61 : SV, H.rd h54 (Addr.add (Addr.mk r1 0 none) 6) (Value.slice x61.a x61.len x61.cap) ∧
 ∃ x62 : SV, H.rd h54 (Addr.add (Addr.mk r1 0 none) 7) (Value.slice x62.a x62.len x62.cap) ∧
 ∃ x63 : SV, H.rd h54 (Addr.add (Addr.mk r1 0 none) 8) (Value.slice x63.a x63.len x63.cap) ∧
 ([(Value.int .i64 x55), (Value.int .i64 x56), (Value.slice x57.a x57.len x57.cap), (Value.slice x58.a x58.len x58.cap), (Value.slice x59.a x59.len x59.cap), (Value.slice x60.a x60.len x60.cap), (Value.slice x61.a x61.len x61.cap), (Value.slice x62.a x62.len x62.cap), (Value.slice x63.a x63.len x63.cap)]).length = 9 ∧ (Program.underlying Go.Proofs.Tryd.prog 50).isSome = true ∧
 H.wr h54 (Addr.mk r3 0 none) ([(Value.int .i64 x55), (Value.int .i64 x56), (Value.slice x57.a x57.len x57.cap), (Value.slice x58.a x58.len x58.cap), (Value.slice x59.a x59.len x59.cap), (Value.slice x60.a x60.len x60.cap), (Value.slice x61.a x61.len x61.cap), (Value.slice x62.a x62.len x62.cap), (Value.slice x63.a x63.len x63.cap)]) fun h64 =>
 ∃ x65 : Int, H.rd h64 (Addr.add (Addr.mk r3 0 none) 0) (Value.int .i64 x65) ∧
 ∃ x66 : Int, H.rd h64 (Addr.add (Addr.mk r3 0 none) 1) (Value.int .i64 x66) ∧
 ∃ x67 : SV, H.rd h64 (Addr.add (Addr.mk r3 0 none) 2) (Value.slice x67.a x67.len x67.cap) ∧
 ∃ x68 : SV, H.rd h64 (Addr.add (Addr.mk r3 0 none) 3) (Value.slice x68.a x68.len x68.cap) ∧
 ∃ x69 : SV, H.rd h64 (Addr.add (Addr.mk r3 0 none) 4) (Value.slice x69.a x69.len x69.cap) ∧
 ∃ x70 : SV, H.rd h64 (Addr.add (Addr.mk r3 0 none) 5) (Value.slice x70.a x70.len x70.cap) ∧
 ∃ x71 : SV, H.rd h64 (Addr.add (Addr.mk r3 0 none) 6) (Value.slice x71.a x71.len x71.cap) ∧
 ∃ x72 : SV, H.rd h64 (Addr.add (Addr.mk r3 0 none) 7) (Value.slice x72.a x72.len x72.cap) ∧
 ∃ x73 : SV, H.rd h64 (Addr.add (Addr.mk r3 0 none) 8) (Value.slice x73.a x73.len x73.cap) ∧
 VRet h64 (Value.tuple (List.toArray [(Value.agg (List.toArray [(Value.int .i64 x65), (Value.int .i64 x66), (Value.slice x67.a x67.len x67.cap), (Value.slice x68.a x68.len x68.cap), (Value.slice x69.a x69.len x69.cap), (Value.slice x70.a x70.len x70.cap), (Value.slice x71.a x71.len x71.cap), (Value.slice x72.a x72.len x72.cap), (Value.slice x73.a x73.len x73.cap)])), (Value.int .i64 0)])) post) (
 ∃ x74 : SV, H.rd h7 (Addr.add (Addr.add (Addr.mk r1 0 none) 2) 0) (Value.slice x74.a x74.len x74.cap) ∧
 VIf (decide (((x74.len : Nat) : Int) ≥ (40 : Int))) (
 ∃ x75 : Int, H.rd h7 (Addr.add (Addr.mk r1 0 none) 0) (Value.int .i64 x75) ∧
 ∃ x76 : Int, H.rd h7 (Addr.add (Addr.mk r1 0 none) 1) (Value.int .i64 x76) ∧
 ∃ x77 : SV, H.rd h7 (Addr.add (Addr.mk r1 0 none) 2) (Value.slice x77.a x77.len x77.cap) ∧
 ∃ x78 : SV, H.rd h7 (Addr.add (Addr.mk r1 0 none) 3) (Value.slice x78.a x78.len x78.cap) ∧
 ∃ x79 : SV, H.rd h7 (Addr.add (Addr.mk r1 0 none) 4) (Value.slice x79.a x79.len x79.cap) ∧
 ∃ x80 : SV, H.rd h7 (Addr.add (Addr.mk r1 0 none) 5) (Value.slice x80.a x80.len x80.cap) ∧
 ∃ x81 : SV, H.rd h7 (Addr.add (Addr.mk r1 0 none) 6) (Value.slice x81.a x81.len x81.cap) ∧
 ∃ x82 : SV, H.rd h7 (Addr.add (Addr.mk r1 0 none) 7) (Value.slice x82.a x82.len x82.cap) ∧
 ∃ x83 : SV, H.rd h7 (Addr.add (Addr.mk r1 0 none) 8) (Value.slice x83.a x83.len x83.cap) ∧
 ([(Value.int .i64 x75), (Value.int .i64 x76), (Value.slice x77.a x77.len x77.cap), (Value.slice x78.a x78.len x78.cap), (Value.slice x79.a x79.len x79.cap), (Value.slice x80.a x80.len x80.cap), (Value.slice x81.a x81.len x81.cap), (Value.slice x82.a x82.len x82.cap), (Value.slice x83.a x83.len x83.cap)]).length = 9 ∧ (Program.underlying Go.Proofs.Tryd.prog 50).isSome = true ∧
 H.wr h7 (Addr.mk r3 0 none) ([(Value.int .i64 x75), (Value.int .i64 x76), (Value.slice x77.a x77.len x77.cap), (Value.slice x78.a x78.len x78.cap), (Value.slice x79.a x79.len x79.cap), (Value.slice x80.a x80.len x80.cap), (Value.slice x81.a x81.len x81.cap), (Value.slice x82.a x82.len x82.cap), (Value.slice x83.a x83.len x83.cap)]) fun h84 =>
 ∃ x85 : Int, H.rd h84 (Addr.add (Addr.mk r3 0 none) 0) (Value.int .i64 x85) ∧
 ∃ x86 : Int, H.rd h84 (Addr.add (Addr.mk r3 0 none) 1) (Value.int .i64 x86) ∧
 ∃ x87 : SV, H.rd h84 (Addr.add (Addr.mk r3 0 none) 2) (Value.slice x87.a x87.len x87.cap) ∧
 ∃ x88 : SV, H.rd h84 (Addr.add (Addr.mk r3 0 none) 3) (Value.slice x88.a x88.len x88.cap) ∧
 ∃ x89 : SV, H.rd h84 (Addr.add (Addr.mk r3 0 none) 4) (Value.slice x89.a x89.len x89.cap) ∧
 ∃ x90 : SV, H.rd h84 (Addr.add (Addr.mk r3 0 none) 5) (Value.slice x90.a x90.len x90.cap) ∧
 ∃ x91 : SV, H.rd h84 (Addr.add (Addr.mk r3 0 none) 6) (Value.slice x91.a x91.len x91.cap) ∧
 ∃ x92 : SV, H.rd h84 (Addr.add (Addr.mk r3 0 none) 7) (Value.slice x92.a x92.len x92.cap) ∧
 ∃ x93 : SV, H.rd h84 (Addr.add (Addr.mk r3 0 none) 8) (Value.slice x93.a x93.len x93.cap) ∧
 VRet h84 (Value.tuple (List.toArray [(Value.agg (List.toArray [(Value.int .i64 x85), (Value.int .i64 x86), (Value.slice x87.a x87.len x87.cap), (Value.slice x88.a x88.len x88.cap), (Value.slice x89.a x89.len x89.cap), (Value.slice x90.a x90.len x90.cap), (Value.slice x91.a x91.len x91.cap), (Value.slice x92.a x92.len x92.cap), (Value.slice x93.a x93.len x93.cap)])), (Value.int .i64 (4 : Int))])) post) (
 ∃ x94 : SV, H.rd h7 (Addr.add (Addr.add (Addr.mk r1 0 none) 5) 0) (Value.slice x94.a x94.len x94.cap) ∧
 ∃ x95 : SV, H.rd h7 (Addr.add (Addr.add (Addr.mk r1 0 none) 2) 0) (Value.slice x95.a x95.len x95.cap) ∧
 SemCall Go.Proofs.Tryd.prog 31 (List.toArray [(Value.slice x94.a x94.len x94.cap), (Value.int .i64 p1_p), (Value.int .i64 ((x95.len : Nat) : Int))]) h7 fun v96 h97 =>
 ∃ x98 : SV, v96 = (Value.slice x98.a x98.len x98.cap) ∧
 H.wr h97 (Addr.add (Addr.mk r1 0 none) 5) ([(Value.slice x98.a x98.len x98.cap)]) fun h99 =>
 ∃ x100 : SV, H.rd h99 (Addr.add (Addr.add (Addr.mk r1 0 none) 2) 0) (Value.slice x100.a x100.len x100.cap) ∧
 SemCall Go.Proofs.Tryd.prog 35 (List.toArray [(Value.slice x100.a x100.len x100.cap), (Value.int .i64 p2_value)]) h99 fun v101 h102 =>
 ∃ x103 : SV, v101 = (Value.slice x103.a x103.len x103.cap) ∧
 H.wr h102 (Addr.add (Addr.mk r1 0 none) 2) ([(Value.slice x103.a x103.len x103.cap)]) fun h104 =>
 ∃ x105 : SV, H.rd h104 (Addr.add (Addr.add (Addr.mk r1 0 none) 3) 0) (Value.slice x105.a x105.len x105.cap) ∧
 SemCall Go.Proofs.Tryd.prog 35 (List.toArray [(Value.slice x105.a x105.len x105.cap), (Value.int .i64 (-1 : Int))]) h104 fun v106 h107 =>
 ∃ x108 : SV, v106 = (Value.slice x108.a x108.len x108.cap) ∧
 H.wr h107 (Addr.add (Addr.mk r1 0 none) 3) ([(Value.slice x108.a x108.len x108.cap)]) fun h109 =>
 ∃ x110 : SV, H.rd h109 (Addr.add (Addr.add (Addr.mk r1 0 none) 4) 0) (Value.slice x110.a x110.len x110.cap) ∧
 SemCall Go.Proofs.Tryd.prog 31 (List.toArray [(Value.slice x110.a x110.len x110.cap), (Value.int .i64 p1_p), (Value.int .i64 (1 : Int))]) h109 fun v111 h112 =>
 ∃ x113 : SV, v111 = (Value.slice x113.a x113.len x113.cap) ∧
 H.wr h112 (Addr.add (Addr.mk r1 0 none) 4) ([(Value.slice x113.a x113.len x113.cap)]) fun h114 =>
 ∃ x115 : Int, H.rd h114 (Addr.add (Addr.mk r1 0 none) 0) (Value.int .i64 x115) ∧
 ∃ x116 : Int, H.rd h114 (Addr.add (Addr.mk r1 0 none) 1) (Value.int .i64 x116) ∧
 ∃ x117 : SV, H.rd h114 (Addr.add (Addr.mk r1 0 none) 2) (Value.slice x117.a x117.len x117.cap) ∧
 ∃ x118 : SV, H.rd h114 (Addr.add (Addr.mk r1 0 none) 3) (Value.slice x118.a x118.len x118.cap) ∧
 ∃ x119 : SV, H.rd h114 (Addr.add (Addr.mk r1 0 none) 4) (Value.slice x119.a x119.len x119.cap) ∧
 ∃ x120 : SV, H.rd h114 (Addr.add (Addr.mk r1 0 none) 5) (Value.slice x120.a x120.len x120.cap) ∧
 ∃ x121 : SV, H.rd h114 (Addr.add (Addr.mk r1 0 none) 6) (Value.slice x121.a x121.len x121.cap) ∧
 ∃ x122 : SV, H.rd h114 (Addr.add (Addr.mk r1 0 none) 7) (Value.slice x122.a x122.len x122.cap) ∧
 ∃ x123 : SV, H.rd h114 (Addr.add (Addr.mk r1 0 none) 8) (Value.slice x123.a x123.len x123.cap) ∧
 ([(Value.int .i64 x115), (Value.int .i64 x116), (Value.slice x117.a x117.len x117.cap), (Value.slice x118.a x118.len x118.cap), (Value.slice x119.a x119.len x119.cap), (Value.slice x120.a x120.len x120.cap), (Value.slice x121.a x121.len x121.cap), (Value.slice x122.a x122.len x122.cap), (Value.slice x123.a x123.len x123.cap)]).length = 9 ∧ (Program.underlying Go.Proofs.Tryd.prog 50).isSome = true ∧
 H.wr h114 (Addr.mk r3 0 none) ([(Value.int .i64 x115), (Value.int .i64 x116), (Value.slice x117.a x117.len x117.cap), (Value.slice x118.a x118.len x118.cap), (Value.slice x119.a x119.len x119.cap), (Value.slice x120.a x120.len x120.cap), (Value.slice x121.a x121.len x121.cap), (Value.slice x122.a x122.len x122.cap), (Value.slice x123.a x123.len x123.cap)]) fun h124 =>
 ∃ x125 : Int, H.rd h124 (Addr.add (Addr.mk r3 0 none) 0) (Value.int .i64 x125) ∧
 ∃ x126 : Int, H.rd h124 (Addr.add (Addr.mk r3 0 none) 1) (Value.int .i64 x126) ∧
 ∃ x127 : SV, H.rd h124 (Addr.add (Addr.mk r3 0 none) 2) (Value.slice x127.a x127.len x127.cap) ∧
 ∃ x128 : SV, H.rd h124 (Addr.add (Addr.mk r3 0 none) 3) (Value.slice x128.a x128.len x128.cap) ∧
 ∃ x129 : SV, H.rd h124 (Addr.add (Addr.mk r3 0 none) 4) (Value.slice x129.a x129.len x129.cap) ∧
 ∃ x130 : SV, H.rd h124 (Addr.add (Addr.mk r3 0 none) 5) (Value.slice x130.a x130.len x130.cap) ∧
 ∃ x131 : SV, H.rd h124 (Addr.add (Addr.mk r3 0 none) 6) (Value.slice x131.a x131.len x131.cap) ∧
 ∃ x132 : SV, H.rd h124 (Addr.add (Addr.mk r3 0 none) 7) (Value.slice x132.a x132.len x132.cap) ∧
 ∃ x133 : SV, H.rd h124 (Addr.add (Addr.mk r3 0 none) 8) (Value.slice x133.a x133.len x133.cap) ∧
 VRet h124 (Value.tuple (List.toArray [(Value.agg (List.toArray [(Value.int .i64 x125), (Value.int .i64 x126), (Value.slice x127.a x127.len x127.cap), (Value.slice x128.a x128.len x128.cap), (Value.slice x129.a x129.len x129.cap), (Value.slice x130.a x130.len x130.cap), (Value.slice x131.a x131.len x131.cap), (Value.slice x132.a x132.len x132.cap), (Value.slice x133.a x133.len x133.cap)])), (Value.int .i64 0)])) post))))

def f18_hint : Hint := .leaf

theorem f18_eq (p0_0_f : Int) (p0_1_f : Int) (p0_2_f : SV) (p0_3_f : SV) (p0_4_f : SV) (p0_5_f : SV) (p0_6_f : SV) (p0_7_f : SV) (p0_8_f : SV) (p1_p : Int) (p2_value : Int) (h0 : H) (post : Value → H → Prop) : exec Tryd.prog (bodyOf Tryd.f18) f18_hint (retQ Tryd.prog Tryd.f18 post) (F0 [(Value.agg (List.toArray [(Value.int .i64 p0_0_f), (Value.int .i64 p0_1_f), (Value.slice p0_2_f.a p0_2_f.len p0_2_f.cap), (Value.slice p0_3_f.a p0_3_f.len p0_3_f.cap), (Value.slice p0_4_f.a p0_4_f.len p0_4_f.cap), (Value.slice p0_5_f.a p0_5_f.len p0_5_f.cap), (Value.slice p0_6_f.a p0_6_f.len p0_6_f.cap), (Value.slice p0_7_f.a p0_7_f.len p0_7_f.cap), (Value.slice p0_8_f.a p0_8_f.len p0_8_f.cap)])), (Value.int .i64 p1_p), (Value.int .i64 p2_value)]) h0 = f18_sem p0_0_f p0_1_f p0_2_f p0_3_f p0_4_f p0_5_f p0_6_f p0_7_f p0_8_f p1_p p2_value h0 post := by kernel_rfl

set_option maxRecDepth 20000 in
theorem f18_call (p0_0_f : Int) (p0_1_f : Int) (p0_2_f : SV) (p0_3_f : SV) (p0_4_f : SV) (p0_5_f : SV) (p0_6_f : SV) (p0_7_f : SV) (p0_8_f : SV) (p1_p : Int) (p2_value : Int) (h0 : H) (post : Value → H → Prop) (hx : f18_sem p0_0_f p0_1_f p0_2_f p0_3_f p0_4_f p0_5_f p0_6_f p0_7_f p0_8_f p1_p p2_value h0 post) : SemCall Tryd.prog 18 (List.toArray [(Value.agg (List.toArray [(Value.int .i64 p0_0_f), (Value.int .i64 p0_1_f), (Value.slice p0_2_f.a p0_2_f.len p0_2_f.cap), (Value.slice p0_3_f.a p0_3_f.len p0_3_f.cap), (Value.slice p0_4_f.a p0_4_f.len p0_4_f.cap), (Value.slice p0_5_f.a p0_5_f.len p0_5_f.cap), (Value.slice p0_6_f.a p0_6_f.len p0_6_f.cap), (Value.slice p0_7_f.a p0_7_f.len p0_7_f.cap), (Value.slice p0_8_f.a p0_8_f.len p0_8_f.cap)])), (Value.int .i64 p1_p), (Value.int .i64 p2_value)]) h0 post :=
 sem_of_exec (g := f18_hint) mixed Tryd.func18 (bodyOf_eq (by kernel_rfl)) (by kernel_rfl) ((f18_eq p0_0_f p0_1_f p0_2_f p0_3_f p0_4_f p0_5_f p0_6_f p0_7_f p0_8_f p1_p p2_value h0 post).mpr hx)

/- (*latchgarth/fifo.Queue).Get -/
def f19_sem (p0_q : Option Addr) (p1_p : Int) (h0 : H) (post : Value → H → Prop) : Prop :=
 SemCall Go.Proofs.Tryd.prog 34 (List.toArray [(Value.pointer p0_q), (Value.int .i64 p1_p)]) h0 fun v1 h2 =>
 ∃ x3 : Option (TypeId × Value), v1 = (errV x3) ∧
 isIfaceV (errV x3) = true ∧
 VIf (!(isNilV (errV x3))) (
 VRet h2 (errV x3) post) (
 ∃ a4 : Addr, p0_q = some a4 ∧
 ∃ x5 : SV, H.rd h2 (Addr.add (Addr.add a4 83) 0) (Value.slice x5.a x5.len x5.cap) ∧
 ∃ b6 : Addr, x5.a = some b6 ∧ 0 ≤ p1_p ∧ p1_p < ((x5.len : Nat) : Int) ∧
 ([(Value.int .i64 (6 : Int)), (Value.int .i64 0), (Value.int .i64 0), (Value.int .i64 0), (Value.int .i64 0)]).length = 5 ∧ (Program.underlying Go.Proofs.Tryd.prog 82).isSome = true ∧
 H.wr h2 (Addr.add b6 ((p1_p).toNat * 5)) ([(Value.int .i64 (6 : Int)), (Value.int .i64 0), (Value.int .i64 0), (Value.int .i64 0), (Value.int .i64 0)]) fun h7 =>
 VRet h7 Value.nilIface post)

def f19_hint : Hint := .leaf

theorem f19_eq (p0_q : Option Addr) (p1_p : Int) (h0 : H) (post : Value → H → Prop) : exec Tryd.prog (bodyOf Tryd.f19) f19_hint (retQ Tryd.prog Tryd.f19 post) (F0 [(Value.pointer p0_q), (Value.int .i64 p1_p)]) h0 = f19_sem p0_q p1_p h0 post := by kernel_rfl

set_option maxRecDepth 20000 in
theorem f19_call (p0_q : Option Addr) (p1_p : Int) (h0 : H) (post : Value → H → Prop) (hx : f19_sem p0_q p1_p h0 post) : SemCall Tryd.prog 19 (List.toArray [(Value.pointer p0_q), (Value.int .i64 p1_p)]) h0 post :=
 sem_of_exec (g := f19_hint) mixed Tryd.func19 (bodyOf_eq (by kernel_rfl)) (by kernel_rfl) ((f19_eq p0_q p1_p h0 post).mpr hx)

/- (*latchgarth/fifo.Queue).Step -/
def f21_J1 (p1_p : Int) (post : Value → H → Prop) (b8 : Addr) (x10 : Int) (R13 : Int → H → Prop) (x83 : Bool) (h84 : H) : Prop :=
 VIf x83 (
 ∃ a85 : Addr, (some (Addr.add b8 ((p1_p).toNat * 5))) = some a85 ∧
 ([(Value.int .i64 0), (Value.int .i64 0), (Value.int .i64 0), (Value.int .i64 0), (Value.int .i64 0)]).length = 5 ∧ (Program.underlying Go.Proofs.Tryd.prog 82).isSome = true ∧
 H.wr h84 a85 ([(Value.int .i64 0), (Value.int .i64 0), (Value.int .i64 0), (Value.int .i64 0), (Value.int .i64 0)]) fun h86 =>
 VRet h86 (Value.tuple (List.toArray [(Value.bool true), (Value.int .i64 (-1 : Int)), Value.nilIface])) post) (
 ∃ a87 : Addr, (some (Addr.add b8 ((p1_p).toNat * 5))) = some a87 ∧
 ∃ x88 : Int, H.rd h84 (Addr.add (Addr.add a87 2) 0) (Value.int .i64 x88) ∧
 ∃ a89 : Addr, (some (Addr.add b8 ((p1_p).toNat * 5))) = some a89 ∧
 ∃ x90 : Int, H.rd h84 (Addr.add (Addr.add a89 3) 0) (Value.int .i64 x90) ∧
 VIf (x88 != x90) (
 (∃ h91, Gh h84 h91 ∧ R13 (10 : Int) h91)) (
 (∃ h92, Gh h84 h92 ∧ R13 (x10 + (1 : Int)) h92)))

def f21_sem (p0_q : Option Addr) (p1_p : Int) (h0 : H) (post : Value → H → Prop) : Prop :=
 ∃ a1 : Addr, p0_q = some a1 ∧
 ∃ x2 : SV, H.rd h0 (Addr.add (Addr.add a1 83) 0) (Value.slice x2.a x2.len x2.cap) ∧
 In64 (((x2.len : Nat) : Int) - (1 : Int)) ∧
 SemCall Go.Proofs.Tryd.prog 26 (List.toArray [(Value.int .i64 p1_p), (Value.int .i64 0), (Value.int .i64 (((x2.len : Nat) : Int) - (1 : Int)))]) h0 fun v3 h4 =>
 ∃ x5 : Bool, v3 = (Value.bool x5) ∧
 VIf (!x5) (
 VRet h4 (Value.tuple (List.toArray [(Value.bool false), (Value.int .i64 0), (Value.iface 65 (Value.int .i64 (1 : Int)))])) post) (
 ∃ a6 : Addr, p0_q = some a6 ∧
 ∃ x7 : SV, H.rd h4 (Addr.add (Addr.add a6 83) 0) (Value.slice x7.a x7.len x7.cap) ∧
 ∃ b8 : Addr, x7.a = some b8 ∧ 0 ≤ p1_p ∧ p1_p < ((x7.len : Nat) : Int) ∧
 ∃ a9 : Addr, (some (Addr.add b8 ((p1_p).toNat * 5))) = some a9 ∧
 ∃ x10 : Int, H.rd h4 (Addr.add (Addr.add a9 0) 0) (Value.int .i64 x10) ∧
 In64 (x10 + (1 : Int)) ∧
 ∃ a11 : Addr, (some (Addr.add b8 ((p1_p).toNat * 5))) = some a11 ∧
 ∃ x12 : Int, H.rd h4 (Addr.add (Addr.add a11 0) 0) (Value.int .i64 x12) ∧
 VIf (x12 == (0 : Int)) (
 VRet h4 (Value.tuple (List.toArray [(Value.bool false), (Value.int .i64 0), (Value.iface 65 (Value.int .i64 (7 : Int)))])) post) (
 ∃ R13 : Int → H → Prop, (
 VIf (x12 == (1 : Int)) (
 ∃ a14 : Addr, p0_q = some a14 ∧
 ∃ x15 : Int, H.rd h4 (Addr.add (Addr.add a14 1) 0) (Value.int .i64 x15) ∧
 ∃ a16 : Addr, (some (Addr.add b8 ((p1_p).toNat * 5))) = some a16 ∧
 H.wr h4 (Addr.add a16 3) ([(Value.int .i64 x15)]) fun h17 =>
 (∃ h18, Gh h17 h18 ∧ R13 (x10 + (1 : Int)) h18)) (
 VIf (x12 == (2 : Int)) (
 ∃ a19 : Addr, (some (Addr.add b8 ((p1_p).toNat * 5))) = some a19 ∧
 ∃ x20 : Int, H.rd h4 (Addr.add (Addr.add a19 3) 0) (Value.int .i64 x20) ∧
 ∃ a21 : Addr, p0_q = some a21 ∧
 0 ≤ x20 ∧ x20 < ((40 : Nat) : Int) ∧
 ∃ x22 : Int, H.rd h4 (Addr.add (Addr.add (Addr.add a21 2) ((x20).toNat * 1)) 0) (Value.int .i64 x22) ∧
 ∃ a23 : Addr, (some (Addr.add b8 ((p1_p).toNat * 5))) = some a23 ∧
 H.wr h4 (Addr.add a23 4) ([(Value.int .i64 x22)]) fun h24 =>
 ∃ a25 : Addr, (some (Addr.add b8 ((p1_p).toNat * 5))) = some a25 ∧
 ∃ x26 : Int, H.rd h24 (Addr.add (Addr.add a25 4) 0) (Value.int .i64 x26) ∧
 VIf (decide (x26 ≥ (0 : Int))) (
 (∃ h27, Gh h24 h27 ∧ R13 (4 : Int) h27)) (
 (∃ h28, Gh h24 h28 ∧ R13 (x10 + (1 : Int)) h28))) (
 VIf (x12 == (3 : Int)) (
 ∃ a29 : Addr, (some (Addr.add b8 ((p1_p).toNat * 5))) = some a29 ∧
 ∃ x30 : Int, H.rd h4 (Addr.add (Addr.add a29 3) 0) (Value.int .i64 x30) ∧
 ∃ a31 : Addr, p0_q = some a31 ∧
 0 ≤ x30 ∧ x30 < ((40 : Nat) : Int) ∧
 ∃ a32 : Addr, (some (Addr.add b8 ((p1_p).toNat * 5))) = some a32 ∧
 ∃ x33 : Int, H.rd h4 (Addr.add (Addr.add a32 1) 0) (Value.int .i64 x33) ∧
 SemCall Go.Proofs.Tryd.prog 37 (List.toArray [(Value.pointer (some (Addr.add (Addr.add a31 2) ((x30).toNat * 1)))), (Value.int .i64 (-1 : Int)), (Value.int .i64 x33)]) h4 fun v34 h35 =>
 ∃ x36 : Bool, v34 = (Value.bool x36) ∧
 VIf x36 (
 (∃ h37, Gh h35 h37 ∧ R13 (5 : Int) h37)) (
 (∃ h38, Gh h35 h38 ∧ R13 (1 : Int) h38))) (
 VIf (x12 == (4 : Int)) (
 ∃ a39 : Addr, p0_q = some a39 ∧
 ∃ a40 : Addr, (some (Addr.add b8 ((p1_p).toNat * 5))) = some a40 ∧
 ∃ x41 : Int, H.rd h4 (Addr.add (Addr.add a40 3) 0) (Value.int .i64 x41) ∧
 ∃ a42 : Addr, (some (Addr.add b8 ((p1_p).toNat * 5))) = some a42 ∧
 ∃ x43 : Int, H.rd h4 (Addr.add (Addr.add a42 4) 0) (Value.int .i64 x43) ∧
 SemCall Go.Proofs.Tryd.prog 37 (List.toArray [(Value.pointer (some (Addr.add a39 1))), (Value.int .i64 x41), (Value.int .i64 x43)]) h4 fun v44 h45 =>
 ∃ x46 : Bool, v44 = (Value.bool x46) ∧
 (∃ h47, Gh h45 h47 ∧ R13 (1 : Int) h47)) (
 VIf (x12 == (5 : Int)) (
 ∃ a48 : Addr, p0_q = some a48 ∧
 ∃ a49 : Addr, (some (Addr.add b8 ((p1_p).toNat * 5))) = some a49 ∧
 ∃ x50 : Int, H.rd h4 (Addr.add (Addr.add a49 3) 0) (Value.int .i64 x50) ∧
 ∃ a51 : Addr, (some (Addr.add b8 ((p1_p).toNat * 5))) = some a51 ∧
 ∃ x52 : Int, H.rd h4 (Addr.add (Addr.add a51 1) 0) (Value.int .i64 x52) ∧
 SemCall Go.Proofs.Tryd.prog 37 (List.toArray [(Value.pointer (some (Addr.add a48 1))), (Value.int .i64 x50), (Value.int .i64 x52)]) h4 fun v53 h54 =>
 ∃ x55 : Bool, v53 = (Value.bool x55) ∧
 ∃ a56 : Addr, (some (Addr.add b8 ((p1_p).toNat * 5))) = some a56 ∧
 ([(Value.int .i64 0), (Value.int .i64 0), (Value.int .i64 0), (Value.int .i64 0), (Value.int .i64 0)]).length = 5 ∧ (Program.underlying Go.Proofs.Tryd.prog 82).isSome = true ∧
 H.wr h54 a56 ([(Value.int .i64 0), (Value.int .i64 0), (Value.int .i64 0), (Value.int .i64 0), (Value.int .i64 0)]) fun h57 =>
 VRet h57 (Value.tuple (List.toArray [(Value.bool true), (Value.int .i64 (-1 : Int)), Value.nilIface])) post) (
 VIf (x12 == (6 : Int)) (
 ∃ a58 : Addr, p0_q = some a58 ∧
 ∃ x59 : Int, H.rd h4 (Addr.add (Addr.add a58 0) 0) (Value.int .i64 x59) ∧
 ∃ a60 : Addr, (some (Addr.add b8 ((p1_p).toNat * 5))) = some a60 ∧
 H.wr h4 (Addr.add a60 2) ([(Value.int .i64 x59)]) fun h61 =>
 (∃ h62, Gh h61 h62 ∧ R13 (x10 + (1 : Int)) h62)) (
 VIf (x12 == (7 : Int)) (
 ∃ a63 : Addr, p0_q = some a63 ∧
 ∃ x64 : Int, H.rd h4 (Addr.add (Addr.add a63 1) 0) (Value.int .i64 x64) ∧
 ∃ a65 : Addr, (some (Addr.add b8 ((p1_p).toNat * 5))) = some a65 ∧
 H.wr h4 (Addr.add a65 3) ([(Value.int .i64 x64)]) fun h66 =>
 (∃ h67, Gh h66 h67 ∧ R13 (x10 + (1 : Int)) h67)) (
 VIf (x12 == (8 : Int)) (
 ∃ a68 : Addr, (some (Addr.add b8 ((p1_p).toNat * 5))) = some a68 ∧
 ∃ x69 : Int, H.rd h4 (Addr.add (Addr.add a68 2) 0) (Value.int .i64 x69) ∧
 ∃ a70 : Addr, p0_q = some a70 ∧
 0 ≤ x69 ∧ x69 < ((40 : Nat) : Int) ∧
 ∃ x71 : Int, H.rd h4 (Addr.add (Addr.add (Addr.add a70 2) ((x69).toNat * 1)) 0) (Value.int .i64 x71) ∧
 ∃ a72 : Addr, (some (Addr.add b8 ((p1_p).toNat * 5))) = some a72 ∧
 H.wr h4 (Addr.add a72 4) ([(Value.int .i64 x71)]) fun h73 =>
 ∃ R74 : Bool → H → Prop, (
 ∃ a75 : Addr, (some (Addr.add b8 ((p1_p).toNat * 5))) = some a75 ∧
 ∃ x76 : Int, H.rd h73 (Addr.add (Addr.add a75 2) 0) (Value.int .i64 x76) ∧
 ∃ a77 : Addr, (some (Addr.add b8 ((p1_p).toNat * 5))) = some a77 ∧
 ∃ x78 : Int, H.rd h73 (Addr.add (Addr.add a77 3) 0) (Value.int .i64 x78) ∧
 VIf (x76 == x78) (
 ∃ a79 : Addr, (some (Addr.add b8 ((p1_p).toNat * 5))) = some a79 ∧
 ∃ x80 : Int, H.rd h73 (Addr.add (Addr.add a79 4) 0) (Value.int .i64 x80) ∧
 (∃ h81, Gh h73 h81 ∧ R74 (decide (x80 < (0 : Int))) h81)) (
 (∃ h82, Gh h73 h82 ∧ R74 false h82))) ∧
 ∀ (_ : F) (x83 : Bool) (h84 : H), R74 x83 h84 →
 f21_J1 p1_p post b8 x10 R13 x83 h84) (
 VIf (x12 == (9 : Int)) (
 ∃ a93 : Addr, p0_q = some a93 ∧
 ∃ a94 : Addr, (some (Addr.add b8 ((p1_p).toNat * 5))) = some a94 ∧
 ∃ x95 : Int, H.rd h4 (Addr.add (Addr.add a94 3) 0) (Value.int .i64 x95) ∧
 ∃ a96 : Addr, (some (Addr.add b8 ((p1_p).toNat * 5))) = some a96 ∧
 ∃ x97 : Int, H.rd h4 (Addr.add (Addr.add a96 4) 0) (Value.int .i64 x97) ∧
 SemCall Go.Proofs.Tryd.prog 37 (List.toArray [(Value.pointer (some (Addr.add a93 1))), (Value.int .i64 x95), (Value.int .i64 x97)]) h4 fun v98 h99 =>
 ∃ x100 : Bool, v98 = (Value.bool x100) ∧
 (∃ h101, Gh h99 h101 ∧ R13 (6 : Int) h101)) (
 VIf (x12 == (10 : Int)) (
 ∃ a102 : Addr, p0_q = some a102 ∧
 ∃ a103 : Addr, (some (Addr.add b8 ((p1_p).toNat * 5))) = some a103 ∧
 ∃ x104 : Int, H.rd h4 (Addr.add (Addr.add a103 2) 0) (Value.int .i64 x104) ∧
 ∃ a105 : Addr, (some (Addr.add b8 ((p1_p).toNat * 5))) = some a105 ∧
 ∃ x106 : Int, H.rd h4 (Addr.add (Addr.add a105 4) 0) (Value.int .i64 x106) ∧
 SemCall Go.Proofs.Tryd.prog 37 (List.toArray [(Value.pointer (some (Addr.add a102 0))), (Value.int .i64 x104), (Value.int .i64 x106)]) h4 fun v107 h108 =>
 ∃ x109 : Bool, v107 = (Value.bool x109) ∧
 VIf x109 (
 ∃ a110 : Addr, (some (Addr.add b8 ((p1_p).toNat * 5))) = some a110 ∧
 ∃ x111 : Int, H.rd h108 (Addr.add (Addr.add a110 4) 0) (Value.int .i64 x111) ∧
 ∃ a112 : Addr, p0_q = some a112 ∧
 0 ≤ x111 ∧ x111 < ((40 : Nat) : Int) ∧
 ∃ x113 : Int, H.rd h108 (Addr.add (Addr.add (Addr.add a112 42) ((x111).toNat * 1)) 0) (Value.int .i64 x113) ∧
 ∃ a114 : Addr, (some (Addr.add b8 ((p1_p).toNat * 5))) = some a114 ∧
 ([(Value.int .i64 0), (Value.int .i64 0), (Value.int .i64 0), (Value.int .i64 0), (Value.int .i64 0)]).length = 5 ∧ (Program.underlying Go.Proofs.Tryd.prog 82).isSome = true ∧
 H.wr h108 a114 ([(Value.int .i64 0), (Value.int .i64 0), (Value.int .i64 0), (Value.int .i64 0), (Value.int .i64 0)]) fun h115 =>
 VRet h115 (Value.tuple (List.toArray [(Value.bool true), (Value.int .i64 x113), Value.nilIface])) post) (
 (∃ h116, Gh h108 h116 ∧ R13 (6 : Int) h116))) (
 (∃ h117, Gh h4 h117 ∧ R13 (x10 + (1 : Int)) h117)))))))))))) ∧
 ∀ (_ : F) (x118_next : Int) (h119 : H), R13 x118_next h119 →
 ∃ a120 : Addr, (some (Addr.add b8 ((p1_p).toNat * 5))) = some a120 ∧
 H.wr h119 (Addr.add a120 0) ([(Value.int .i64 x118_next)]) fun h121 =>
 VRet h121 (Value.tuple (List.toArray [(Value.bool false), (Value.int .i64 0), Value.nilIface])) post))

def f21_hint : Hint := (.node .leaf (.node .leaf (.node .leaf (.node .leaf (.node (.node .leaf (.node (.node .leaf (.node .leaf (.node .leaf (.join [(8, .int)] (.node .leaf (.node .leaf (.node (.node (.tail 12) .leaf) (.node .leaf (.node (.node .leaf (.node (.tail 12) .leaf)) (.node .leaf (.node (.node (.tail 11) .leaf) (.node .leaf (.node (.node (.tail 11) .leaf) (.node .leaf (.node .leaf (.node .leaf (.node .leaf (.node .leaf (.node (.node (.tail 12) (.node (.node (.join [(159, .bool)] .leaf) .leaf) .leaf)) (.node .leaf (.node (.node (.tail 11) .leaf) (.node .leaf (.node (.node (.node (.tail 11) .leaf) .leaf) .leaf))))))))))))))))))))))) .leaf)) .leaf)))))

theorem f21_eq (p0_q : Option Addr) (p1_p : Int) (h0 : H) (post : Value → H → Prop) : exec Tryd.prog (bodyOf Tryd.f21) f21_hint (retQ Tryd.prog Tryd.f21 post) (F0 [(Value.pointer p0_q), (Value.int .i64 p1_p)]) h0 = f21_sem p0_q p1_p h0 post := by kernel_rfl

set_option maxRecDepth 20000 in
theorem f21_call (p0_q : Option Addr) (p1_p : Int) (h0 : H) (post : Value → H → Prop) (hx : f21_sem p0_q p1_p h0 post) : SemCall Tryd.prog 21 (List.toArray [(Value.pointer p0_q), (Value.int .i64 p1_p)]) h0 post :=
 sem_of_exec (g := f21_hint) mixed Tryd.func21 (bodyOf_eq (by kernel_rfl)) (by kernel_rfl) ((f21_eq p0_q p1_p h0 post).mpr hx)

/- (*latchgarth/fifo.Queue).Ends -/
def f22_sem (p0_q : Option Addr) (h0 : H) (post : Value → H → Prop) : Prop :=
 ∃ a1 : Addr, p0_q = some a1 ∧
 ∃ x2 : Int, H.rd h0 (Addr.add (Addr.add a1 0) 0) (Value.int .i64 x2) ∧
 ∃ a3 : Addr, p0_q = some a3 ∧
 ∃ x4 : Int, H.rd h0 (Addr.add (Addr.add a3 1) 0) (Value.int .i64 x4) ∧
 VRet h0 (Value.tuple (List.toArray [(Value.int .i64 x2), (Value.int .i64 x4)])) post

def f22_hint : Hint := .leaf

theorem f22_eq (p0_q : Option Addr) (h0 : H) (post : Value → H → Prop) : exec Tryd.prog (bodyOf Tryd.f22) f22_hint (retQ Tryd.prog Tryd.f22 post) (F0 [(Value.pointer p0_q)]) h0 = f22_sem p0_q h0 post := by kernel_rfl

set_option maxRecDepth 20000 in
theorem f22_call (p0_q : Option Addr) (h0 : H) (post : Value → H → Prop) (hx : f22_sem p0_q h0 post) : SemCall Tryd.prog 22 (List.toArray [(Value.pointer p0_q)]) h0 post :=
 sem_of_exec (g := f22_hint) mixed Tryd.func22 (bodyOf_eq (by kernel_rfl)) (by kernel_rfl) ((f22_eq p0_q h0 post).mpr hx)

/- (*latchgarth/fifo.Queue).At -/
def f23_sem (p0_q : Option Addr) (p1_p : Int) (h0 : H) (post : Value → H → Prop) : Prop :=
 ∃ a1 : Addr, p0_q = some a1 ∧
 ∃ x2 : SV, H.rd h0 (Addr.add (Addr.add a1 83) 0) (Value.slice x2.a x2.len x2.cap) ∧
 In64 (((x2.len : Nat) : Int) - (1 : Int)) ∧
 SemCall Go.Proofs.Tryd.prog 26 (List.toArray [(Value.int .i64 p1_p), (Value.int .i64 0), (Value.int .i64 (((x2.len : Nat) : Int) - (1 : Int)))]) h0 fun v3 h4 =>
 ∃ x5 : Bool, v3 = (Value.bool x5) ∧
 VIf (!x5) (
 VRet h4 (Value.int .i64 0) post) (
 ∃ a6 : Addr, p0_q = some a6 ∧
 ∃ x7 : SV, H.rd h4 (Addr.add (Addr.add a6 83) 0) (Value.slice x7.a x7.len x7.cap) ∧
 ∃ b8 : Addr, x7.a = some b8 ∧ 0 ≤ p1_p ∧ p1_p < ((x7.len : Nat) : Int) ∧
 ∃ x9 : Int, H.rd h4 (Addr.add (Addr.add (Addr.add b8 ((p1_p).toNat * 5)) 0) 0) (Value.int .i64 x9) ∧
 VRet h4 (Value.int .i64 x9) post)

def f23_hint : Hint := .leaf

theorem f23_eq (p0_q : Option Addr) (p1_p : Int) (h0 : H) (post : Value → H → Prop) : exec Tryd.prog (bodyOf Tryd.f23) f23_hint (retQ Tryd.prog Tryd.f23 post) (F0 [(Value.pointer p0_q), (Value.int .i64 p1_p)]) h0 = f23_sem p0_q p1_p h0 post := by kernel_rfl

set_option maxRecDepth 20000 in
theorem f23_call (p0_q : Option Addr) (p1_p : Int) (h0 : H) (post : Value → H → Prop) (hx : f23_sem p0_q p1_p h0 post) : SemCall Tryd.prog 23 (List.toArray [(Value.pointer p0_q), (Value.int .i64 p1_p)]) h0 post :=
 sem_of_exec (g := f23_hint) mixed Tryd.func23 (bodyOf_eq (by kernel_rfl)) (by kernel_rfl) ((f23_eq p0_q p1_p h0 post).mpr hx)

/- latchgarth/core.Hands -/
def f24_sem (p0_n : Int) (h0 : H) (post : Value → H → Prop) : Prop :=
 SemCall Go.Proofs.Tryd.prog 26 (List.toArray [(Value.int .i64 p0_n), (Value.int .i64 (1 : Int)), (Value.int .i64 (4 : Int))]) h0 fun v1 h2 =>
 ∃ x3 : Bool, v1 = (Value.bool x3) ∧
 VIf (!x3) (
 VRet h2 (Value.iface 65 (Value.int .i64 (1 : Int))) post) (
 VRet h2 Value.nilIface post)

def f24_hint : Hint := .leaf

theorem f24_eq (p0_n : Int) (h0 : H) (post : Value → H → Prop) : exec Tryd.prog (bodyOf Tryd.f24) f24_hint (retQ Tryd.prog Tryd.f24 post) (F0 [(Value.int .i64 p0_n)]) h0 = f24_sem p0_n h0 post := by kernel_rfl

set_option maxRecDepth 20000 in
theorem f24_call (p0_n : Int) (h0 : H) (post : Value → H → Prop) (hx : f24_sem p0_n h0 post) : SemCall Tryd.prog 24 (List.toArray [(Value.int .i64 p0_n)]) h0 post :=
 sem_of_exec (g := f24_hint) mixed Tryd.func24 (bodyOf_eq (by kernel_rfl)) (by kernel_rfl) ((f24_eq p0_n h0 post).mpr hx)

/- latchgarth/plain.Told -/
def f25_sem (p0_err : Option (TypeId × Value)) (h0 : H) (post : Value → H → Prop) : Prop :=
 isIfaceV (errV p0_err) = true ∧
 VIf (isNilV (errV p0_err)) (
 VRet h0 (Value.int .i64 0) post) (
 H.new h0 [(Value.int .i64 0)] fun r1 h2 =>
 SemCall Go.Proofs.Tryd.prog 38 (List.toArray [(errV p0_err), (Value.iface 89 (Value.pointer (some (Addr.mk r1 0 none))))]) h2 fun v3 h4 =>
 ∃ x5 : Bool, v3 = (Value.bool x5) ∧
 VIf x5 (
 ∃ x6 : Int, H.rd h4 (Addr.add (Addr.mk r1 0 none) 0) (Value.int .i64 x6) ∧
 VRet h4 (Value.int .i64 x6) post) (
 VRet h4 (Value.int .i64 (-1 : Int)) post))

def f25_hint : Hint := .leaf

theorem f25_eq (p0_err : Option (TypeId × Value)) (h0 : H) (post : Value → H → Prop) : exec Tryd.prog (bodyOf Tryd.f25) f25_hint (retQ Tryd.prog Tryd.f25 post) (F0 [(errV p0_err)]) h0 = f25_sem p0_err h0 post := by kernel_rfl

set_option maxRecDepth 20000 in
theorem f25_call (p0_err : Option (TypeId × Value)) (h0 : H) (post : Value → H → Prop) (hx : f25_sem p0_err h0 post) : SemCall Tryd.prog 25 (List.toArray [(errV p0_err)]) h0 post :=
 sem_of_exec (g := f25_hint) mixed Tryd.func25 (bodyOf_eq (by kernel_rfl)) (by kernel_rfl) ((f25_eq p0_err h0 post).mpr hx)

/- latchgarth/core.Within -/
def f26_sem (p0_n : Int) (p1_low : Int) (p2_high : Int) (h0 : H) (post : Value → H → Prop) : Prop :=
 ∃ R1 : Bool → H → Prop, (
 VIf (decide (p0_n ≥ p1_low)) (
 (∃ h2, Gh h0 h2 ∧ R1 (decide (p0_n ≤ p2_high)) h2)) (
 (∃ h3, Gh h0 h3 ∧ R1 false h3))) ∧
 ∀ (_ : F) (x4 : Bool) (h5 : H), R1 x4 h5 →
 VRet h5 (Value.bool x4) post

def f26_hint : Hint := (.node .leaf (.node (.join [(6, .bool)] .leaf) .leaf))

theorem f26_eq (p0_n : Int) (p1_low : Int) (p2_high : Int) (h0 : H) (post : Value → H → Prop) : exec Tryd.prog (bodyOf Tryd.f26) f26_hint (retQ Tryd.prog Tryd.f26 post) (F0 [(Value.int .i64 p0_n), (Value.int .i64 p1_low), (Value.int .i64 p2_high)]) h0 = f26_sem p0_n p1_low p2_high h0 post := by kernel_rfl

set_option maxRecDepth 20000 in
theorem f26_call (p0_n : Int) (p1_low : Int) (p2_high : Int) (h0 : H) (post : Value → H → Prop) (hx : f26_sem p0_n p1_low p2_high h0 post) : SemCall Tryd.prog 26 (List.toArray [(Value.int .i64 p0_n), (Value.int .i64 p1_low), (Value.int .i64 p2_high)]) h0 post :=
 sem_of_exec (g := f26_hint) mixed Tryd.func26 (bodyOf_eq (by kernel_rfl)) (by kernel_rfl) ((f26_eq p0_n p1_low p2_high h0 post).mpr hx)

/- (*latchgarth/stack.Stack).free -/
def f27_sem (p0_s : Option Addr) (p1_p : Int) (h0 : H) (post : Value → H → Prop) : Prop :=
 ∃ a1 : Addr, p0_s = some a1 ∧
 ∃ x2 : SV, H.rd h0 (Addr.add (Addr.add a1 15) 0) (Value.slice x2.a x2.len x2.cap) ∧
 In64 (((x2.len : Nat) : Int) - (1 : Int)) ∧
 SemCall Go.Proofs.Tryd.prog 26 (List.toArray [(Value.int .i64 p1_p), (Value.int .i64 0), (Value.int .i64 (((x2.len : Nat) : Int) - (1 : Int)))]) h0 fun v3 h4 =>
 ∃ x5 : Bool, v3 = (Value.bool x5) ∧
 VIf (!x5) (
 VRet h4 (Value.iface 65 (Value.int .i64 (1 : Int))) post) (
 ∃ a6 : Addr, p0_s = some a6 ∧
 ∃ x7 : SV, H.rd h4 (Addr.add (Addr.add a6 15) 0) (Value.slice x7.a x7.len x7.cap) ∧
 ∃ b8 : Addr, x7.a = some b8 ∧ 0 ≤ p1_p ∧ p1_p < ((x7.len : Nat) : Int) ∧
 ∃ x9 : Int, H.rd h4 (Addr.add (Addr.add (Addr.add b8 ((p1_p).toNat * 5)) 0) 0) (Value.int .i64 x9) ∧
 VIf (x9 != (0 : Int)) (
 VRet h4 (Value.iface 65 (Value.int .i64 (7 : Int))) post) (
 VRet h4 Value.nilIface post))

def f27_hint : Hint := .leaf

theorem f27_eq (p0_s : Option Addr) (p1_p : Int) (h0 : H) (post : Value → H → Prop) : exec Tryd.prog (bodyOf Tryd.f27) f27_hint (retQ Tryd.prog Tryd.f27 post) (F0 [(Value.pointer p0_s), (Value.int .i64 p1_p)]) h0 = f27_sem p0_s p1_p h0 post := by kernel_rfl

set_option maxRecDepth 20000 in
theorem f27_call (p0_s : Option Addr) (p1_p : Int) (h0 : H) (post : Value → H → Prop) (hx : f27_sem p0_s p1_p h0 post) : SemCall Tryd.prog 27 (List.toArray [(Value.pointer p0_s), (Value.int .i64 p1_p)]) h0 post :=
 sem_of_exec (g := f27_hint) mixed Tryd.func27 (bodyOf_eq (by kernel_rfl)) (by kernel_rfl) ((f27_eq p0_s p1_p h0 post).mpr hx)

/- latchgarth/latchgarthref3.in -/
def f30_sem (p0_n : Int) (p1_low : Int) (p2_high : Int) (h0 : H) (post : Value → H → Prop) : Prop :=
 ∃ R1 : Bool → H → Prop, (
 VIf (decide (p0_n ≥ p1_low)) (
 (∃ h2, Gh h0 h2 ∧ R1 (decide (p0_n ≤ p2_high)) h2)) (
 (∃ h3, Gh h0 h3 ∧ R1 false h3))) ∧
 ∀ (_ : F) (x4 : Bool) (h5 : H), R1 x4 h5 →
 VRet h5 (Value.bool x4) post

def f30_hint : Hint := (.node .leaf (.node (.join [(6, .bool)] .leaf) .leaf))

theorem f30_eq (p0_n : Int) (p1_low : Int) (p2_high : Int) (h0 : H) (post : Value → H → Prop) : exec Tryd.prog (bodyOf Tryd.f30) f30_hint (retQ Tryd.prog Tryd.f30 post) (F0 [(Value.int .i64 p0_n), (Value.int .i64 p1_low), (Value.int .i64 p2_high)]) h0 = f30_sem p0_n p1_low p2_high h0 post := by kernel_rfl

set_option maxRecDepth 20000 in
theorem f30_call (p0_n : Int) (p1_low : Int) (p2_high : Int) (h0 : H) (post : Value → H → Prop) (hx : f30_sem p0_n p1_low p2_high h0 post) : SemCall Tryd.prog 30 (List.toArray [(Value.int .i64 p0_n), (Value.int .i64 p1_low), (Value.int .i64 p2_high)]) h0 post :=
 sem_of_exec (g := f30_hint) mixed Tryd.func30 (bodyOf_eq (by kernel_rfl)) (by kernel_rfl) ((f30_eq p0_n p1_low p2_high h0 post).mpr hx)

/- latchgarth/latchgarthref3.set -/
def f31_sem (p0_l : SV) (p1_i : Int) (p2_n : Int) (h0 : H) (post : Value → H → Prop) : Prop :=
 appVC Go.Proofs.Tryd.prog 29 (Value.slice none 0 0) (Value.slice p0_l.a p0_l.len p0_l.cap) h0 fun x1 h2 =>
 ∃ b3 : Addr, x1.a = some b3 ∧ 0 ≤ p1_i ∧ p1_i < ((x1.len : Nat) : Int) ∧
 H.wr h2 (Addr.add b3 ((p1_i).toNat * 1)) ([(Value.int .i64 p2_n)]) fun h4 =>
 VRet h4 (Value.slice x1.a x1.len x1.cap) post

def f31_hint : Hint := .leaf

theorem f31_eq (p0_l : SV) (p1_i : Int) (p2_n : Int) (h0 : H) (post : Value → H → Prop) : exec Tryd.prog (bodyOf Tryd.f31) f31_hint (retQ Tryd.prog Tryd.f31 post) (F0 [(Value.slice p0_l.a p0_l.len p0_l.cap), (Value.int .i64 p1_i), (Value.int .i64 p2_n)]) h0 = f31_sem p0_l p1_i p2_n h0 post := by kernel_rfl

set_option maxRecDepth 20000 in
theorem f31_call (p0_l : SV) (p1_i : Int) (p2_n : Int) (h0 : H) (post : Value → H → Prop) (hx : f31_sem p0_l p1_i p2_n h0 post) : SemCall Tryd.prog 31 (List.toArray [(Value.slice p0_l.a p0_l.len p0_l.cap), (Value.int .i64 p1_i), (Value.int .i64 p2_n)]) h0 post :=
 sem_of_exec (g := f31_hint) mixed Tryd.func31 (bodyOf_eq (by kernel_rfl)) (by kernel_rfl) ((f31_eq p0_l p1_i p2_n h0 post).mpr hx)

/- (*latchgarth/fifo.Queue).free -/
def f34_sem (p0_q : Option Addr) (p1_p : Int) (h0 : H) (post : Value → H → Prop) : Prop :=
 ∃ a1 : Addr, p0_q = some a1 ∧
 ∃ x2 : SV, H.rd h0 (Addr.add (Addr.add a1 83) 0) (Value.slice x2.a x2.len x2.cap) ∧
 In64 (((x2.len : Nat) : Int) - (1 : Int)) ∧
 SemCall Go.Proofs.Tryd.prog 26 (List.toArray [(Value.int .i64 p1_p), (Value.int .i64 0), (Value.int .i64 (((x2.len : Nat) : Int) - (1 : Int)))]) h0 fun v3 h4 =>
 ∃ x5 : Bool, v3 = (Value.bool x5) ∧
 VIf (!x5) (
 VRet h4 (Value.iface 65 (Value.int .i64 (1 : Int))) post) (
 ∃ a6 : Addr, p0_q = some a6 ∧
 ∃ x7 : SV, H.rd h4 (Addr.add (Addr.add a6 83) 0) (Value.slice x7.a x7.len x7.cap) ∧
 ∃ b8 : Addr, x7.a = some b8 ∧ 0 ≤ p1_p ∧ p1_p < ((x7.len : Nat) : Int) ∧
 ∃ x9 : Int, H.rd h4 (Addr.add (Addr.add (Addr.add b8 ((p1_p).toNat * 5)) 0) 0) (Value.int .i64 x9) ∧
 VIf (x9 != (0 : Int)) (
 VRet h4 (Value.iface 65 (Value.int .i64 (7 : Int))) post) (
 VRet h4 Value.nilIface post))

def f34_hint : Hint := .leaf

theorem f34_eq (p0_q : Option Addr) (p1_p : Int) (h0 : H) (post : Value → H → Prop) : exec Tryd.prog (bodyOf Tryd.f34) f34_hint (retQ Tryd.prog Tryd.f34 post) (F0 [(Value.pointer p0_q), (Value.int .i64 p1_p)]) h0 = f34_sem p0_q p1_p h0 post := by kernel_rfl

set_option maxRecDepth 20000 in
theorem f34_call (p0_q : Option Addr) (p1_p : Int) (h0 : H) (post : Value → H → Prop) (hx : f34_sem p0_q p1_p h0 post) : SemCall Tryd.prog 34 (List.toArray [(Value.pointer p0_q), (Value.int .i64 p1_p)]) h0 post :=
 sem_of_exec (g := f34_hint) mixed Tryd.func34 (bodyOf_eq (by kernel_rfl)) (by kernel_rfl) ((f34_eq p0_q p1_p h0 post).mpr hx)

/- latchgarth/latchgarthref3.more -/
def f35_sem (p0_l : SV) (p1_n : Int) (h0 : H) (post : Value → H → Prop) : Prop :=
 appVC Go.Proofs.Tryd.prog 29 (Value.slice none 0 0) (Value.slice p0_l.a p0_l.len p0_l.cap) h0 fun x1 h2 =>
 H.new h2 [(Value.int .i64 p1_n)] fun r3 h4 =>
 appVC Go.Proofs.Tryd.prog 29 (Value.slice x1.a x1.len x1.cap) (Value.slice (some (Addr.mk r3 0 none)) 1 1) h4 fun x5 h6 =>
 VRet h6 (Value.slice x5.a x5.len x5.cap) post

def f35_hint : Hint := .leaf

theorem f35_eq (p0_l : SV) (p1_n : Int) (h0 : H) (post : Value → H → Prop) : exec Tryd.prog (bodyOf Tryd.f35) f35_hint (retQ Tryd.prog Tryd.f35 post) (F0 [(Value.slice p0_l.a p0_l.len p0_l.cap), (Value.int .i64 p1_n)]) h0 = f35_sem p0_l p1_n h0 post := by kernel_rfl

set_option maxRecDepth 20000 in
theorem f35_call (p0_l : SV) (p1_n : Int) (h0 : H) (post : Value → H → Prop) (hx : f35_sem p0_l p1_n h0 post) : SemCall Tryd.prog 35 (List.toArray [(Value.slice p0_l.a p0_l.len p0_l.cap), (Value.int .i64 p1_n)]) h0 post :=
 sem_of_exec (g := f35_hint) mixed Tryd.func35 (bodyOf_eq (by kernel_rfl)) (by kernel_rfl) ((f35_eq p0_l p1_n h0 post).mpr hx)

/- (latchgarth/latchgarthref3.Fifo).at -/
def f36_sem (p0_0_f : Int) (p0_1_f : Int) (p0_2_f : SV) (p0_3_f : SV) (p0_4_f : SV) (p0_5_f : SV) (p0_6_f : SV) (p0_7_f : SV) (p0_8_f : SV) (p1_p : Int) (p2_line : Int) (h0 : H) (post : Value → H → Prop) : Prop :=
 H.new h0 [(Value.int .i64 p0_0_f), (Value.int .i64 p0_1_f), (Value.slice p0_2_f.a p0_2_f.len p0_2_f.cap), (Value.slice p0_3_f.a p0_3_f.len p0_3_f.cap), (Value.slice p0_4_f.a p0_4_f.len p0_4_f.cap), (Value.slice p0_5_f.a p0_5_f.len p0_5_f.cap), (Value.slice p0_6_f.a p0_6_f.len p0_6_f.cap), (Value.slice p0_7_f.a p0_7_f.len p0_7_f.cap), (Value.slice p0_8_f.a p0_8_f.len p0_8_f.cap)] fun r1 h2 =>
 H.new h2 [(Value.int .i64 0), (Value.int .i64 0), (Value.slice none 0 0), (Value.slice none 0 0), (Value.slice none 0 0), (Value.slice none 0 0), (Value.slice none 0 0), (Value.slice none 0 0), (Value.slice none 0 0)] fun r3 h4 =>
 ∃ x5 : SV, H.rd h4 (Addr.add (Addr.add (Addr.mk r1 0 none) 4) 0) (Value.slice x5.a x5.len x5.cap) ∧
 SemCall Go.Proofs.Tryd.prog 31 (List.toArray [(Value.slice x5.a x5.len x5.cap), (Value.int .i64 p1_p), (Value.int .i64 p2_line)]) h4 fun v6 h7 =>
 ∃ x8 : SV, v6 = (Value.slice x8.a x8.len x8.cap) ∧
 H.wr h7 (Addr.add (Addr.mk r1 0 none) 4) ([(Value.slice x8.a x8.len x8.cap)]) fun h9 =>
 ∃ x10 : Int, H.rd h9 (Addr.add (Addr.mk r1 0 none) 0) (Value.int .i64 x10) ∧
 ∃ x11 : Int, H.rd h9 (Addr.add (Addr.mk r1 0 none) 1) (Value.int .i64 x11) ∧
 ∃ x12 : SV, H.rd h9 (Addr.add (Addr.mk r1 0 none) 2) (Value.slice x12.a x12.len x12.cap) ∧
 ∃ x13 : SV, H.rd h9 (Addr.add (Addr.mk r1 0 none) 3) (Value.slice x13.a x13.len x13.cap) ∧
 ∃ x14 : SV, H.rd h9 (Addr.add (Addr.mk r1 0 none) 4) (Value.slice x14.a x14.len x14.cap) ∧
 ∃ x15 : SV, H.rd h9 (Addr.add (Addr.mk r1 0 none) 5) (Value.slice x15.a x15.len x15.cap) ∧
 ∃ x16 : SV, H.rd h9 (Addr.add (Addr.mk r1 0 none) 6) (Value.slice x16.a x16.len x16.cap) ∧
 ∃ x17 : SV, H.rd h9 (Addr.add (Addr.mk r1 0 none) 7) (Value.slice x17.a x17.len x17.cap) ∧
 ∃ x18 : SV, H.rd h9 (Addr.add (Addr.mk r1 0 none) 8) (Value.slice x18.a x18.len x18.cap) ∧
 ([(Value.int .i64 x10), (Value.int .i64 x11), (Value.slice x12.a x12.len x12.cap), (Value.slice x13.a x13.len x13.cap), (Value.slice x14.a x14.len x14.cap), (Value.slice x15.a x15.len x15.cap), (Value.slice x16.a x16.len x16.cap), (Value.slice x17.a x17.len x17.cap), (Value.slice x18.a x18.len x18.cap)]).length = 9 ∧ (Program.underlying Go.Proofs.Tryd.prog 50).isSome = true ∧
 H.wr h9 (Addr.mk r3 0 none) ([(Value.int .i64 x10), (Value.int .i64 x11), (Value.slice x12.a x12.len x12.cap), (Value.slice x13.a x13.len x13.cap), (Value.slice x14.a x14.len x14.cap), (Value.slice x15.a x15.len x15.cap), (Value.slice x16.a x16.len x16.cap), (Value.slice x17.a x17.len x17.cap), (Value.slice x18.a x18.len x18.cap)]) fun h19 =>
 ∃ x20 : Int, H.rd h19 (Addr.add (Addr.mk r3 0 none) 0) (Value.int .i64 x20) ∧
 ∃ x21 : Int, H.rd h19 (Addr.add (Addr.mk r3 0 none) 1) (Value.int .i64 x21) ∧
 ∃ x22 : SV, H.rd h19 (Addr.add (Addr.mk r3 0 none) 2) (Value.slice x22.a x22.len x22.cap) ∧
 ∃ x23 : SV, H.rd h19 (Addr.add (Addr.mk r3 0 none) 3) (Value.slice x23.a x23.len x23.cap) ∧
 ∃ x24 : SV, H.rd h19 (Addr.add (Addr.mk r3 0 none) 4) (Value.slice x24.a x24.len x24.cap) ∧
 ∃ x25 : SV, H.rd h19 (Addr.add (Addr.mk r3 0 none) 5) (Value.slice x25.a x25.len x25.cap) ∧
 ∃ x26 : SV, H.rd h19 (Addr.add (Addr.mk r3 0 none) 6) (Value.slice x26.a x26.len x26.cap) ∧
 ∃ x27 : SV, H.rd h19 (Addr.add (Addr.mk r3 0 none) 7) (Value.slice x27.a x27.len x27.cap) ∧
 ∃ x28 : SV, H.rd h19 (Addr.add (Addr.mk r3 0 none) 8) (Value.slice x28.a x28.len x28.cap) ∧
 VRet h19 (Value.agg (List.toArray [(Value.int .i64 x20), (Value.int .i64 x21), (Value.slice x22.a x22.len x22.cap), (Value.slice x23.a x23.len x23.cap), (Value.slice x24.a x24.len x24.cap), (Value.slice x25.a x25.len x25.cap), (Value.slice x26.a x26.len x26.cap), (Value.slice x27.a x27.len x27.cap), (Value.slice x28.a x28.len x28.cap)])) post

def f36_hint : Hint := .leaf

theorem f36_eq (p0_0_f : Int) (p0_1_f : Int) (p0_2_f : SV) (p0_3_f : SV) (p0_4_f : SV) (p0_5_f : SV) (p0_6_f : SV) (p0_7_f : SV) (p0_8_f : SV) (p1_p : Int) (p2_line : Int) (h0 : H) (post : Value → H → Prop) : exec Tryd.prog (bodyOf Tryd.f36) f36_hint (retQ Tryd.prog Tryd.f36 post) (F0 [(Value.agg (List.toArray [(Value.int .i64 p0_0_f), (Value.int .i64 p0_1_f), (Value.slice p0_2_f.a p0_2_f.len p0_2_f.cap), (Value.slice p0_3_f.a p0_3_f.len p0_3_f.cap), (Value.slice p0_4_f.a p0_4_f.len p0_4_f.cap), (Value.slice p0_5_f.a p0_5_f.len p0_5_f.cap), (Value.slice p0_6_f.a p0_6_f.len p0_6_f.cap), (Value.slice p0_7_f.a p0_7_f.len p0_7_f.cap), (Value.slice p0_8_f.a p0_8_f.len p0_8_f.cap)])), (Value.int .i64 p1_p), (Value.int .i64 p2_line)]) h0 = f36_sem p0_0_f p0_1_f p0_2_f p0_3_f p0_4_f p0_5_f p0_6_f p0_7_f p0_8_f p1_p p2_line h0 post := by kernel_rfl

set_option maxRecDepth 20000 in
theorem f36_call (p0_0_f : Int) (p0_1_f : Int) (p0_2_f : SV) (p0_3_f : SV) (p0_4_f : SV) (p0_5_f : SV) (p0_6_f : SV) (p0_7_f : SV) (p0_8_f : SV) (p1_p : Int) (p2_line : Int) (h0 : H) (post : Value → H → Prop) (hx : f36_sem p0_0_f p0_1_f p0_2_f p0_3_f p0_4_f p0_5_f p0_6_f p0_7_f p0_8_f p1_p p2_line h0 post) : SemCall Tryd.prog 36 (List.toArray [(Value.agg (List.toArray [(Value.int .i64 p0_0_f), (Value.int .i64 p0_1_f), (Value.slice p0_2_f.a p0_2_f.len p0_2_f.cap), (Value.slice p0_3_f.a p0_3_f.len p0_3_f.cap), (Value.slice p0_4_f.a p0_4_f.len p0_4_f.cap), (Value.slice p0_5_f.a p0_5_f.len p0_5_f.cap), (Value.slice p0_6_f.a p0_6_f.len p0_6_f.cap), (Value.slice p0_7_f.a p0_7_f.len p0_7_f.cap), (Value.slice p0_8_f.a p0_8_f.len p0_8_f.cap)])), (Value.int .i64 p1_p), (Value.int .i64 p2_line)]) h0 post :=
 sem_of_exec (g := f36_hint) mixed Tryd.func36 (bodyOf_eq (by kernel_rfl)) (by kernel_rfl) ((f36_eq p0_0_f p0_1_f p0_2_f p0_3_f p0_4_f p0_5_f p0_6_f p0_7_f p0_8_f p1_p p2_line h0 post).mpr hx)

/- latchgarth/core.Cas[int] -/
def f37_sem (p0_word : Option Addr) (p1_old : Int) (p2_new : Int) (h0 : H) (post : Value → H → Prop) : Prop :=
 ∃ a1 : Addr, p0_word = some a1 ∧
 ∃ x2 : Int, H.rd h0 (Addr.add a1 0) (Value.int .i64 x2) ∧
 VIf (x2 != p1_old) (
 VRet h0 (Value.bool false) post) (
 ∃ a3 : Addr, p0_word = some a3 ∧
 H.wr h0 a3 ([(Value.int .i64 p2_new)]) fun h4 =>
 VRet h4 (Value.bool true) post)

def f37_hint : Hint := .leaf

theorem f37_eq (p0_word : Option Addr) (p1_old : Int) (p2_new : Int) (h0 : H) (post : Value → H → Prop) : exec Tryd.prog (bodyOf Tryd.f37) f37_hint (retQ Tryd.prog Tryd.f37 post) (F0 [(Value.pointer p0_word), (Value.int .i64 p1_old), (Value.int .i64 p2_new)]) h0 = f37_sem p0_word p1_old p2_new h0 post := by kernel_rfl

set_option maxRecDepth 20000 in
theorem f37_call (p0_word : Option Addr) (p1_old : Int) (p2_new : Int) (h0 : H) (post : Value → H → Prop) (hx : f37_sem p0_word p1_old p2_new h0 post) : SemCall Tryd.prog 37 (List.toArray [(Value.pointer p0_word), (Value.int .i64 p1_old), (Value.int .i64 p2_new)]) h0 post :=
 sem_of_exec (g := f37_hint) mixed Tryd.func37 (bodyOf_eq (by kernel_rfl)) (by kernel_rfl) ((f37_eq p0_word p1_old p2_new h0 post).mpr hx)

end Go.Proofs.YtogbkgimpkaemaaDoor
