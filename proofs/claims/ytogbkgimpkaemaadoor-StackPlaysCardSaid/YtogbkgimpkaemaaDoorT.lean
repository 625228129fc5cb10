import Derived.Test.YtogbkgimpkaemaaDoorEngG
import Derived.Test.YtogbkgimpkaemaaDoorRows
namespace Go.Proofs.YtogbkgimpkaemaaDoor
open Go.Eng
theorem mixed : Tryd.prog.follows .mixedOrders = true := by kernel_rfl
/- latchgarth/latchgarthlaw3.StackPlays -/
def f3_L1 (p0_n : Int) (post : Value → H → Prop) (x3 : Option Addr) (r26 : Nat) (R225 : H → Prop) (I226 : Nat → Int → H → Prop) (n227 : Nat) (x230_q : Int) (h231 : H) : Prop :=
 VIf (decide (x230_q < p0_n)) (
 ∃ x232 : SV, H.rd h231 (Addr.add (Addr.add (Addr.mk r26 0 none) 6) 0) (Value.slice x232.a x232.len x232.cap) ∧
 ∃ b233 : Addr, x232.a = some b233 ∧ 0 ≤ x230_q ∧ x230_q < ((x232.len : Nat) : Int) ∧
 ∃ x234 : Int, H.rd h231 (Addr.add (Addr.add b233 ((x230_q).toNat * 1)) 0) (Value.int .i64 x234) ∧
 SemCall Go.Proofs.Tryd.prog 14 (List.toArray [(Value.pointer x3), (Value.int .i64 x230_q)]) h231 fun v235 h236 => OwnExt h231 h236 ∧
 ∃ x237 : Int, v235 = (Value.int .i64 x237) ∧
 VIf (x237 != x234) (
 VRet h236 (Value.bool false) post) (
 In64 (x230_q + (1 : Int)) ∧
 ∃ m228, m228 < n227 ∧ (∃ h238, Gh h236 h238 ∧ I226 m228 (x230_q + (1 : Int)) h238))) (
 (∃ h239, Gh h231 h239 ∧ R225 h239))

def f3_J2 (p0_n : Int) (post : Value → H → Prop) (x3 : Option Addr) (r26 : Nat) (R41 : H → Prop) (h213 : H) : Prop :=
 SemCall Go.Proofs.Tryd.prog 13 (List.toArray [(Value.pointer x3)]) h213 fun v214 h215 =>
 ∃ x216 : Int, ∃ x217 : Int, v214 = (Value.tuple (List.toArray [(Value.int .i64 x216), (Value.int .i64 x217)])) ∧
 ∃ R218 : Bool → H → Prop, (
 ∃ x219 : Int, H.rd h215 (Addr.add (Addr.add (Addr.mk r26 0 none) 1) 0) (Value.int .i64 x219) ∧
 VIf (x216 != x219) (
 (∃ h220, Gh h215 h220 ∧ R218 true h220)) (
 ∃ x221 : Int, H.rd h215 (Addr.add (Addr.add (Addr.mk r26 0 none) 2) 0) (Value.int .i64 x221) ∧
 (∃ h222, Gh h215 h222 ∧ R218 (x217 != x221) h222))) ∧
 ∀ (_ : F) (x223 : Bool) (h224 : H), R218 x223 h224 →
 VIf x223 (
 VRet h224 (Value.bool false) post) (
 ∃ R225 : H → Prop, (
 ∃ I226 : Nat → Int → H → Prop, (∃ n227, (∃ h229, Gh h224 h229 ∧ I226 n227 (0 : Int) h229)) ∧
 ∀ (n227 : Nat) (_ : F) (x230_q : Int) (h231 : H), I226 n227 x230_q h231 →
 f3_L1 p0_n post x3 r26 R225 I226 n227 x230_q h231) ∧
 ∀ (_ : F) (h240 : H), R225 h240 →
 (∃ h241, Gh h240 h241 ∧ R41 h241))

def f3_J3 (p0_n : Int) (post : Value → H → Prop) (x3 : Option Addr) (r26 : Nat) (R41 : H → Prop) (x43 : SV) (h149 : H) : Prop :=
 ∃ R150 : H → Prop, (
 VIf (((x43.len : Nat) : Int) == (1 : Int)) (
 ∃ b151 : Addr, x43.a = some b151 ∧ 0 ≤ (0 : Int) ∧ (0 : Int) < ((x43.len : Nat) : Int) ∧
 ∃ x152 : Bool, H.rd h149 (Addr.add (Addr.mk r26 0 none) 0) (Value.bool x152) ∧
 ∃ x153 : Int, H.rd h149 (Addr.add (Addr.mk r26 0 none) 1) (Value.int .i64 x153) ∧
 ∃ x154 : Int, H.rd h149 (Addr.add (Addr.mk r26 0 none) 2) (Value.int .i64 x154) ∧
 ∃ x155 : SV, H.rd h149 (Addr.add (Addr.mk r26 0 none) 3) (Value.slice x155.a x155.len x155.cap) ∧
 ∃ x156 : SV, H.rd h149 (Addr.add (Addr.mk r26 0 none) 4) (Value.slice x156.a x156.len x156.cap) ∧
 ∃ x157 : SV, H.rd h149 (Addr.add (Addr.mk r26 0 none) 5) (Value.slice x157.a x157.len x157.cap) ∧
 ∃ x158 : SV, H.rd h149 (Addr.add (Addr.mk r26 0 none) 6) (Value.slice x158.a x158.len x158.cap) ∧
 ∃ x159 : SV, H.rd h149 (Addr.add (Addr.mk r26 0 none) 7) (Value.slice x159.a x159.len x159.cap) ∧
 ∃ x160 : SV, H.rd h149 (Addr.add (Addr.mk r26 0 none) 8) (Value.slice x160.a x160.len x160.cap) ∧
 ∃ x161 : SV, H.rd h149 (Addr.add (Addr.mk r26 0 none) 9) (Value.slice x161.a x161.len x161.cap) ∧
 ∃ x162 : SV, H.rd h149 (Addr.add (Addr.mk r26 0 none) 10) (Value.slice x162.a x162.len x162.cap) ∧
 ∃ x163 : Int, H.rd h149 (Addr.add (Addr.add b151 (((0 : Int)).toNat * 1)) 0) (Value.int .i64 x163) ∧
 SemCall Go.Proofs.Tryd.prog 11 (List.toArray [(Value.agg (List.toArray [(Value.bool x152), (Value.int .i64 x153), (Value.int .i64 x154), (Value.slice x155.a x155.len x155.cap), (Value.slice x156.a x156.len x156.cap), (Value.slice x157.a x157.len x157.cap), (Value.slice x158.a x158.len x158.cap), (Value.slice x159.a x159.len x159.cap), (Value.slice x160.a x160.len x160.cap), (Value.slice x161.a x161.len x161.cap), (Value.slice x162.a x162.len x162.cap)])), (Value.int .i64 x163)]) h149 fun v164 h165 => OwnExt h149 h165 ∧
 ∃ x166 : Bool, ∃ x167 : Int, ∃ x168 : Int, ∃ x169 : SV, ∃ x170 : SV, ∃ x171 : SV, ∃ x172 : SV, ∃ x173 : SV, ∃ x174 : SV, ∃ x175 : SV, ∃ x176 : SV, ∃ x177 : Bool, ∃ x178 : Int, ∃ x179 : Int, v164 = (Value.tuple (List.toArray [(Value.agg (List.toArray [(Value.bool x166), (Value.int .i64 x167), (Value.int .i64 x168), (Value.slice x169.a x169.len x169.cap), (Value.slice x170.a x170.len x170.cap), (Value.slice x171.a x171.len x171.cap), (Value.slice x172.a x172.len x172.cap), (Value.slice x173.a x173.len x173.cap), (Value.slice x174.a x174.len x174.cap), (Value.slice x175.a x175.len x175.cap), (Value.slice x176.a x176.len x176.cap)])), (Value.bool x177), (Value.int .i64 x178), (Value.int .i64 x179)])) ∧
 H.new h165 [(Value.bool false), (Value.int .i64 0), (Value.int .i64 0), (Value.slice none 0 0), (Value.slice none 0 0), (Value.slice none 0 0), (Value.slice none 0 0), (Value.slice none 0 0), (Value.slice none 0 0), (Value.slice none 0 0), (Value.slice none 0 0)] fun r180 h181 =>
 ([(Value.bool x166), (Value.int .i64 x167), (Value.int .i64 x168), (Value.slice x169.a x169.len x169.cap), (Value.slice x170.a x170.len x170.cap), (Value.slice x171.a x171.len x171.cap), (Value.slice x172.a x172.len x172.cap), (Value.slice x173.a x173.len x173.cap), (Value.slice x174.a x174.len x174.cap), (Value.slice x175.a x175.len x175.cap), (Value.slice x176.a x176.len x176.cap)]).length = 11 ∧ (Program.underlying Go.Proofs.Tryd.prog 32).isSome = true ∧
 H.wr h181 (Addr.mk r180 0 none) ([(Value.bool x166), (Value.int .i64 x167), (Value.int .i64 x168), (Value.slice x169.a x169.len x169.cap), (Value.slice x170.a x170.len x170.cap), (Value.slice x171.a x171.len x171.cap), (Value.slice x172.a x172.len x172.cap), (Value.slice x173.a x173.len x173.cap), (Value.slice x174.a x174.len x174.cap), (Value.slice x175.a x175.len x175.cap), (Value.slice x176.a x176.len x176.cap)]) fun h182 =>
 ∃ x183 : Bool, H.rd h182 (Addr.add (Addr.mk r180 0 none) 0) (Value.bool x183) ∧
 ∃ x184 : Int, H.rd h182 (Addr.add (Addr.mk r180 0 none) 1) (Value.int .i64 x184) ∧
 ∃ x185 : Int, H.rd h182 (Addr.add (Addr.mk r180 0 none) 2) (Value.int .i64 x185) ∧
 ∃ x186 : SV, H.rd h182 (Addr.add (Addr.mk r180 0 none) 3) (Value.slice x186.a x186.len x186.cap) ∧
 ∃ x187 : SV, H.rd h182 (Addr.add (Addr.mk r180 0 none) 4) (Value.slice x187.a x187.len x187.cap) ∧
 ∃ x188 : SV, H.rd h182 (Addr.add (Addr.mk r180 0 none) 5) (Value.slice x188.a x188.len x188.cap) ∧
 ∃ x189 : SV, H.rd h182 (Addr.add (Addr.mk r180 0 none) 6) (Value.slice x189.a x189.len x189.cap) ∧
 ∃ x190 : SV, H.rd h182 (Addr.add (Addr.mk r180 0 none) 7) (Value.slice x190.a x190.len x190.cap) ∧
 ∃ x191 : SV, H.rd h182 (Addr.add (Addr.mk r180 0 none) 8) (Value.slice x191.a x191.len x191.cap) ∧
 ∃ x192 : SV, H.rd h182 (Addr.add (Addr.mk r180 0 none) 9) (Value.slice x192.a x192.len x192.cap) ∧
 ∃ x193 : SV, H.rd h182 (Addr.add (Addr.mk r180 0 none) 10) (Value.slice x193.a x193.len x193.cap) ∧
 ([(Value.bool x183), (Value.int .i64 x184), (Value.int .i64 x185), (Value.slice x186.a x186.len x186.cap), (Value.slice x187.a x187.len x187.cap), (Value.slice x188.a x188.len x188.cap), (Value.slice x189.a x189.len x189.cap), (Value.slice x190.a x190.len x190.cap), (Value.slice x191.a x191.len x191.cap), (Value.slice x192.a x192.len x192.cap), (Value.slice x193.a x193.len x193.cap)]).length = 11 ∧ (Program.underlying Go.Proofs.Tryd.prog 32).isSome = true ∧
 H.wr h182 (Addr.mk r26 0 none) ([(Value.bool x183), (Value.int .i64 x184), (Value.int .i64 x185), (Value.slice x186.a x186.len x186.cap), (Value.slice x187.a x187.len x187.cap), (Value.slice x188.a x188.len x188.cap), (Value.slice x189.a x189.len x189.cap), (Value.slice x190.a x190.len x190.cap), (Value.slice x191.a x191.len x191.cap), (Value.slice x192.a x192.len x192.cap), (Value.slice x193.a x193.len x193.cap)]) fun h194 =>
 ∃ b195 : Addr, x43.a = some b195 ∧ 0 ≤ (0 : Int) ∧ (0 : Int) < ((x43.len : Nat) : Int) ∧
 ∃ x196 : Int, H.rd h194 (Addr.add (Addr.add b195 (((0 : Int)).toNat * 1)) 0) (Value.int .i64 x196) ∧
 SemCall Go.Proofs.Tryd.prog 12 (List.toArray [(Value.pointer x3), (Value.int .i64 x196)]) h194 fun v197 h198 =>
 ∃ x199 : Bool, ∃ x200 : Int, ∃ x201 : Option (TypeId × Value), v197 = (Value.tuple (List.toArray [(Value.bool x199), (Value.int .i64 x200), (errV x201)])) ∧
 ∃ R202 : Bool → H → Prop, (
 SemCall Go.Proofs.Tryd.prog 6 (List.toArray [(errV x201), (Value.int .i64 x179)]) h198 fun v203 h204 =>
 ∃ x205 : Bool, v203 = (Value.bool x205) ∧
 VIf (!x205) (
 (∃ h206, Gh h204 h206 ∧ R202 true h206)) (
 VIf (!(x199 == x177)) (
 (∃ h207, Gh h204 h207 ∧ R202 true h207)) (
 (∃ h208, Gh h204 h208 ∧ R202 (x200 != x178) h208)))) ∧
 ∀ (_ : F) (x209 : Bool) (h210 : H), R202 x209 h210 →
 VIf x209 (
 VRet h210 (Value.bool false) post) (
 (∃ h211, Gh h210 h211 ∧ R150 h211))) (
 (∃ h212, Gh h149 h212 ∧ R150 h212))) ∧
 ∀ (_ : F) (h213 : H), R150 h213 →
 f3_J2 p0_n post x3 r26 R41 h213

def f3_J4 (p0_n : Int) (post : Value → H → Prop) (x3 : Option Addr) (r26 : Nat) (R41 : H → Prop) (x43 : SV) (x49 : Bool) (h50 : H) : Prop :=
 ∃ R51 : H → Prop, (
 VIf x49 (
 ∃ b52 : Addr, x43.a = some b52 ∧ 0 ≤ (0 : Int) ∧ (0 : Int) < ((x43.len : Nat) : Int) ∧
 ∃ x53 : Int, H.rd h50 (Addr.add (Addr.add b52 (((0 : Int)).toNat * 1)) 0) (Value.int .i64 x53) ∧
 ∃ b54 : Addr, x43.a = some b54 ∧ 0 ≤ (1 : Int) ∧ (1 : Int) < ((x43.len : Nat) : Int) ∧
 ∃ x55 : Int, H.rd h50 (Addr.add (Addr.add b54 (((1 : Int)).toNat * 1)) 0) (Value.int .i64 x55) ∧
 SemCall Go.Proofs.Tryd.prog 8 (List.toArray [(Value.pointer x3), (Value.int .i64 x53), (Value.int .i64 x55)]) h50 fun v56 h57 =>
 ∃ x58 : Option (TypeId × Value), v56 = (errV x58) ∧
 SemCall Go.Proofs.Tryd.prog 6 (List.toArray [(errV x58), (Value.int .i64 (1 : Int))]) h57 fun v59 h60 =>
 ∃ x61 : Bool, v59 = (Value.bool x61) ∧
 VIf (!x61) (
 VRet h60 (Value.bool false) post) (
 (∃ h62, Gh h60 h62 ∧ R51 h62))) (
 VIf (((x43.len : Nat) : Int) == (2 : Int)) (
 ∃ b63 : Addr, x43.a = some b63 ∧ 0 ≤ (0 : Int) ∧ (0 : Int) < ((x43.len : Nat) : Int) ∧
 ∃ b64 : Addr, x43.a = some b64 ∧ 0 ≤ (1 : Int) ∧ (1 : Int) < ((x43.len : Nat) : Int) ∧
 ∃ x65 : Bool, H.rd h50 (Addr.add (Addr.mk r26 0 none) 0) (Value.bool x65) ∧
 ∃ x66 : Int, H.rd h50 (Addr.add (Addr.mk r26 0 none) 1) (Value.int .i64 x66) ∧
 ∃ x67 : Int, H.rd h50 (Addr.add (Addr.mk r26 0 none) 2) (Value.int .i64 x67) ∧
 ∃ x68 : SV, H.rd h50 (Addr.add (Addr.mk r26 0 none) 3) (Value.slice x68.a x68.len x68.cap) ∧
 ∃ x69 : SV, H.rd h50 (Addr.add (Addr.mk r26 0 none) 4) (Value.slice x69.a x69.len x69.cap) ∧
 ∃ x70 : SV, H.rd h50 (Addr.add (Addr.mk r26 0 none) 5) (Value.slice x70.a x70.len x70.cap) ∧
 ∃ x71 : SV, H.rd h50 (Addr.add (Addr.mk r26 0 none) 6) (Value.slice x71.a x71.len x71.cap) ∧
 ∃ x72 : SV, H.rd h50 (Addr.add (Addr.mk r26 0 none) 7) (Value.slice x72.a x72.len x72.cap) ∧
 ∃ x73 : SV, H.rd h50 (Addr.add (Addr.mk r26 0 none) 8) (Value.slice x73.a x73.len x73.cap) ∧
 ∃ x74 : SV, H.rd h50 (Addr.add (Addr.mk r26 0 none) 9) (Value.slice x74.a x74.len x74.cap) ∧
 ∃ x75 : SV, H.rd h50 (Addr.add (Addr.mk r26 0 none) 10) (Value.slice x75.a x75.len x75.cap) ∧
 ∃ x76 : Int, H.rd h50 (Addr.add (Addr.add b63 (((0 : Int)).toNat * 1)) 0) (Value.int .i64 x76) ∧
 ∃ x77 : Int, H.rd h50 (Addr.add (Addr.add b64 (((1 : Int)).toNat * 1)) 0) (Value.int .i64 x77) ∧
 SemCall Go.Proofs.Tryd.prog 9 (List.toArray [(Value.agg (List.toArray [(Value.bool x65), (Value.int .i64 x66), (Value.int .i64 x67), (Value.slice x68.a x68.len x68.cap), (Value.slice x69.a x69.len x69.cap), (Value.slice x70.a x70.len x70.cap), (Value.slice x71.a x71.len x71.cap), (Value.slice x72.a x72.len x72.cap), (Value.slice x73.a x73.len x73.cap), (Value.slice x74.a x74.len x74.cap), (Value.slice x75.a x75.len x75.cap)])), (Value.int .i64 x76), (Value.int .i64 x77)]) h50 fun v78 h79 => OwnExt h50 h79 ∧
 ∃ x80 : Bool, ∃ x81 : Int, ∃ x82 : Int, ∃ x83 : SV, ∃ x84 : SV, ∃ x85 : SV, ∃ x86 : SV, ∃ x87 : SV, ∃ x88 : SV, ∃ x89 : SV, ∃ x90 : SV, ∃ x91 : Int, v78 = (Value.tuple (List.toArray [(Value.agg (List.toArray [(Value.bool x80), (Value.int .i64 x81), (Value.int .i64 x82), (Value.slice x83.a x83.len x83.cap), (Value.slice x84.a x84.len x84.cap), (Value.slice x85.a x85.len x85.cap), (Value.slice x86.a x86.len x86.cap), (Value.slice x87.a x87.len x87.cap), (Value.slice x88.a x88.len x88.cap), (Value.slice x89.a x89.len x89.cap), (Value.slice x90.a x90.len x90.cap)])), (Value.int .i64 x91)])) ∧
 H.new h79 [(Value.bool false), (Value.int .i64 0), (Value.int .i64 0), (Value.slice none 0 0), (Value.slice none 0 0), (Value.slice none 0 0), (Value.slice none 0 0), (Value.slice none 0 0), (Value.slice none 0 0), (Value.slice none 0 0), (Value.slice none 0 0)] fun r92 h93 =>
 ([(Value.bool x80), (Value.int .i64 x81), (Value.int .i64 x82), (Value.slice x83.a x83.len x83.cap), (Value.slice x84.a x84.len x84.cap), (Value.slice x85.a x85.len x85.cap), (Value.slice x86.a x86.len x86.cap), (Value.slice x87.a x87.len x87.cap), (Value.slice x88.a x88.len x88.cap), (Value.slice x89.a x89.len x89.cap), (Value.slice x90.a x90.len x90.cap)]).length = 11 ∧ (Program.underlying Go.Proofs.Tryd.prog 32).isSome = true ∧
 H.wr h93 (Addr.mk r92 0 none) ([(Value.bool x80), (Value.int .i64 x81), (Value.int .i64 x82), (Value.slice x83.a x83.len x83.cap), (Value.slice x84.a x84.len x84.cap), (Value.slice x85.a x85.len x85.cap), (Value.slice x86.a x86.len x86.cap), (Value.slice x87.a x87.len x87.cap), (Value.slice x88.a x88.len x88.cap), (Value.slice x89.a x89.len x89.cap), (Value.slice x90.a x90.len x90.cap)]) fun h94 =>
 ∃ x95 : Bool, H.rd h94 (Addr.add (Addr.mk r92 0 none) 0) (Value.bool x95) ∧
 ∃ x96 : Int, H.rd h94 (Addr.add (Addr.mk r92 0 none) 1) (Value.int .i64 x96) ∧
 ∃ x97 : Int, H.rd h94 (Addr.add (Addr.mk r92 0 none) 2) (Value.int .i64 x97) ∧
 ∃ x98 : SV, H.rd h94 (Addr.add (Addr.mk r92 0 none) 3) (Value.slice x98.a x98.len x98.cap) ∧
 ∃ x99 : SV, H.rd h94 (Addr.add (Addr.mk r92 0 none) 4) (Value.slice x99.a x99.len x99.cap) ∧
 ∃ x100 : SV, H.rd h94 (Addr.add (Addr.mk r92 0 none) 5) (Value.slice x100.a x100.len x100.cap) ∧
 ∃ x101 : SV, H.rd h94 (Addr.add (Addr.mk r92 0 none) 6) (Value.slice x101.a x101.len x101.cap) ∧
 ∃ x102 : SV, H.rd h94 (Addr.add (Addr.mk r92 0 none) 7) (Value.slice x102.a x102.len x102.cap) ∧
 ∃ x103 : SV, H.rd h94 (Addr.add (Addr.mk r92 0 none) 8) (Value.slice x103.a x103.len x103.cap) ∧
 ∃ x104 : SV, H.rd h94 (Addr.add (Addr.mk r92 0 none) 9) (Value.slice x104.a x104.len x104.cap) ∧
 ∃ x105 : SV, H.rd h94 (Addr.add (Addr.mk r92 0 none) 10) (Value.slice x105.a x105.len x105.cap) ∧
 ([(Value.bool x95), (Value.int .i64 x96), (Value.int .i64 x97), (Value.slice x98.a x98.len x98.cap), (Value.slice x99.a x99.len x99.cap), (Value.slice x100.a x100.len x100.cap), (Value.slice x101.a x101.len x101.cap), (Value.slice x102.a x102.len x102.cap), (Value.slice x103.a x103.len x103.cap), (Value.slice x104.a x104.len x104.cap), (Value.slice x105.a x105.len x105.cap)]).length = 11 ∧ (Program.underlying Go.Proofs.Tryd.prog 32).isSome = true ∧
 H.wr h94 (Addr.mk r26 0 none) ([(Value.bool x95), (Value.int .i64 x96), (Value.int .i64 x97), (Value.slice x98.a x98.len x98.cap), (Value.slice x99.a x99.len x99.cap), (Value.slice x100.a x100.len x100.cap), (Value.slice x101.a x101.len x101.cap), (Value.slice x102.a x102.len x102.cap), (Value.slice x103.a x103.len x103.cap), (Value.slice x104.a x104.len x104.cap), (Value.slice x105.a x105.len x105.cap)]) fun h106 =>
 ∃ R107 : Bool → H → Prop, (
 ∃ b108 : Addr, x43.a = some b108 ∧ 0 ≤ (1 : Int) ∧ (1 : Int) < ((x43.len : Nat) : Int) ∧
 ∃ x109 : Int, H.rd h106 (Addr.add (Addr.add b108 (((1 : Int)).toNat * 1)) 0) (Value.int .i64 x109) ∧
 VIf (decide (x109 ≥ (0 : Int))) (
 ∃ b110 : Addr, x43.a = some b110 ∧ 0 ≤ (0 : Int) ∧ (0 : Int) < ((x43.len : Nat) : Int) ∧
 ∃ b111 : Addr, x43.a = some b111 ∧ 0 ≤ (1 : Int) ∧ (1 : Int) < ((x43.len : Nat) : Int) ∧
 ∃ x112 : Int, H.rd h106 (Addr.add (Addr.add b110 (((0 : Int)).toNat * 1)) 0) (Value.int .i64 x112) ∧
 ∃ x113 : Int, H.rd h106 (Addr.add (Addr.add b111 (((1 : Int)).toNat * 1)) 0) (Value.int .i64 x113) ∧
 SemCall Go.Proofs.Tryd.prog 8 (List.toArray [(Value.pointer x3), (Value.int .i64 x112), (Value.int .i64 x113)]) h106 fun v114 h115 =>
 ∃ x116 : Option (TypeId × Value), v114 = (errV x116) ∧
 SemCall Go.Proofs.Tryd.prog 6 (List.toArray [(errV x116), (Value.int .i64 x91)]) h115 fun v117 h118 =>
 ∃ x119 : Bool, v117 = (Value.bool x119) ∧
 VIf (!x119) (
 (∃ h120, Gh h118 h120 ∧ R107 true h120)) (
 ∃ b121 : Addr, x43.a = some b121 ∧ 0 ≤ (1 : Int) ∧ (1 : Int) < ((x43.len : Nat) : Int) ∧
 ∃ x122 : Int, H.rd h118 (Addr.add (Addr.add b121 (((1 : Int)).toNat * 1)) 0) (Value.int .i64 x122) ∧
 VIf (decide (x122 < (0 : Int))) (
 ∃ b123 : Addr, x43.a = some b123 ∧ 0 ≤ (0 : Int) ∧ (0 : Int) < ((x43.len : Nat) : Int) ∧
 ∃ x124 : Int, H.rd h118 (Addr.add (Addr.add b123 (((0 : Int)).toNat * 1)) 0) (Value.int .i64 x124) ∧
 SemCall Go.Proofs.Tryd.prog 10 (List.toArray [(Value.pointer x3), (Value.int .i64 x124)]) h118 fun v125 h126 =>
 ∃ x127 : Option (TypeId × Value), v125 = (errV x127) ∧
 SemCall Go.Proofs.Tryd.prog 6 (List.toArray [(errV x127), (Value.int .i64 x91)]) h126 fun v128 h129 =>
 ∃ x130 : Bool, v128 = (Value.bool x130) ∧
 (∃ h131, Gh h129 h131 ∧ R107 (!x130) h131)) (
 (∃ h132, Gh h118 h132 ∧ R107 false h132)))) (
 ∃ b133 : Addr, x43.a = some b133 ∧ 0 ≤ (1 : Int) ∧ (1 : Int) < ((x43.len : Nat) : Int) ∧
 ∃ x134 : Int, H.rd h106 (Addr.add (Addr.add b133 (((1 : Int)).toNat * 1)) 0) (Value.int .i64 x134) ∧
 VIf (decide (x134 < (0 : Int))) (
 ∃ b135 : Addr, x43.a = some b135 ∧ 0 ≤ (0 : Int) ∧ (0 : Int) < ((x43.len : Nat) : Int) ∧
 ∃ x136 : Int, H.rd h106 (Addr.add (Addr.add b135 (((0 : Int)).toNat * 1)) 0) (Value.int .i64 x136) ∧
 SemCall Go.Proofs.Tryd.prog 10 (List.toArray [(Value.pointer x3), (Value.int .i64 x136)]) h106 fun v137 h138 =>
 ∃ x139 : Option (TypeId × Value), v137 = (errV x139) ∧
 SemCall Go.Proofs.Tryd.prog 6 (List.toArray [(errV x139), (Value.int .i64 x91)]) h138 fun v140 h141 =>
 ∃ x142 : Bool, v140 = (Value.bool x142) ∧
 (∃ h143, Gh h141 h143 ∧ R107 (!x142) h143)) (
 (∃ h144, Gh h106 h144 ∧ R107 false h144)))) ∧
 ∀ (_ : F) (x145 : Bool) (h146 : H), R107 x145 h146 →
 VIf x145 (
 VRet h146 (Value.bool false) post) (
 (∃ h147, Gh h146 h147 ∧ R51 h147))) (
 (∃ h148, Gh h50 h148 ∧ R51 h148)))) ∧
 ∀ (_ : F) (h149 : H), R51 h149 →
 f3_J3 p0_n post x3 r26 R41 x43 h149

def f3_J5 (p0_n : Int) (p2_steps : SV) (post : Value → H → Prop) (x3 : Option Addr) (r26 : Nat) (R29 : H → Prop) (I30 : Nat → Int → H → Prop) (n31 : Nat) (x34_i : Int) (x39 : Bool) (h40 : H) : Prop :=
 VIf x39 (
 ∃ R41 : H → Prop, (
 ∃ b42 : Addr, p2_steps.a = some b42 ∧ 0 ≤ x34_i ∧ x34_i < ((p2_steps.len : Nat) : Int) ∧
 ∃ x43 : SV, H.rd h40 (Addr.add (Addr.add b42 ((x34_i).toNat * 1)) 0) (Value.slice x43.a x43.len x43.cap) ∧
 ∃ R44 : Bool → H → Prop, (
 VIf (((x43.len : Nat) : Int) == (2 : Int)) (
 ∃ b45 : Addr, x43.a = some b45 ∧ 0 ≤ (1 : Int) ∧ (1 : Int) < ((x43.len : Nat) : Int) ∧
 ∃ x46 : Int, H.rd h40 (Addr.add (Addr.add b45 (((1 : Int)).toNat * 1)) 0) (Value.int .i64 x46) ∧
 (∃ h47, Gh h40 h47 ∧ R44 (decide (x46 > (1000 : Int))) h47)) (
 (∃ h48, Gh h40 h48 ∧ R44 false h48))) ∧
 ∀ (_ : F) (x49 : Bool) (h50 : H), R44 x49 h50 →
 f3_J4 p0_n post x3 r26 R41 x43 x49 h50) ∧
 ∀ (_ : F) (h242 : H), R41 h242 →
 In64 (x34_i + (1 : Int)) ∧
 ∃ m32, m32 < n31 ∧ (∃ h243, Gh h242 h243 ∧ I30 m32 (x34_i + (1 : Int)) h243)) (
 (∃ h244, Gh h40 h244 ∧ R29 h244))

def f3_L6 (p0_n : Int) (p2_steps : SV) (post : Value → H → Prop) (x3 : Option Addr) (r26 : Nat) (R29 : H → Prop) (I30 : Nat → Int → H → Prop) (n31 : Nat) (x34_i : Int) (h35 : H) : Prop :=
 ∃ R36 : Bool → H → Prop, (
 VIf (decide (x34_i < ((p2_steps.len : Nat) : Int))) (
 (∃ h37, Gh h35 h37 ∧ R36 (decide (x34_i < (300 : Int))) h37)) (
 (∃ h38, Gh h35 h38 ∧ R36 false h38))) ∧
 ∀ (_ : F) (x39 : Bool) (h40 : H), R36 x39 h40 →
 f3_J5 p0_n p2_steps post x3 r26 R29 I30 n31 x34_i x39 h40

def f3_J7 (p0_n : Int) (post : Value → H → Prop) (x3 : Option Addr) (h245 : H) : Prop :=
 ∃ R246 : Bool → H → Prop, (
 SemCall Go.Proofs.Tryd.prog 14 (List.toArray [(Value.pointer x3), (Value.int .i64 (-1 : Int))]) h245 fun v247 h248 =>
 ∃ x249 : Int, v247 = (Value.int .i64 x249) ∧
 VIf (x249 == (0 : Int)) (
 SemCall Go.Proofs.Tryd.prog 14 (List.toArray [(Value.pointer x3), (Value.int .i64 p0_n)]) h248 fun v250 h251 =>
 ∃ x252 : Int, v250 = (Value.int .i64 x252) ∧
 (∃ h253, Gh h251 h253 ∧ R246 (x252 == (0 : Int)) h253)) (
 (∃ h254, Gh h248 h254 ∧ R246 false h254))) ∧
 ∀ (_ : F) (x255 : Bool) (h256 : H), R246 x255 h256 →
 VRet h256 (Value.bool x255) post

def f3_J8 (p0_n : Int) (p1_tags : Bool) (p2_steps : SV) (post : Value → H → Prop) (x3 : Option Addr) (x4 : Option (TypeId × Value)) (x8 : Bool) (h9 : H) : Prop :=
 VIf x8 (
 SemCall Go.Proofs.Tryd.prog 6 (List.toArray [(errV x4), (Value.int .i64 (1 : Int))]) h9 fun v10 h11 =>
 ∃ x12 : Bool, v10 = (Value.bool x12) ∧
 VRet h11 (Value.bool x12) post) (
 isIfaceV (errV x4) = true ∧
 VIf (!(isNilV (errV x4))) (
 VRet h9 (Value.bool false) post) (
 SemCall Go.Proofs.Tryd.prog 7 (List.toArray [(Value.int .i64 p0_n), (Value.bool p1_tags)]) h9 fun v13 h14 =>
 ∃ x15 : Bool, ∃ x16 : Int, ∃ x17 : Int, ∃ x18 : SV, ∃ x19 : SV, ∃ x20 : SV, ∃ x21 : SV, ∃ x22 : SV, ∃ x23 : SV, ∃ x24 : SV, ∃ x25 : SV, v13 = (Value.agg (List.toArray [(Value.bool x15), (Value.int .i64 x16), (Value.int .i64 x17), (Value.slice x18.a x18.len x18.cap), (Value.slice x19.a x19.len x19.cap), (Value.slice x20.a x20.len x20.cap), (Value.slice x21.a x21.len x21.cap), (Value.slice x22.a x22.len x22.cap), (Value.slice x23.a x23.len x23.cap), (Value.slice x24.a x24.len x24.cap), (Value.slice x25.a x25.len x25.cap)])) ∧
 H.new h14 [(Value.bool false), (Value.int .i64 0), (Value.int .i64 0), (Value.slice none 0 0), (Value.slice none 0 0), (Value.slice none 0 0), (Value.slice none 0 0), (Value.slice none 0 0), (Value.slice none 0 0), (Value.slice none 0 0), (Value.slice none 0 0)] fun r26 h27 =>
 ([(Value.bool x15), (Value.int .i64 x16), (Value.int .i64 x17), (Value.slice x18.a x18.len x18.cap), (Value.slice x19.a x19.len x19.cap), (Value.slice x20.a x20.len x20.cap), (Value.slice x21.a x21.len x21.cap), (Value.slice x22.a x22.len x22.cap), (Value.slice x23.a x23.len x23.cap), (Value.slice x24.a x24.len x24.cap), (Value.slice x25.a x25.len x25.cap)]).length = 11 ∧ (Program.underlying Go.Proofs.Tryd.prog 32).isSome = true ∧
 H.wr h27 (Addr.mk r26 0 none) ([(Value.bool x15), (Value.int .i64 x16), (Value.int .i64 x17), (Value.slice x18.a x18.len x18.cap), (Value.slice x19.a x19.len x19.cap), (Value.slice x20.a x20.len x20.cap), (Value.slice x21.a x21.len x21.cap), (Value.slice x22.a x22.len x22.cap), (Value.slice x23.a x23.len x23.cap), (Value.slice x24.a x24.len x24.cap), (Value.slice x25.a x25.len x25.cap)]) fun h28 =>
 ∃ R29 : H → Prop, (
 ∃ I30 : Nat → Int → H → Prop, (∃ n31, (∃ h33, Gh h28 h33 ∧ I30 n31 (0 : Int) h33)) ∧
 ∀ (n31 : Nat) (_ : F) (x34_i : Int) (h35 : H), I30 n31 x34_i h35 →
 f3_L6 p0_n p2_steps post x3 r26 R29 I30 n31 x34_i h35) ∧
 ∀ (_ : F) (h245 : H), R29 h245 →
 f3_J7 p0_n post x3 h245))

def f3_sem (p0_n : Int) (p1_tags : Bool) (p2_steps : SV) (h0 : H) (post : Value → H → Prop) : Prop :=
 SemCall Go.Proofs.Tryd.prog 5 (List.toArray [(Value.int .i64 p0_n), (Value.bool p1_tags)]) h0 fun v1 h2 =>
 ∃ x3 : Option Addr, ∃ x4 : Option (TypeId × Value), v1 = (Value.tuple (List.toArray [(Value.pointer x3), (errV x4)])) ∧
 ∃ R5 : Bool → H → Prop, (
 VIf (decide (p0_n < (1 : Int))) (
 (∃ h6, Gh h2 h6 ∧ R5 true h6)) (
 (∃ h7, Gh h2 h7 ∧ R5 (decide (p0_n > (4 : Int))) h7))) ∧
 ∀ (_ : F) (x8 : Bool) (h9 : H), R5 x8 h9 →
 f3_J8 p0_n p1_tags p2_steps post x3 x4 x8 h9

def f3_hint : Hint := (.node .leaf (.node .leaf (.node (.node (.join [(35, .bool)] .leaf) .leaf) (.node .leaf (.node .leaf (.node (.node .leaf (.join [] (.node (.loop [(10, .int)] (.node (.node (.join [(50, .bool)] .leaf) .leaf) (.node (.join [] (.node (.node .leaf (.node (.node (.join [(65, .bool)] .leaf) (.join [] (.node (.node (.tail 7) .leaf) (.node .leaf (.node (.node .lex (.node .leaf (.node (.join [(123, .bool)] .lex) .leaf))) .leaf))))) (.node (.node .leaf (.join [] (.node (.node .lex (.node .leaf (.node .leaf (.node (.join [(160, .bool)] .leaf) .leaf)))) .leaf))) (.node .leaf (.node (.node (.join [(175, .bool)] .leaf) .leaf) (.node .leaf (.join [] (.node (.loop [(23, .int)] (.node .leaf (.node (.node (.node .lex .leaf) .leaf) .leaf))) .leaf)))))))) .leaf)) .leaf))) .leaf))) (.node (.join [(6, .bool)] .leaf) .leaf)))))))

theorem f3_eq (p0_n : Int) (p1_tags : Bool) (p2_steps : SV) (h0 : H) (post : Value → H → Prop) : exec Tryd.prog (bodyOf Tryd.f3) f3_hint (retQ Tryd.prog Tryd.f3 post) (F0 [(Value.int .i64 p0_n), (Value.bool p1_tags), (Value.slice p2_steps.a p2_steps.len p2_steps.cap)]) h0 = f3_sem p0_n p1_tags p2_steps h0 post := by kernel_rfl

set_option maxRecDepth 20000 in
theorem f3_call (p0_n : Int) (p1_tags : Bool) (p2_steps : SV) (h0 : H) (post : Value → H → Prop) (hx : f3_sem p0_n p1_tags p2_steps h0 post) : SemCall Tryd.prog 3 (List.toArray [(Value.int .i64 p0_n), (Value.bool p1_tags), (Value.slice p2_steps.a p2_steps.len p2_steps.cap)]) h0 post :=
 sem_of_exec (g := f3_hint) mixed Tryd.func3 (bodyOf_eq (by kernel_rfl)) (by kernel_rfl) ((f3_eq p0_n p1_tags p2_steps h0 post).mpr hx)

/- latchgarth/stack.New -/
def f5_sem (p0_n : Int) (p1_tags : Bool) (h0 : H) (post : Value → H → Prop) : Prop :=
 SemCall Go.Proofs.Tryd.prog 24 (List.toArray [(Value.int .i64 p0_n)]) h0 fun v1 h2 =>
 ∃ x3 : Option (TypeId × Value), v1 = (errV x3) ∧
 isIfaceV (errV x3) = true ∧
 VIf (!(isNilV (errV x3))) (
 VRet h2 (Value.tuple (List.toArray [(Value.pointer none), (errV x3)])) post) (
 0 ≤ p0_n ∧ p0_n ≤ p0_n ∧ ((40 : Nat) : Int) * p0_n ≤ 140737488355328 ∧ p0_n ≤ 1000000000 ∧
 H.new h2 (repl (p0_n).toNat [(Value.int .i64 0), (Value.int .i64 0), (Value.int .i64 0), (Value.int .i64 0), (Value.int .i64 0)]) fun r4 h5 =>
 H.new h5 [(Value.bool p1_tags), (Value.int .i64 (-1 : Int)), (Value.int .i64 0), (Value.int .i64 0), (Value.int .i64 0), (Value.bool false), (Value.int .i64 0), (Value.int .i64 0), (Value.bool false), (Value.int .i64 0), (Value.int .i64 0), (Value.bool false), (Value.int .i64 0), (Value.int .i64 0), (Value.bool false), (Value.slice (some (Addr.mk r4 0 none)) ((p0_n).toNat) ((p0_n).toNat))] fun r6 h7 =>
 VRet h7 (Value.tuple (List.toArray [(Value.pointer (some (Addr.mk r6 0 none))), Value.nilIface])) post)

def f5_hint : Hint := .leaf

theorem f5_eq (p0_n : Int) (p1_tags : Bool) (h0 : H) (post : Value → H → Prop) : exec Tryd.prog (bodyOf Tryd.f5) f5_hint (retQ Tryd.prog Tryd.f5 post) (F0 [(Value.int .i64 p0_n), (Value.bool p1_tags)]) h0 = f5_sem p0_n p1_tags h0 post := by kernel_rfl

set_option maxRecDepth 20000 in
theorem f5_call (p0_n : Int) (p1_tags : Bool) (h0 : H) (post : Value → H → Prop) (hx : f5_sem p0_n p1_tags h0 post) : SemCall Tryd.prog 5 (List.toArray [(Value.int .i64 p0_n), (Value.bool p1_tags)]) h0 post :=
 sem_of_exec (g := f5_hint) mixed Tryd.func5 (bodyOf_eq (by kernel_rfl)) (by kernel_rfl) ((f5_eq p0_n p1_tags h0 post).mpr hx)

/- latchgarth/latchgarthsame.Error -/
def f6_sem (p0_err : Option (TypeId × Value)) (p1_e : Int) (h0 : H) (post : Value → H → Prop) : Prop :=
 SemCall Go.Proofs.Tryd.prog 25 (List.toArray [(errV p0_err)]) h0 fun v1 h2 =>
 ∃ x3 : Int, v1 = (Value.int .i64 x3) ∧
 VRet h2 (Value.bool (x3 == p1_e)) post

def f6_hint : Hint := .leaf

theorem f6_eq (p0_err : Option (TypeId × Value)) (p1_e : Int) (h0 : H) (post : Value → H → Prop) : exec Tryd.prog (bodyOf Tryd.f6) f6_hint (retQ Tryd.prog Tryd.f6 post) (F0 [(errV p0_err), (Value.int .i64 p1_e)]) h0 = f6_sem p0_err p1_e h0 post := by kernel_rfl

set_option maxRecDepth 20000 in
theorem f6_call (p0_err : Option (TypeId × Value)) (p1_e : Int) (h0 : H) (post : Value → H → Prop) (hx : f6_sem p0_err p1_e h0 post) : SemCall Tryd.prog 6 (List.toArray [(errV p0_err), (Value.int .i64 p1_e)]) h0 post :=
 sem_of_exec (g := f6_hint) mixed Tryd.func6 (bodyOf_eq (by kernel_rfl)) (by kernel_rfl) ((f6_eq p0_err p1_e h0 post).mpr hx)

/- latchgarth/latchgarthref3.NewStack -/
def f7_sem (p0_n : Int) (p1_tags : Bool) (h0 : H) (post : Value → H → Prop) : Prop :=
 H.new h0 [(Value.bool false), (Value.int .i64 0), (Value.int .i64 0), (Value.slice none 0 0), (Value.slice none 0 0), (Value.slice none 0 0), (Value.slice none 0 0), (Value.slice none 0 0), (Value.slice none 0 0), (Value.slice none 0 0), (Value.slice none 0 0)] fun r1 h2 =>
 0 ≤ (4 : Int) ∧ (4 : Int) ≤ (4 : Int) ∧ ((8 : Nat) : Int) * (4 : Int) ≤ 140737488355328 ∧ (4 : Int) ≤ 1000000000 ∧
 H.new h2 (repl ((4 : Int)).toNat [(Value.int .i64 0)]) fun r3 h4 =>
 0 ≤ (4 : Int) ∧ (4 : Int) ≤ (4 : Int) ∧ ((8 : Nat) : Int) * (4 : Int) ≤ 140737488355328 ∧ (4 : Int) ≤ 1000000000 ∧
 H.new h4 (repl ((4 : Int)).toNat [(Value.int .i64 0)]) fun r5 h6 =>
 0 ≤ (4 : Int) ∧ (4 : Int) ≤ (4 : Int) ∧ ((1 : Nat) : Int) * (4 : Int) ≤ 140737488355328 ∧ (4 : Int) ≤ 1000000000 ∧
 H.new h6 (repl ((4 : Int)).toNat [(Value.bool false)]) fun r7 h8 =>
 0 ≤ p0_n ∧ p0_n ≤ p0_n ∧ ((8 : Nat) : Int) * p0_n ≤ 140737488355328 ∧ p0_n ≤ 1000000000 ∧
 H.new h8 (repl (p0_n).toNat [(Value.int .i64 0)]) fun r9 h10 =>
 0 ≤ p0_n ∧ p0_n ≤ p0_n ∧ ((8 : Nat) : Int) * p0_n ≤ 140737488355328 ∧ p0_n ≤ 1000000000 ∧
 H.new h10 (repl (p0_n).toNat [(Value.int .i64 0)]) fun r11 h12 =>
 0 ≤ p0_n ∧ p0_n ≤ p0_n ∧ ((8 : Nat) : Int) * p0_n ≤ 140737488355328 ∧ p0_n ≤ 1000000000 ∧
 H.new h12 (repl (p0_n).toNat [(Value.int .i64 0)]) fun r13 h14 =>
 0 ≤ p0_n ∧ p0_n ≤ p0_n ∧ ((8 : Nat) : Int) * p0_n ≤ 140737488355328 ∧ p0_n ≤ 1000000000 ∧
 H.new h14 (repl (p0_n).toNat [(Value.int .i64 0)]) fun r15 h16 =>
 0 ≤ p0_n ∧ p0_n ≤ p0_n ∧ ((8 : Nat) : Int) * p0_n ≤ 140737488355328 ∧ p0_n ≤ 1000000000 ∧
 H.new h16 (repl (p0_n).toNat [(Value.int .i64 0)]) fun r17 h18 =>
 ([(Value.bool p1_tags), (Value.int .i64 (-1 : Int)), (Value.int .i64 0), (Value.slice (some (Addr.mk r3 0 none)) (((4 : Int)).toNat) (((4 : Int)).toNat)), (Value.slice (some (Addr.mk r5 0 none)) (((4 : Int)).toNat) (((4 : Int)).toNat)), (Value.slice (some (Addr.mk r7 0 none)) (((4 : Int)).toNat) (((4 : Int)).toNat)), (Value.slice (some (Addr.mk r9 0 none)) ((p0_n).toNat) ((p0_n).toNat)), (Value.slice (some (Addr.mk r11 0 none)) ((p0_n).toNat) ((p0_n).toNat)), (Value.slice (some (Addr.mk r13 0 none)) ((p0_n).toNat) ((p0_n).toNat)), (Value.slice (some (Addr.mk r15 0 none)) ((p0_n).toNat) ((p0_n).toNat)), (Value.slice (some (Addr.mk r17 0 none)) ((p0_n).toNat) ((p0_n).toNat))]).length = 11 ∧ (Program.underlying Go.Proofs.Tryd.prog 32).isSome = true ∧
 H.wr h18 (Addr.mk r1 0 none) ([(Value.bool p1_tags), (Value.int .i64 (-1 : Int)), (Value.int .i64 0), (Value.slice (some (Addr.mk r3 0 none)) (((4 : Int)).toNat) (((4 : Int)).toNat)), (Value.slice (some (Addr.mk r5 0 none)) (((4 : Int)).toNat) (((4 : Int)).toNat)), (Value.slice (some (Addr.mk r7 0 none)) (((4 : Int)).toNat) (((4 : Int)).toNat)), (Value.slice (some (Addr.mk r9 0 none)) ((p0_n).toNat) ((p0_n).toNat)), (Value.slice (some (Addr.mk r11 0 none)) ((p0_n).toNat) ((p0_n).toNat)), (Value.slice (some (Addr.mk r13 0 none)) ((p0_n).toNat) ((p0_n).toNat)), (Value.slice (some (Addr.mk r15 0 none)) ((p0_n).toNat) ((p0_n).toNat)), (Value.slice (some (Addr.mk r17 0 none)) ((p0_n).toNat) ((p0_n).toNat))]) fun h19 =>
 ∃ x20 : Bool, H.rd h19 (Addr.add (Addr.mk r1 0 none) 0) (Value.bool x20) ∧
 ∃ x21 : Int, H.rd h19 (Addr.add (Addr.mk r1 0 none) 1) (Value.int .i64 x21) ∧
 ∃ x22 : Int, H.rd h19 (Addr.add (Addr.mk r1 0 none) 2) (Value.int .i64 x22) ∧
 ∃ x23 : SV, H.rd h19 (Addr.add (Addr.mk r1 0 none) 3) (Value.slice x23.a x23.len x23.cap) ∧
 ∃ x24 : SV, H.rd h19 (Addr.add (Addr.mk r1 0 none) 4) (Value.slice x24.a x24.len x24.cap) ∧
 ∃ x25 : SV, H.rd h19 (Addr.add (Addr.mk r1 0 none) 5) (Value.slice x25.a x25.len x25.cap) ∧
 ∃ x26 : SV, H.rd h19 (Addr.add (Addr.mk r1 0 none) 6) (Value.slice x26.a x26.len x26.cap) ∧
 ∃ x27 : SV, H.rd h19 (Addr.add (Addr.mk r1 0 none) 7) (Value.slice x27.a x27.len x27.cap) ∧
 ∃ x28 : SV, H.rd h19 (Addr.add (Addr.mk r1 0 none) 8) (Value.slice x28.a x28.len x28.cap) ∧
 ∃ x29 : SV, H.rd h19 (Addr.add (Addr.mk r1 0 none) 9) (Value.slice x29.a x29.len x29.cap) ∧
 ∃ x30 : SV, H.rd h19 (Addr.add (Addr.mk r1 0 none) 10) (Value.slice x30.a x30.len x30.cap) ∧
 VRet h19 (Value.agg (List.toArray [(Value.bool x20), (Value.int .i64 x21), (Value.int .i64 x22), (Value.slice x23.a x23.len x23.cap), (Value.slice x24.a x24.len x24.cap), (Value.slice x25.a x25.len x25.cap), (Value.slice x26.a x26.len x26.cap), (Value.slice x27.a x27.len x27.cap), (Value.slice x28.a x28.len x28.cap), (Value.slice x29.a x29.len x29.cap), (Value.slice x30.a x30.len x30.cap)])) post

def f7_hint : Hint := (.node .leaf (.node .lex .leaf))

theorem f7_eq (p0_n : Int) (p1_tags : Bool) (h0 : H) (post : Value → H → Prop) : exec Tryd.prog (bodyOf Tryd.f7) f7_hint (retQ Tryd.prog Tryd.f7 post) (F0 [(Value.int .i64 p0_n), (Value.bool p1_tags)]) h0 = f7_sem p0_n p1_tags h0 post := by kernel_rfl

set_option maxRecDepth 20000 in
theorem f7_call (p0_n : Int) (p1_tags : Bool) (h0 : H) (post : Value → H → Prop) (hx : f7_sem p0_n p1_tags h0 post) : SemCall Tryd.prog 7 (List.toArray [(Value.int .i64 p0_n), (Value.bool p1_tags)]) h0 post :=
 sem_of_exec (g := f7_hint) mixed Tryd.func7 (bodyOf_eq (by kernel_rfl)) (by kernel_rfl) ((f7_eq p0_n p1_tags h0 post).mpr hx)

/- (*latchgarth/stack.Stack).Push -/
def f8_sem (p0_s : Option Addr) (p1_p : Int) (p2_value : Int) (h0 : H) (post : Value → H → Prop) : Prop :=
 SemCall Go.Proofs.Tryd.prog 26 (List.toArray [(Value.int .i64 p2_value), (Value.int .i64 0), (Value.int .i64 (1000 : Int))]) h0 fun v1 h2 =>
 ∃ x3 : Bool, v1 = (Value.bool x3) ∧
 VIf (!x3) (
 VRet h2 (Value.iface 65 (Value.int .i64 (1 : Int))) post) (
 SemCall Go.Proofs.Tryd.prog 27 (List.toArray [(Value.pointer p0_s), (Value.int .i64 p1_p)]) h2 fun v4 h5 =>
 ∃ x6 : Option (TypeId × Value), v4 = (errV x6) ∧
 isIfaceV (errV x6) = true ∧
 VIf (!(isNilV (errV x6))) (
 VRet h5 (errV x6) post) (
 ∃ a7 : Addr, p0_s = some a7 ∧
 SemCall Go.Proofs.Tryd.prog 28 (List.toArray [(Value.slice (some (Addr.add (Addr.add a7 3) 0)) 4 4), (Value.func (.func 29) #[] #[])]) h5 fun v8 h9 =>
 ∃ x10 : Int, v8 = (Value.int .i64 x10) ∧
 VIf (decide (x10 < (0 : Int))) (
 VRet h9 (Value.iface 65 (Value.int .i64 (4 : Int))) post) (
 ∃ a11 : Addr, p0_s = some a11 ∧
 0 ≤ x10 ∧ x10 < ((4 : Nat) : Int) ∧
 ∃ a12 : Addr, p0_s = some a12 ∧
 H.wr h9 (Addr.add (Addr.add (Addr.add a11 3) ((x10).toNat * 3)) 0) ([(Value.int .i64 p2_value)]) fun h13 =>
 0 ≤ x10 ∧ x10 < ((4 : Nat) : Int) ∧
 H.wr h13 (Addr.add (Addr.add (Addr.add a12 3) ((x10).toNat * 3)) 2) ([(Value.bool true)]) fun h14 =>
 ∃ a15 : Addr, p0_s = some a15 ∧
 ∃ x16 : SV, H.rd h14 (Addr.add (Addr.add a15 15) 0) (Value.slice x16.a x16.len x16.cap) ∧
 ∃ b17 : Addr, x16.a = some b17 ∧ 0 ≤ p1_p ∧ p1_p < ((x16.len : Nat) : Int) ∧
 ([(Value.int .i64 (1 : Int)), (Value.int .i64 x10), (Value.int .i64 0), (Value.int .i64 0), (Value.int .i64 0)]).length = 5 ∧ (Program.underlying Go.Proofs.Tryd.prog 72).isSome = true ∧
 H.wr h14 (Addr.add b17 ((p1_p).toNat * 5)) ([(Value.int .i64 (1 : Int)), (Value.int .i64 x10), (Value.int .i64 0), (Value.int .i64 0), (Value.int .i64 0)]) fun h18 =>
 VRet h18 Value.nilIface post)))

def f8_hint : Hint := (.node .leaf (.node .leaf (.node .leaf (.node .leaf (.node .leaf (.node .lex .leaf))))))

theorem f8_eq (p0_s : Option Addr) (p1_p : Int) (p2_value : Int) (h0 : H) (post : Value → H → Prop) : exec Tryd.prog (bodyOf Tryd.f8) f8_hint (retQ Tryd.prog Tryd.f8 post) (F0 [(Value.pointer p0_s), (Value.int .i64 p1_p), (Value.int .i64 p2_value)]) h0 = f8_sem p0_s p1_p p2_value h0 post := by kernel_rfl

set_option maxRecDepth 20000 in
theorem f8_call (p0_s : Option Addr) (p1_p : Int) (p2_value : Int) (h0 : H) (post : Value → H → Prop) (hx : f8_sem p0_s p1_p p2_value h0 post) : SemCall Tryd.prog 8 (List.toArray [(Value.pointer p0_s), (Value.int .i64 p1_p), (Value.int .i64 p2_value)]) h0 post :=
 sem_of_exec (g := f8_hint) mixed Tryd.func8 (bodyOf_eq (by kernel_rfl)) (by kernel_rfl) ((f8_eq p0_s p1_p p2_value h0 post).mpr hx)

/- (*latchgarth/stack.Stack).Pop -/
def f10_sem (p0_s : Option Addr) (p1_p : Int) (h0 : H) (post : Value → H → Prop) : Prop :=
 SemCall Go.Proofs.Tryd.prog 27 (List.toArray [(Value.pointer p0_s), (Value.int .i64 p1_p)]) h0 fun v1 h2 =>
 ∃ x3 : Option (TypeId × Value), v1 = (errV x3) ∧
 isIfaceV (errV x3) = true ∧
 VIf (!(isNilV (errV x3))) (
 VRet h2 (errV x3) post) (
 ∃ a4 : Addr, p0_s = some a4 ∧
 ∃ x5 : SV, H.rd h2 (Addr.add (Addr.add a4 15) 0) (Value.slice x5.a x5.len x5.cap) ∧
 ∃ b6 : Addr, x5.a = some b6 ∧ 0 ≤ p1_p ∧ p1_p < ((x5.len : Nat) : Int) ∧
 ([(Value.int .i64 (3 : Int)), (Value.int .i64 0), (Value.int .i64 0), (Value.int .i64 0), (Value.int .i64 0)]).length = 5 ∧ (Program.underlying Go.Proofs.Tryd.prog 72).isSome = true ∧
 H.wr h2 (Addr.add b6 ((p1_p).toNat * 5)) ([(Value.int .i64 (3 : Int)), (Value.int .i64 0), (Value.int .i64 0), (Value.int .i64 0), (Value.int .i64 0)]) fun h7 =>
 VRet h7 Value.nilIface post)

def f10_hint : Hint := .leaf

theorem f10_eq (p0_s : Option Addr) (p1_p : Int) (h0 : H) (post : Value → H → Prop) : exec Tryd.prog (bodyOf Tryd.f10) f10_hint (retQ Tryd.prog Tryd.f10 post) (F0 [(Value.pointer p0_s), (Value.int .i64 p1_p)]) h0 = f10_sem p0_s p1_p h0 post := by kernel_rfl

set_option maxRecDepth 20000 in
theorem f10_call (p0_s : Option Addr) (p1_p : Int) (h0 : H) (post : Value → H → Prop) (hx : f10_sem p0_s p1_p h0 post) : SemCall Tryd.prog 10 (List.toArray [(Value.pointer p0_s), (Value.int .i64 p1_p)]) h0 post :=
 sem_of_exec (g := f10_hint) mixed Tryd.func10 (bodyOf_eq (by kernel_rfl)) (by kernel_rfl) ((f10_eq p0_s p1_p h0 post).mpr hx)

/- (*latchgarth/stack.Stack).Step -/
def f12_sem (p0_s : Option Addr) (p1_p : Int) (h0 : H) (post : Value → H → Prop) : Prop :=
 ∃ a1 : Addr, p0_s = some a1 ∧
 ∃ x2 : SV, H.rd h0 (Addr.add (Addr.add a1 15) 0) (Value.slice x2.a x2.len x2.cap) ∧
 In64 (((x2.len : Nat) : Int) - (1 : Int)) ∧
 SemCall Go.Proofs.Tryd.prog 26 (List.toArray [(Value.int .i64 p1_p), (Value.int .i64 0), (Value.int .i64 (((x2.len : Nat) : Int) - (1 : Int)))]) h0 fun v3 h4 =>
 ∃ x5 : Bool, v3 = (Value.bool x5) ∧
 VIf (!x5) (
 VRet h4 (Value.tuple (List.toArray [(Value.bool false), (Value.int .i64 0), (Value.iface 65 (Value.int .i64 (1 : Int)))])) post) (
 ∃ a6 : Addr, p0_s = some a6 ∧
 ∃ x7 : SV, H.rd h4 (Addr.add (Addr.add a6 15) 0) (Value.slice x7.a x7.len x7.cap) ∧
 ∃ b8 : Addr, x7.a = some b8 ∧ 0 ≤ p1_p ∧ p1_p < ((x7.len : Nat) : Int) ∧
 ∃ a9 : Addr, (some (Addr.add b8 ((p1_p).toNat * 5))) = some a9 ∧
 ∃ x10 : Int, H.rd h4 (Addr.add (Addr.add a9 0) 0) (Value.int .i64 x10) ∧
 VIf (x10 == (0 : Int)) (
 VRet h4 (Value.tuple (List.toArray [(Value.bool false), (Value.int .i64 0), (Value.iface 65 (Value.int .i64 (7 : Int)))])) post) (
 VIf (x10 == (1 : Int)) (
 ∃ a11 : Addr, p0_s = some a11 ∧
 ∃ x12 : Int, H.rd h4 (Addr.add (Addr.add a11 1) 0) (Value.int .i64 x12) ∧
 ∃ x13 : Int, H.rd h4 (Addr.add (Addr.add a11 1) 1) (Value.int .i64 x13) ∧
 ∃ a14 : Addr, (some (Addr.add b8 ((p1_p).toNat * 5))) = some a14 ∧
 ([(Value.int .i64 x12), (Value.int .i64 x13)]).length = 2 ∧ (Program.underlying Go.Proofs.Tryd.prog 58).isSome = true ∧
 H.wr h4 (Addr.add a14 3) ([(Value.int .i64 x12), (Value.int .i64 x13)]) fun h15 =>
 ∃ a16 : Addr, (some (Addr.add b8 ((p1_p).toNat * 5))) = some a16 ∧
 ∃ x17 : Int, H.rd h15 (Addr.add (Addr.add a16 1) 0) (Value.int .i64 x17) ∧
 ∃ a18 : Addr, (some (Addr.add b8 ((p1_p).toNat * 5))) = some a18 ∧
 ∃ x19 : Int, H.rd h15 (Addr.add (Addr.add (Addr.add a18 3) 0) 0) (Value.int .i64 x19) ∧
 ∃ a20 : Addr, p0_s = some a20 ∧
 0 ≤ x17 ∧ x17 < ((4 : Nat) : Int) ∧
 H.wr h15 (Addr.add (Addr.add (Addr.add a20 3) ((x17).toNat * 3)) 1) ([(Value.int .i64 x19)]) fun h21 =>
 ∃ a22 : Addr, (some (Addr.add b8 ((p1_p).toNat * 5))) = some a22 ∧
 H.wr h21 (Addr.add a22 0) ([(Value.int .i64 (2 : Int))]) fun h23 =>
 VRet h23 (Value.tuple (List.toArray [(Value.bool false), (Value.int .i64 0), Value.nilIface])) post) (
 VIf (x10 == (2 : Int)) (
 ∃ a24 : Addr, (some (Addr.add b8 ((p1_p).toNat * 5))) = some a24 ∧
 ∃ x25 : Int, H.rd h4 (Addr.add (Addr.add a24 3) 0) (Value.int .i64 x25) ∧
 ∃ x26 : Int, H.rd h4 (Addr.add (Addr.add a24 3) 1) (Value.int .i64 x26) ∧
 ∃ a27 : Addr, (some (Addr.add b8 ((p1_p).toNat * 5))) = some a27 ∧
 ∃ x28 : Int, H.rd h4 (Addr.add (Addr.add a27 1) 0) (Value.int .i64 x28) ∧
 SemCall Go.Proofs.Tryd.prog 33 (List.toArray [(Value.pointer p0_s), (Value.agg (List.toArray [(Value.int .i64 x25), (Value.int .i64 x26)])), (Value.int .i64 x28)]) h4 fun v29 h30 =>
 ∃ x31 : Bool, v29 = (Value.bool x31) ∧
 VIf x31 (
 ∃ a32 : Addr, (some (Addr.add b8 ((p1_p).toNat * 5))) = some a32 ∧
 ([(Value.int .i64 0), (Value.int .i64 0), (Value.int .i64 0), (Value.int .i64 0), (Value.int .i64 0)]).length = 5 ∧ (Program.underlying Go.Proofs.Tryd.prog 72).isSome = true ∧
 H.wr h30 a32 ([(Value.int .i64 0), (Value.int .i64 0), (Value.int .i64 0), (Value.int .i64 0), (Value.int .i64 0)]) fun h33 =>
 VRet h33 (Value.tuple (List.toArray [(Value.bool true), (Value.int .i64 (-1 : Int)), Value.nilIface])) post) (
 ∃ a34 : Addr, (some (Addr.add b8 ((p1_p).toNat * 5))) = some a34 ∧
 H.wr h30 (Addr.add a34 0) ([(Value.int .i64 (1 : Int))]) fun h35 =>
 VRet h35 (Value.tuple (List.toArray [(Value.bool false), (Value.int .i64 0), Value.nilIface])) post)) (
 VIf (x10 == (3 : Int)) (
 ∃ a36 : Addr, p0_s = some a36 ∧
 ∃ x37 : Int, H.rd h4 (Addr.add (Addr.add a36 1) 0) (Value.int .i64 x37) ∧
 ∃ x38 : Int, H.rd h4 (Addr.add (Addr.add a36 1) 1) (Value.int .i64 x38) ∧
 ∃ a39 : Addr, (some (Addr.add b8 ((p1_p).toNat * 5))) = some a39 ∧
 ([(Value.int .i64 x37), (Value.int .i64 x38)]).length = 2 ∧ (Program.underlying Go.Proofs.Tryd.prog 58).isSome = true ∧
 H.wr h4 (Addr.add a39 3) ([(Value.int .i64 x37), (Value.int .i64 x38)]) fun h40 =>
 ∃ a41 : Addr, (some (Addr.add b8 ((p1_p).toNat * 5))) = some a41 ∧
 ∃ x42 : Int, H.rd h40 (Addr.add (Addr.add (Addr.add a41 3) 0) 0) (Value.int .i64 x42) ∧
 VIf (decide (x42 < (0 : Int))) (
 ∃ a43 : Addr, (some (Addr.add b8 ((p1_p).toNat * 5))) = some a43 ∧
 ([(Value.int .i64 0), (Value.int .i64 0), (Value.int .i64 0), (Value.int .i64 0), (Value.int .i64 0)]).length = 5 ∧ (Program.underlying Go.Proofs.Tryd.prog 72).isSome = true ∧
 H.wr h40 a43 ([(Value.int .i64 0), (Value.int .i64 0), (Value.int .i64 0), (Value.int .i64 0), (Value.int .i64 0)]) fun h44 =>
 VRet h44 (Value.tuple (List.toArray [(Value.bool true), (Value.int .i64 (-1 : Int)), Value.nilIface])) post) (
 ∃ a45 : Addr, (some (Addr.add b8 ((p1_p).toNat * 5))) = some a45 ∧
 H.wr h40 (Addr.add a45 0) ([(Value.int .i64 (4 : Int))]) fun h46 =>
 VRet h46 (Value.tuple (List.toArray [(Value.bool false), (Value.int .i64 0), Value.nilIface])) post)) (
 VIf (x10 == (4 : Int)) (
 ∃ a47 : Addr, (some (Addr.add b8 ((p1_p).toNat * 5))) = some a47 ∧
 ∃ x48 : Int, H.rd h4 (Addr.add (Addr.add (Addr.add a47 3) 0) 0) (Value.int .i64 x48) ∧
 ∃ a49 : Addr, p0_s = some a49 ∧
 0 ≤ x48 ∧ x48 < ((4 : Nat) : Int) ∧
 ∃ x50 : Int, H.rd h4 (Addr.add (Addr.add (Addr.add (Addr.add a49 3) ((x48).toNat * 3)) 1) 0) (Value.int .i64 x50) ∧
 ∃ a51 : Addr, (some (Addr.add b8 ((p1_p).toNat * 5))) = some a51 ∧
 H.wr h4 (Addr.add a51 2) ([(Value.int .i64 x50)]) fun h52 =>
 ∃ a53 : Addr, (some (Addr.add b8 ((p1_p).toNat * 5))) = some a53 ∧
 H.wr h52 (Addr.add a53 0) ([(Value.int .i64 (5 : Int))]) fun h54 =>
 VRet h54 (Value.tuple (List.toArray [(Value.bool false), (Value.int .i64 0), Value.nilIface])) post) (
 VIf (x10 == (5 : Int)) (
 ∃ a55 : Addr, (some (Addr.add b8 ((p1_p).toNat * 5))) = some a55 ∧
 ∃ x56 : Int, H.rd h4 (Addr.add (Addr.add a55 3) 0) (Value.int .i64 x56) ∧
 ∃ x57 : Int, H.rd h4 (Addr.add (Addr.add a55 3) 1) (Value.int .i64 x57) ∧
 ∃ a58 : Addr, (some (Addr.add b8 ((p1_p).toNat * 5))) = some a58 ∧
 ∃ x59 : Int, H.rd h4 (Addr.add (Addr.add a58 2) 0) (Value.int .i64 x59) ∧
 SemCall Go.Proofs.Tryd.prog 33 (List.toArray [(Value.pointer p0_s), (Value.agg (List.toArray [(Value.int .i64 x56), (Value.int .i64 x57)])), (Value.int .i64 x59)]) h4 fun v60 h61 =>
 ∃ x62 : Bool, v60 = (Value.bool x62) ∧
 VIf x62 (
 ∃ a63 : Addr, (some (Addr.add b8 ((p1_p).toNat * 5))) = some a63 ∧
 ∃ x64 : Int, H.rd h61 (Addr.add (Addr.add (Addr.add a63 3) 0) 0) (Value.int .i64 x64) ∧
 ∃ a65 : Addr, p0_s = some a65 ∧
 0 ≤ x64 ∧ x64 < ((4 : Nat) : Int) ∧
 ∃ x66 : Int, H.rd h61 (Addr.add (Addr.add (Addr.add (Addr.add a65 3) ((x64).toNat * 3)) 0) 0) (Value.int .i64 x66) ∧
 ∃ a67 : Addr, p0_s = some a67 ∧
 0 ≤ x64 ∧ x64 < ((4 : Nat) : Int) ∧
 H.wr h61 (Addr.add (Addr.add (Addr.add a67 3) ((x64).toNat * 3)) 2) ([(Value.bool false)]) fun h68 =>
 ∃ a69 : Addr, (some (Addr.add b8 ((p1_p).toNat * 5))) = some a69 ∧
 ([(Value.int .i64 0), (Value.int .i64 0), (Value.int .i64 0), (Value.int .i64 0), (Value.int .i64 0)]).length = 5 ∧ (Program.underlying Go.Proofs.Tryd.prog 72).isSome = true ∧
 H.wr h68 a69 ([(Value.int .i64 0), (Value.int .i64 0), (Value.int .i64 0), (Value.int .i64 0), (Value.int .i64 0)]) fun h70 =>
 VRet h70 (Value.tuple (List.toArray [(Value.bool true), (Value.int .i64 x66), Value.nilIface])) post) (
 ∃ a71 : Addr, (some (Addr.add b8 ((p1_p).toNat * 5))) = some a71 ∧
 H.wr h61 (Addr.add a71 0) ([(Value.int .i64 (3 : Int))]) fun h72 =>
 VRet h72 (Value.tuple (List.toArray [(Value.bool false), (Value.int .i64 0), Value.nilIface])) post)) (
 VRet h4 (Value.tuple (List.toArray [(Value.bool false), (Value.int .i64 0), Value.nilIface])) post)))))))

def f12_hint : Hint := (.node .leaf (.node .leaf (.node .leaf (.node (.node .leaf (.node (.node .leaf (.node .leaf (.node .leaf (.node (.node .leaf (.node (.tail 14) .leaf)) (.node .leaf (.node (.node (.node (.tail 9) .leaf) .leaf) (.node .leaf (.node .leaf (.node .leaf (.node (.node (.tail 14) .leaf) (.node .leaf (.node (.node (.node (.tail 9) .leaf) .leaf) .leaf)))))))))))) .leaf)) .leaf))))

theorem f12_eq (p0_s : Option Addr) (p1_p : Int) (h0 : H) (post : Value → H → Prop) : exec Tryd.prog (bodyOf Tryd.f12) f12_hint (retQ Tryd.prog Tryd.f12 post) (F0 [(Value.pointer p0_s), (Value.int .i64 p1_p)]) h0 = f12_sem p0_s p1_p h0 post := by kernel_rfl

set_option maxRecDepth 20000 in
theorem f12_call (p0_s : Option Addr) (p1_p : Int) (h0 : H) (post : Value → H → Prop) (hx : f12_sem p0_s p1_p h0 post) : SemCall Tryd.prog 12 (List.toArray [(Value.pointer p0_s), (Value.int .i64 p1_p)]) h0 post :=
 sem_of_exec (g := f12_hint) mixed Tryd.func12 (bodyOf_eq (by kernel_rfl)) (by kernel_rfl) ((f12_eq p0_s p1_p h0 post).mpr hx)

/- (*latchgarth/stack.Stack).Top -/
def f13_sem (p0_s : Option Addr) (h0 : H) (post : Value → H → Prop) : Prop :=
 ∃ a1 : Addr, p0_s = some a1 ∧
 ∃ x2 : Int, H.rd h0 (Addr.add (Addr.add (Addr.add a1 1) 0) 0) (Value.int .i64 x2) ∧
 ∃ a3 : Addr, p0_s = some a3 ∧
 ∃ x4 : Int, H.rd h0 (Addr.add (Addr.add (Addr.add a3 1) 1) 0) (Value.int .i64 x4) ∧
 VRet h0 (Value.tuple (List.toArray [(Value.int .i64 x2), (Value.int .i64 x4)])) post

def f13_hint : Hint := .leaf

theorem f13_eq (p0_s : Option Addr) (h0 : H) (post : Value → H → Prop) : exec Tryd.prog (bodyOf Tryd.f13) f13_hint (retQ Tryd.prog Tryd.f13 post) (F0 [(Value.pointer p0_s)]) h0 = f13_sem p0_s h0 post := by kernel_rfl

set_option maxRecDepth 20000 in
theorem f13_call (p0_s : Option Addr) (h0 : H) (post : Value → H → Prop) (hx : f13_sem p0_s h0 post) : SemCall Tryd.prog 13 (List.toArray [(Value.pointer p0_s)]) h0 post :=
 sem_of_exec (g := f13_hint) mixed Tryd.func13 (bodyOf_eq (by kernel_rfl)) (by kernel_rfl) ((f13_eq p0_s h0 post).mpr hx)

/- (*latchgarth/stack.Stack).At -/
def f14_sem (p0_s : Option Addr) (p1_p : Int) (h0 : H) (post : Value → H → Prop) : Prop :=
 ∃ a1 : Addr, p0_s = some a1 ∧
 ∃ x2 : SV, H.rd h0 (Addr.add (Addr.add a1 15) 0) (Value.slice x2.a x2.len x2.cap) ∧
 In64 (((x2.len : Nat) : Int) - (1 : Int)) ∧
 SemCall Go.Proofs.Tryd.prog 26 (List.toArray [(Value.int .i64 p1_p), (Value.int .i64 0), (Value.int .i64 (((x2.len : Nat) : Int) - (1 : Int)))]) h0 fun v3 h4 =>
 ∃ x5 : Bool, v3 = (Value.bool x5) ∧
 VIf (!x5) (
 VRet h4 (Value.int .i64 0) post) (
 ∃ a6 : Addr, p0_s = some a6 ∧
 ∃ x7 : SV, H.rd h4 (Addr.add (Addr.add a6 15) 0) (Value.slice x7.a x7.len x7.cap) ∧
 ∃ b8 : Addr, x7.a = some b8 ∧ 0 ≤ p1_p ∧ p1_p < ((x7.len : Nat) : Int) ∧
 ∃ x9 : Int, H.rd h4 (Addr.add (Addr.add (Addr.add b8 ((p1_p).toNat * 5)) 0) 0) (Value.int .i64 x9) ∧
 VRet h4 (Value.int .i64 x9) post)

def f14_hint : Hint := .leaf

theorem f14_eq (p0_s : Option Addr) (p1_p : Int) (h0 : H) (post : Value → H → Prop) : exec Tryd.prog (bodyOf Tryd.f14) f14_hint (retQ Tryd.prog Tryd.f14 post) (F0 [(Value.pointer p0_s), (Value.int .i64 p1_p)]) h0 = f14_sem p0_s p1_p h0 post := by kernel_rfl

set_option maxRecDepth 20000 in
theorem f14_call (p0_s : Option Addr) (p1_p : Int) (h0 : H) (post : Value → H → Prop) (hx : f14_sem p0_s p1_p h0 post) : SemCall Tryd.prog 14 (List.toArray [(Value.pointer p0_s), (Value.int .i64 p1_p)]) h0 post :=
 sem_of_exec (g := f14_hint) mixed Tryd.func14 (bodyOf_eq (by kernel_rfl)) (by kernel_rfl) ((f14_eq p0_s p1_p h0 post).mpr hx)

/- latchgarth/core.Hands -/
def f24_sem (p0_n : Int) (h0 : H) (post : Value → H → Prop) : Prop :=
 SemCall Go.Proofs.Tryd.prog 26 (List.toArray [(Value.int .i64 p0_n), (Value.int .i64 (1 : Int)), (Value.int .i64 (4 : Int))]) h0 fun v1 h2 =>
 ∃ x3 : Bool, v1 = (Value.bool x3) ∧
 VIf (!x3) (
 VRet h2 (Value.iface 65 (Value.int .i64 (1 : Int))) post) (
 VRet h2 Value.nilIface post)

def f24_hint : Hint := .leaf

theorem f24_eq (p0_n : Int) (h0 : H) (post : Value → H → Prop) : exec Tryd.prog (bodyOf Tryd.f24) f24_hint (retQ Tryd.prog Tryd.f24 post) (F0 [(Value.int .i64 p0_n)]) h0 = f24_sem p0_n h0 post := by kernel_rfl

set_option maxRecDepth 20000 in
theorem f24_call (p0_n : Int) (h0 : H) (post : Value → H → Prop) (hx : f24_sem p0_n h0 post) : SemCall Tryd.prog 24 (List.toArray [(Value.int .i64 p0_n)]) h0 post :=
 sem_of_exec (g := f24_hint) mixed Tryd.func24 (bodyOf_eq (by kernel_rfl)) (by kernel_rfl) ((f24_eq p0_n h0 post).mpr hx)

/- latchgarth/plain.Told -/
def f25_sem (p0_err : Option (TypeId × Value)) (h0 : H) (post : Value → H → Prop) : Prop :=
 isIfaceV (errV p0_err) = true ∧
 VIf (isNilV (errV p0_err)) (
 VRet h0 (Value.int .i64 0) post) (
 H.new h0 [(Value.int .i64 0)] fun r1 h2 =>
 SemCall Go.Proofs.Tryd.prog 38 (List.toArray [(errV p0_err), (Value.iface 89 (Value.pointer (some (Addr.mk r1 0 none))))]) h2 fun v3 h4 =>
 ∃ x5 : Bool, v3 = (Value.bool x5) ∧
 VIf x5 (
 ∃ x6 : Int, H.rd h4 (Addr.add (Addr.mk r1 0 none) 0) (Value.int .i64 x6) ∧
 VRet h4 (Value.int .i64 x6) post) (
 VRet h4 (Value.int .i64 (-1 : Int)) post))

def f25_hint : Hint := .leaf

theorem f25_eq (p0_err : Option (TypeId × Value)) (h0 : H) (post : Value → H → Prop) : exec Tryd.prog (bodyOf Tryd.f25) f25_hint (retQ Tryd.prog Tryd.f25 post) (F0 [(errV p0_err)]) h0 = f25_sem p0_err h0 post := by kernel_rfl

set_option maxRecDepth 20000 in
theorem f25_call (p0_err : Option (TypeId × Value)) (h0 : H) (post : Value → H → Prop) (hx : f25_sem p0_err h0 post) : SemCall Tryd.prog 25 (List.toArray [(errV p0_err)]) h0 post :=
 sem_of_exec (g := f25_hint) mixed Tryd.func25 (bodyOf_eq (by kernel_rfl)) (by kernel_rfl) ((f25_eq p0_err h0 post).mpr hx)

/- latchgarth/core.Within -/
def f26_sem (p0_n : Int) (p1_low : Int) (p2_high : Int) (h0 : H) (post : Value → H → Prop) : Prop :=
 ∃ R1 : Bool → H → Prop, (
 VIf (decide (p0_n ≥ p1_low)) (
 (∃ h2, Gh h0 h2 ∧ R1 (decide (p0_n ≤ p2_high)) h2)) (
 (∃ h3, Gh h0 h3 ∧ R1 false h3))) ∧
 ∀ (_ : F) (x4 : Bool) (h5 : H), R1 x4 h5 →
 VRet h5 (Value.bool x4) post

def f26_hint : Hint := (.node .leaf (.node (.join [(6, .bool)] .leaf) .leaf))

theorem f26_eq (p0_n : Int) (p1_low : Int) (p2_high : Int) (h0 : H) (post : Value → H → Prop) : exec Tryd.prog (bodyOf Tryd.f26) f26_hint (retQ Tryd.prog Tryd.f26 post) (F0 [(Value.int .i64 p0_n), (Value.int .i64 p1_low), (Value.int .i64 p2_high)]) h0 = f26_sem p0_n p1_low p2_high h0 post := by kernel_rfl

set_option maxRecDepth 20000 in
theorem f26_call (p0_n : Int) (p1_low : Int) (p2_high : Int) (h0 : H) (post : Value → H → Prop) (hx : f26_sem p0_n p1_low p2_high h0 post) : SemCall Tryd.prog 26 (List.toArray [(Value.int .i64 p0_n), (Value.int .i64 p1_low), (Value.int .i64 p2_high)]) h0 post :=
 sem_of_exec (g := f26_hint) mixed Tryd.func26 (bodyOf_eq (by kernel_rfl)) (by kernel_rfl) ((f26_eq p0_n p1_low p2_high h0 post).mpr hx)

/- (*latchgarth/stack.Stack).free -/
def f27_sem (p0_s : Option Addr) (p1_p : Int) (h0 : H) (post : Value → H → Prop) : Prop :=
 ∃ a1 : Addr, p0_s = some a1 ∧
 ∃ x2 : SV, H.rd h0 (Addr.add (Addr.add a1 15) 0) (Value.slice x2.a x2.len x2.cap) ∧
 In64 (((x2.len : Nat) : Int) - (1 : Int)) ∧
 SemCall Go.Proofs.Tryd.prog 26 (List.toArray [(Value.int .i64 p1_p), (Value.int .i64 0), (Value.int .i64 (((x2.len : Nat) : Int) - (1 : Int)))]) h0 fun v3 h4 =>
 ∃ x5 : Bool, v3 = (Value.bool x5) ∧
 VIf (!x5) (
 VRet h4 (Value.iface 65 (Value.int .i64 (1 : Int))) post) (
 ∃ a6 : Addr, p0_s = some a6 ∧
 ∃ x7 : SV, H.rd h4 (Addr.add (Addr.add a6 15) 0) (Value.slice x7.a x7.len x7.cap) ∧
 ∃ b8 : Addr, x7.a = some b8 ∧ 0 ≤ p1_p ∧ p1_p < ((x7.len : Nat) : Int) ∧
 ∃ x9 : Int, H.rd h4 (Addr.add (Addr.add (Addr.add b8 ((p1_p).toNat * 5)) 0) 0) (Value.int .i64 x9) ∧
 VIf (x9 != (0 : Int)) (
 VRet h4 (Value.iface 65 (Value.int .i64 (7 : Int))) post) (
 VRet h4 Value.nilIface post))

def f27_hint : Hint := .leaf

theorem f27_eq (p0_s : Option Addr) (p1_p : Int) (h0 : H) (post : Value → H → Prop) : exec Tryd.prog (bodyOf Tryd.f27) f27_hint (retQ Tryd.prog Tryd.f27 post) (F0 [(Value.pointer p0_s), (Value.int .i64 p1_p)]) h0 = f27_sem p0_s p1_p h0 post := by kernel_rfl

set_option maxRecDepth 20000 in
theorem f27_call (p0_s : Option Addr) (p1_p : Int) (h0 : H) (post : Value → H → Prop) (hx : f27_sem p0_s p1_p h0 post) : SemCall Tryd.prog 27 (List.toArray [(Value.pointer p0_s), (Value.int .i64 p1_p)]) h0 post :=
 sem_of_exec (g := f27_hint) mixed Tryd.func27 (bodyOf_eq (by kernel_rfl)) (by kernel_rfl) ((f27_eq p0_s p1_p h0 post).mpr hx)

/- slices.IndexFunc[[]latchgarth/stack.node,latchgarth/stack.node] -/
def f28_L1 (p0_s : SV) (post : Value → H → Prop) (R1 : H → Prop) (I2 : Nat → Int → H → Prop) (n3 : Nat) (x6 : Int) (h7 : H) : Prop :=
 VIf (decide (x6 < ((p0_s.len : Nat) : Int))) (
 ∃ b8 : Addr, p0_s.a = some b8 ∧ 0 ≤ x6 ∧ x6 < ((p0_s.len : Nat) : Int) ∧
 ∃ x9 : Int, H.rd h7 (Addr.add (Addr.add b8 ((x6).toNat * 3)) 0) (Value.int .i64 x9) ∧
 ∃ x10 : Int, H.rd h7 (Addr.add (Addr.add b8 ((x6).toNat * 3)) 1) (Value.int .i64 x10) ∧
 ∃ x11 : Bool, H.rd h7 (Addr.add (Addr.add b8 ((x6).toNat * 3)) 2) (Value.bool x11) ∧
 SemCall Go.Proofs.Tryd.prog 29 (List.toArray [(Value.agg (List.toArray [(Value.int .i64 x9), (Value.int .i64 x10), (Value.bool x11)]))]) h7 fun v12 h13 =>
 ∃ x14 : Bool, v12 = (Value.bool x14) ∧
 VIf x14 (
 VRet h13 (Value.int .i64 x6) post) (
 In64 (x6 + (1 : Int)) ∧
 ∃ m4, m4 < n3 ∧ (∃ h15, Gh h13 h15 ∧ I2 m4 (x6 + (1 : Int)) h15))) (
 (∃ h16, Gh h7 h16 ∧ R1 h16))

def f28_sem (p0_s : SV) (h0 : H) (post : Value → H → Prop) : Prop :=
 ∃ R1 : H → Prop, (
 ∃ I2 : Nat → Int → H → Prop, (∃ n3, (∃ h5, Gh h0 h5 ∧ I2 n3 (0 : Int) h5)) ∧
 ∀ (n3 : Nat) (_ : F) (x6 : Int) (h7 : H), I2 n3 x6 h7 →
 f28_L1 p0_s post R1 I2 n3 x6 h7) ∧
 ∀ (_ : F) (h17 : H), R1 h17 →
 VRet h17 (Value.int .i64 (-1 : Int)) post

def f28_hint : Hint := (.node .leaf (.node (.node .leaf (.join [] (.node (.loop [(8, .int)] .leaf) .leaf))) .leaf))

theorem f28_eq (p0_s : SV) (h0 : H) (post : Value → H → Prop) : exec Tryd.prog (bodyOf Tryd.f28) f28_hint (retQ Tryd.prog Tryd.f28 post) (F0 [(Value.slice p0_s.a p0_s.len p0_s.cap), (Value.func (.func 29) #[] #[])]) h0 = f28_sem p0_s h0 post := by kernel_rfl

set_option maxRecDepth 20000 in
theorem f28_call (p0_s : SV) (h0 : H) (post : Value → H → Prop) (hx : f28_sem p0_s h0 post) : SemCall Tryd.prog 28 (List.toArray [(Value.slice p0_s.a p0_s.len p0_s.cap), (Value.func (.func 29) #[] #[])]) h0 post :=
 sem_of_exec (g := f28_hint) mixed Tryd.func28 (bodyOf_eq (by kernel_rfl)) (by kernel_rfl) ((f28_eq p0_s h0 post).mpr hx)

/- (*latchgarth/stack.Stack).Push$1 -/
def f29_sem (p0_0_n : Int) (p0_1_n : Int) (p0_2_n : Bool) (h0 : H) (post : Value → H → Prop) : Prop :=
 H.new h0 [(Value.int .i64 p0_0_n), (Value.int .i64 p0_1_n), (Value.bool p0_2_n)] fun r1 h2 =>
 ∃ x3 : Bool, H.rd h2 (Addr.add (Addr.add (Addr.mk r1 0 none) 2) 0) (Value.bool x3) ∧
 VRet h2 (Value.bool (!x3)) post

def f29_hint : Hint := .leaf

theorem f29_eq (p0_0_n : Int) (p0_1_n : Int) (p0_2_n : Bool) (h0 : H) (post : Value → H → Prop) : exec Tryd.prog (bodyOf Tryd.f29) f29_hint (retQ Tryd.prog Tryd.f29 post) (F0 [(Value.agg (List.toArray [(Value.int .i64 p0_0_n), (Value.int .i64 p0_1_n), (Value.bool p0_2_n)]))]) h0 = f29_sem p0_0_n p0_1_n p0_2_n h0 post := by kernel_rfl

set_option maxRecDepth 20000 in
theorem f29_call (p0_0_n : Int) (p0_1_n : Int) (p0_2_n : Bool) (h0 : H) (post : Value → H → Prop) (hx : f29_sem p0_0_n p0_1_n p0_2_n h0 post) : SemCall Tryd.prog 29 (List.toArray [(Value.agg (List.toArray [(Value.int .i64 p0_0_n), (Value.int .i64 p0_1_n), (Value.bool p0_2_n)]))]) h0 post :=
 sem_of_exec (g := f29_hint) mixed Tryd.func29 (bodyOf_eq (by kernel_rfl)) (by kernel_rfl) ((f29_eq p0_0_n p0_1_n p0_2_n h0 post).mpr hx)

/- latchgarth/latchgarthref3.in -/
def f30_sem (p0_n : Int) (p1_low : Int) (p2_high : Int) (h0 : H) (post : Value → H → Prop) : Prop :=
 ∃ R1 : Bool → H → Prop, (
 VIf (decide (p0_n ≥ p1_low)) (
 (∃ h2, Gh h0 h2 ∧ R1 (decide (p0_n ≤ p2_high)) h2)) (
 (∃ h3, Gh h0 h3 ∧ R1 false h3))) ∧
 ∀ (_ : F) (x4 : Bool) (h5 : H), R1 x4 h5 →
 VRet h5 (Value.bool x4) post

def f30_hint : Hint := (.node .leaf (.node (.join [(6, .bool)] .leaf) .leaf))

theorem f30_eq (p0_n : Int) (p1_low : Int) (p2_high : Int) (h0 : H) (post : Value → H → Prop) : exec Tryd.prog (bodyOf Tryd.f30) f30_hint (retQ Tryd.prog Tryd.f30 post) (F0 [(Value.int .i64 p0_n), (Value.int .i64 p1_low), (Value.int .i64 p2_high)]) h0 = f30_sem p0_n p1_low p2_high h0 post := by kernel_rfl

set_option maxRecDepth 20000 in
theorem f30_call (p0_n : Int) (p1_low : Int) (p2_high : Int) (h0 : H) (post : Value → H → Prop) (hx : f30_sem p0_n p1_low p2_high h0 post) : SemCall Tryd.prog 30 (List.toArray [(Value.int .i64 p0_n), (Value.int .i64 p1_low), (Value.int .i64 p2_high)]) h0 post :=
 sem_of_exec (g := f30_hint) mixed Tryd.func30 (bodyOf_eq (by kernel_rfl)) (by kernel_rfl) ((f30_eq p0_n p1_low p2_high h0 post).mpr hx)

/- latchgarth/latchgarthref3.set -/
def f31_sem (p0_l : SV) (p1_i : Int) (p2_n : Int) (h0 : H) (post : Value → H → Prop) : Prop :=
 appVC Go.Proofs.Tryd.prog 29 (Value.slice none 0 0) (Value.slice p0_l.a p0_l.len p0_l.cap) h0 fun x1 h2 =>
 ∃ b3 : Addr, x1.a = some b3 ∧ 0 ≤ p1_i ∧ p1_i < ((x1.len : Nat) : Int) ∧
 H.wr h2 (Addr.add b3 ((p1_i).toNat * 1)) ([(Value.int .i64 p2_n)]) fun h4 =>
 VRet h4 (Value.slice x1.a x1.len x1.cap) post

def f31_hint : Hint := .leaf

theorem f31_eq (p0_l : SV) (p1_i : Int) (p2_n : Int) (h0 : H) (post : Value → H → Prop) : exec Tryd.prog (bodyOf Tryd.f31) f31_hint (retQ Tryd.prog Tryd.f31 post) (F0 [(Value.slice p0_l.a p0_l.len p0_l.cap), (Value.int .i64 p1_i), (Value.int .i64 p2_n)]) h0 = f31_sem p0_l p1_i p2_n h0 post := by kernel_rfl

set_option maxRecDepth 20000 in
theorem f31_call (p0_l : SV) (p1_i : Int) (p2_n : Int) (h0 : H) (post : Value → H → Prop) (hx : f31_sem p0_l p1_i p2_n h0 post) : SemCall Tryd.prog 31 (List.toArray [(Value.slice p0_l.a p0_l.len p0_l.cap), (Value.int .i64 p1_i), (Value.int .i64 p2_n)]) h0 post :=
 sem_of_exec (g := f31_hint) mixed Tryd.func31 (bodyOf_eq (by kernel_rfl)) (by kernel_rfl) ((f31_eq p0_l p1_i p2_n h0 post).mpr hx)

/- latchgarth/latchgarthref3.used -/
def f32_sem (p0_l : SV) (p1_i : Int) (p2_is : Bool) (h0 : H) (post : Value → H → Prop) : Prop :=
 appVC Go.Proofs.Tryd.prog 30 (Value.slice none 0 0) (Value.slice p0_l.a p0_l.len p0_l.cap) h0 fun x1 h2 =>
 ∃ b3 : Addr, x1.a = some b3 ∧ 0 ≤ p1_i ∧ p1_i < ((x1.len : Nat) : Int) ∧
 H.wr h2 (Addr.add b3 ((p1_i).toNat * 1)) ([(Value.bool p2_is)]) fun h4 =>
 VRet h4 (Value.slice x1.a x1.len x1.cap) post

def f32_hint : Hint := .leaf

theorem f32_eq (p0_l : SV) (p1_i : Int) (p2_is : Bool) (h0 : H) (post : Value → H → Prop) : exec Tryd.prog (bodyOf Tryd.f32) f32_hint (retQ Tryd.prog Tryd.f32 post) (F0 [(Value.slice p0_l.a p0_l.len p0_l.cap), (Value.int .i64 p1_i), (Value.bool p2_is)]) h0 = f32_sem p0_l p1_i p2_is h0 post := by kernel_rfl

set_option maxRecDepth 20000 in
theorem f32_call (p0_l : SV) (p1_i : Int) (p2_is : Bool) (h0 : H) (post : Value → H → Prop) (hx : f32_sem p0_l p1_i p2_is h0 post) : SemCall Tryd.prog 32 (List.toArray [(Value.slice p0_l.a p0_l.len p0_l.cap), (Value.int .i64 p1_i), (Value.bool p2_is)]) h0 post :=
 sem_of_exec (g := f32_hint) mixed Tryd.func32 (bodyOf_eq (by kernel_rfl)) (by kernel_rfl) ((f32_eq p0_l p1_i p2_is h0 post).mpr hx)

/- (*latchgarth/stack.Stack).change -/
def f33_sem (p0_s : Option Addr) (p1_0_seen : Int) (p1_1_seen : Int) (p2_node : Int) (h0 : H) (post : Value → H → Prop) : Prop :=
 H.new h0 [(Value.int .i64 p1_0_seen), (Value.int .i64 p1_1_seen)] fun r1 h2 =>
 ∃ a3 : Addr, p0_s = some a3 ∧
 ∃ x4 : Bool, H.rd h2 (Addr.add (Addr.add a3 0) 0) (Value.bool x4) ∧
 ∃ R5 : Int → H → Prop, (
 VIf x4 (
 ∃ x6 : Int, H.rd h2 (Addr.add (Addr.add (Addr.mk r1 0 none) 1) 0) (Value.int .i64 x6) ∧
 In64 (x6 + (1 : Int)) ∧
 (∃ h7, Gh h2 h7 ∧ R5 (x6 + (1 : Int)) h7)) (
 (∃ h8, Gh h2 h8 ∧ R5 (0 : Int) h8))) ∧
 ∀ (_ : F) (x9_tag : Int) (h10 : H), R5 x9_tag h10 →
 ∃ a11 : Addr, p0_s = some a11 ∧
 ∃ x12 : Int, H.rd h10 (Addr.add (Addr.mk r1 0 none) 0) (Value.int .i64 x12) ∧
 ∃ x13 : Int, H.rd h10 (Addr.add (Addr.mk r1 0 none) 1) (Value.int .i64 x13) ∧
 SemCall Go.Proofs.Tryd.prog 39 (List.toArray [(Value.pointer (some (Addr.add a11 1))), (Value.agg (List.toArray [(Value.int .i64 x12), (Value.int .i64 x13)])), (Value.agg (List.toArray [(Value.int .i64 p2_node), (Value.int .i64 x9_tag)]))]) h10 fun v14 h15 =>
 ∃ x16 : Bool, v14 = (Value.bool x16) ∧
 VRet h15 (Value.bool x16) post

def f33_hint : Hint := (.node .leaf (.node .leaf (.node (.node .leaf (.join [(7, .int)] .leaf)) (.node (.tail 7) .leaf))))

theorem f33_eq (p0_s : Option Addr) (p1_0_seen : Int) (p1_1_seen : Int) (p2_node : Int) (h0 : H) (post : Value → H → Prop) : exec Tryd.prog (bodyOf Tryd.f33) f33_hint (retQ Tryd.prog Tryd.f33 post) (F0 [(Value.pointer p0_s), (Value.agg (List.toArray [(Value.int .i64 p1_0_seen), (Value.int .i64 p1_1_seen)])), (Value.int .i64 p2_node)]) h0 = f33_sem p0_s p1_0_seen p1_1_seen p2_node h0 post := by kernel_rfl

set_option maxRecDepth 20000 in
theorem f33_call (p0_s : Option Addr) (p1_0_seen : Int) (p1_1_seen : Int) (p2_node : Int) (h0 : H) (post : Value → H → Prop) (hx : f33_sem p0_s p1_0_seen p1_1_seen p2_node h0 post) : SemCall Tryd.prog 33 (List.toArray [(Value.pointer p0_s), (Value.agg (List.toArray [(Value.int .i64 p1_0_seen), (Value.int .i64 p1_1_seen)])), (Value.int .i64 p2_node)]) h0 post :=
 sem_of_exec (g := f33_hint) mixed Tryd.func33 (bodyOf_eq (by kernel_rfl)) (by kernel_rfl) ((f33_eq p0_s p1_0_seen p1_1_seen p2_node h0 post).mpr hx)

/- latchgarth/latchgarthref3.more -/
def f35_sem (p0_l : SV) (p1_n : Int) (h0 : H) (post : Value → H → Prop) : Prop :=
 appVC Go.Proofs.Tryd.prog 29 (Value.slice none 0 0) (Value.slice p0_l.a p0_l.len p0_l.cap) h0 fun x1 h2 =>
 H.new h2 [(Value.int .i64 p1_n)] fun r3 h4 =>
 appVC Go.Proofs.Tryd.prog 29 (Value.slice x1.a x1.len x1.cap) (Value.slice (some (Addr.mk r3 0 none)) 1 1) h4 fun x5 h6 =>
 VRet h6 (Value.slice x5.a x5.len x5.cap) post

def f35_hint : Hint := .leaf

theorem f35_eq (p0_l : SV) (p1_n : Int) (h0 : H) (post : Value → H → Prop) : exec Tryd.prog (bodyOf Tryd.f35) f35_hint (retQ Tryd.prog Tryd.f35 post) (F0 [(Value.slice p0_l.a p0_l.len p0_l.cap), (Value.int .i64 p1_n)]) h0 = f35_sem p0_l p1_n h0 post := by kernel_rfl

set_option maxRecDepth 20000 in
theorem f35_call (p0_l : SV) (p1_n : Int) (h0 : H) (post : Value → H → Prop) (hx : f35_sem p0_l p1_n h0 post) : SemCall Tryd.prog 35 (List.toArray [(Value.slice p0_l.a p0_l.len p0_l.cap), (Value.int .i64 p1_n)]) h0 post :=
 sem_of_exec (g := f35_hint) mixed Tryd.func35 (bodyOf_eq (by kernel_rfl)) (by kernel_rfl) ((f35_eq p0_l p1_n h0 post).mpr hx)

end Go.Proofs.YtogbkgimpkaemaaDoor
