import Derived.Test.YtnecppjgcbhnaaaDoorEngG
import Derived.Test.YtnecppjgcbhnaaaDoorRows
namespace Go.Proofs.YtnecppjgcbhnaaaDoor
open Go.Eng
theorem mixed : Tryd.prog.follows .mixedOrders = true := by kernel_rfl
/- latchgarth/latchgarthlaw3.SnapPlays -/
def f5_L1 (p0_n : Int) (post : Value → H → Prop) (x3 : Option Addr) (r23 : Nat) (x209 : SV) (R210 : H → Prop) (I211 : Nat → Int → H → Prop) (n212 : Nat) (x215_q : Int) (h216 : H) : Prop :=
 VIf (decide (x215_q < p0_n)) (
 ∃ R217 : Bool → H → Prop, (
 ∃ x218 : SV, H.rd h216 (Addr.add (Addr.add (Addr.mk r23 0 none) 1) 0) (Value.slice x218.a x218.len x218.cap) ∧
 ∃ b219 : Addr, x218.a = some b219 ∧ 0 ≤ x215_q ∧ x215_q < ((x218.len : Nat) : Int) ∧
 ∃ x220 : Int, H.rd h216 (Addr.add (Addr.add b219 ((x215_q).toNat * 1)) 0) (Value.int .i64 x220) ∧
 SemCall Go.Proofs.Tryd.prog 34 (List.toArray [(Value.pointer x3), (Value.int .i64 x215_q)]) h216 fun v221 h222 => OwnExt h216 h222 ∧
 ∃ x223 : Int, v221 = (Value.int .i64 x223) ∧
 VIf (x223 != x220) (
 (∃ h224, Gh h222 h224 ∧ R217 true h224)) (
 ∃ b225 : Addr, x209.a = some b225 ∧ 0 ≤ x215_q ∧ x215_q < ((x209.len : Nat) : Int) ∧
 ∃ x226 : Int, H.rd h222 (Addr.add (Addr.add b225 ((x215_q).toNat * 1)) 0) (Value.int .i64 x226) ∧
 ∃ x227 : SV, H.rd h222 (Addr.add (Addr.add (Addr.mk r23 0 none) 0) 0) (Value.slice x227.a x227.len x227.cap) ∧
 ∃ b228 : Addr, x227.a = some b228 ∧ 0 ≤ x215_q ∧ x215_q < ((x227.len : Nat) : Int) ∧
 ∃ x229 : Int, H.rd h222 (Addr.add (Addr.add (Addr.add b228 ((x215_q).toNat * 3)) 0) 0) (Value.int .i64 x229) ∧
 (∃ h230, Gh h222 h230 ∧ R217 (x226 != x229) h230))) ∧
 ∀ (_ : F) (x231 : Bool) (h232 : H), R217 x231 h232 →
 VIf x231 (
 VRet h232 (Value.bool false) post) (
 In64 (x215_q + (1 : Int)) ∧
 ∃ m213, m213 < n212 ∧ (∃ h233, Gh h232 h233 ∧ I211 m213 (x215_q + (1 : Int)) h233))) (
 (∃ h234, Gh h216 h234 ∧ R210 h234))

def f5_J2 (p0_n : Int) (post : Value → H → Prop) (x3 : Option Addr) (r23 : Nat) (R38 : H → Prop) (h206 : H) : Prop :=
 SemCall Go.Proofs.Tryd.prog 33 (List.toArray [(Value.pointer x3)]) h206 fun v207 h208 =>
 ∃ x209 : SV, v207 = (Value.slice x209.a x209.len x209.cap) ∧
 VIf (((x209.len : Nat) : Int) != p0_n) (
 VRet h208 (Value.bool false) post) (
 ∃ R210 : H → Prop, (
 ∃ I211 : Nat → Int → H → Prop, (∃ n212, (∃ h214, Gh h208 h214 ∧ I211 n212 (0 : Int) h214)) ∧
 ∀ (n212 : Nat) (_ : F) (x215_q : Int) (h216 : H), I211 n212 x215_q h216 →
 f5_L1 p0_n post x3 r23 x209 R210 I211 n212 x215_q h216) ∧
 ∀ (_ : F) (h235 : H), R210 h235 →
 (∃ h236, Gh h235 h236 ∧ R38 h236))

def f5_J3 (p0_n : Int) (post : Value → H → Prop) (x3 : Option Addr) (r23 : Nat) (R38 : H → Prop) (x40 : SV) (h148 : H) : Prop :=
 ∃ R149 : H → Prop, (
 VIf (((x40.len : Nat) : Int) == (1 : Int)) (
 ∃ b150 : Addr, x40.a = some b150 ∧ 0 ≤ (0 : Int) ∧ (0 : Int) < ((x40.len : Nat) : Int) ∧
 ∃ x151 : SV, H.rd h148 (Addr.add (Addr.mk r23 0 none) 0) (Value.slice x151.a x151.len x151.cap) ∧
 ∃ x152 : SV, H.rd h148 (Addr.add (Addr.mk r23 0 none) 1) (Value.slice x152.a x152.len x152.cap) ∧
 ∃ x153 : SV, H.rd h148 (Addr.add (Addr.mk r23 0 none) 2) (Value.slice x153.a x153.len x153.cap) ∧
 ∃ x154 : SV, H.rd h148 (Addr.add (Addr.mk r23 0 none) 3) (Value.slice x154.a x154.len x154.cap) ∧
 ∃ x155 : SV, H.rd h148 (Addr.add (Addr.mk r23 0 none) 4) (Value.slice x155.a x155.len x155.cap) ∧
 ∃ x156 : SV, H.rd h148 (Addr.add (Addr.mk r23 0 none) 5) (Value.slice x156.a x156.len x156.cap) ∧
 ∃ x157 : SV, H.rd h148 (Addr.add (Addr.mk r23 0 none) 6) (Value.slice x157.a x157.len x157.cap) ∧
 ∃ x158 : SV, H.rd h148 (Addr.add (Addr.mk r23 0 none) 7) (Value.slice x158.a x158.len x158.cap) ∧
 ∃ x159 : Int, H.rd h148 (Addr.add (Addr.add b150 (((0 : Int)).toNat * 1)) 0) (Value.int .i64 x159) ∧
 SemCall Go.Proofs.Tryd.prog 31 (List.toArray [(Value.agg (List.toArray [(Value.slice x151.a x151.len x151.cap), (Value.slice x152.a x152.len x152.cap), (Value.slice x153.a x153.len x153.cap), (Value.slice x154.a x154.len x154.cap), (Value.slice x155.a x155.len x155.cap), (Value.slice x156.a x156.len x156.cap), (Value.slice x157.a x157.len x157.cap), (Value.slice x158.a x158.len x158.cap)])), (Value.int .i64 x159)]) h148 fun v160 h161 => OwnExt h148 h161 ∧
 ∃ x162 : SV, ∃ x163 : SV, ∃ x164 : SV, ∃ x165 : SV, ∃ x166 : SV, ∃ x167 : SV, ∃ x168 : SV, ∃ x169 : SV, ∃ x170 : Bool, ∃ x171 : SV, ∃ x172 : Int, v160 = (Value.tuple (List.toArray [(Value.agg (List.toArray [(Value.slice x162.a x162.len x162.cap), (Value.slice x163.a x163.len x163.cap), (Value.slice x164.a x164.len x164.cap), (Value.slice x165.a x165.len x165.cap), (Value.slice x166.a x166.len x166.cap), (Value.slice x167.a x167.len x167.cap), (Value.slice x168.a x168.len x168.cap), (Value.slice x169.a x169.len x169.cap)])), (Value.bool x170), (Value.slice x171.a x171.len x171.cap), (Value.int .i64 x172)])) ∧
 H.new h161 [(Value.slice none 0 0), (Value.slice none 0 0), (Value.slice none 0 0), (Value.slice none 0 0), (Value.slice none 0 0), (Value.slice none 0 0), (Value.slice none 0 0), (Value.slice none 0 0)] fun r173 h174 =>
 ([(Value.slice x162.a x162.len x162.cap), (Value.slice x163.a x163.len x163.cap), (Value.slice x164.a x164.len x164.cap), (Value.slice x165.a x165.len x165.cap), (Value.slice x166.a x166.len x166.cap), (Value.slice x167.a x167.len x167.cap), (Value.slice x168.a x168.len x168.cap), (Value.slice x169.a x169.len x169.cap)]).length = 8 ∧ (Program.underlying Go.Proofs.Tryd.prog 69).isSome = true ∧
 H.wr h174 (Addr.mk r173 0 none) ([(Value.slice x162.a x162.len x162.cap), (Value.slice x163.a x163.len x163.cap), (Value.slice x164.a x164.len x164.cap), (Value.slice x165.a x165.len x165.cap), (Value.slice x166.a x166.len x166.cap), (Value.slice x167.a x167.len x167.cap), (Value.slice x168.a x168.len x168.cap), (Value.slice x169.a x169.len x169.cap)]) fun h175 =>
 ∃ x176 : SV, H.rd h175 (Addr.add (Addr.mk r173 0 none) 0) (Value.slice x176.a x176.len x176.cap) ∧
 ∃ x177 : SV, H.rd h175 (Addr.add (Addr.mk r173 0 none) 1) (Value.slice x177.a x177.len x177.cap) ∧
 ∃ x178 : SV, H.rd h175 (Addr.add (Addr.mk r173 0 none) 2) (Value.slice x178.a x178.len x178.cap) ∧
 ∃ x179 : SV, H.rd h175 (Addr.add (Addr.mk r173 0 none) 3) (Value.slice x179.a x179.len x179.cap) ∧
 ∃ x180 : SV, H.rd h175 (Addr.add (Addr.mk r173 0 none) 4) (Value.slice x180.a x180.len x180.cap) ∧
 ∃ x181 : SV, H.rd h175 (Addr.add (Addr.mk r173 0 none) 5) (Value.slice x181.a x181.len x181.cap) ∧
 ∃ x182 : SV, H.rd h175 (Addr.add (Addr.mk r173 0 none) 6) (Value.slice x182.a x182.len x182.cap) ∧
 ∃ x183 : SV, H.rd h175 (Addr.add (Addr.mk r173 0 none) 7) (Value.slice x183.a x183.len x183.cap) ∧
 ([(Value.slice x176.a x176.len x176.cap), (Value.slice x177.a x177.len x177.cap), (Value.slice x178.a x178.len x178.cap), (Value.slice x179.a x179.len x179.cap), (Value.slice x180.a x180.len x180.cap), (Value.slice x181.a x181.len x181.cap), (Value.slice x182.a x182.len x182.cap), (Value.slice x183.a x183.len x183.cap)]).length = 8 ∧ (Program.underlying Go.Proofs.Tryd.prog 69).isSome = true ∧
 H.wr h175 (Addr.mk r23 0 none) ([(Value.slice x176.a x176.len x176.cap), (Value.slice x177.a x177.len x177.cap), (Value.slice x178.a x178.len x178.cap), (Value.slice x179.a x179.len x179.cap), (Value.slice x180.a x180.len x180.cap), (Value.slice x181.a x181.len x181.cap), (Value.slice x182.a x182.len x182.cap), (Value.slice x183.a x183.len x183.cap)]) fun h184 =>
 ∃ b185 : Addr, x40.a = some b185 ∧ 0 ≤ (0 : Int) ∧ (0 : Int) < ((x40.len : Nat) : Int) ∧
 ∃ x186 : Int, H.rd h184 (Addr.add (Addr.add b185 (((0 : Int)).toNat * 1)) 0) (Value.int .i64 x186) ∧
 SemCall Go.Proofs.Tryd.prog 32 (List.toArray [(Value.pointer x3), (Value.int .i64 x186)]) h184 fun v187 h188 =>
 ∃ x189 : Bool, ∃ x190 : SV, ∃ x191 : Option (TypeId × Value), v187 = (Value.tuple (List.toArray [(Value.bool x189), (Value.slice x190.a x190.len x190.cap), (errV x191)])) ∧
 ∃ R192 : Bool → H → Prop, (
 SemCall Go.Proofs.Tryd.prog 7 (List.toArray [(errV x191), (Value.int .i64 x172)]) h188 fun v193 h194 =>
 ∃ x195 : Bool, v193 = (Value.bool x195) ∧
 VIf (!x195) (
 (∃ h196, Gh h194 h196 ∧ R192 true h196)) (
 VIf (!(x189 == x170)) (
 (∃ h197, Gh h194 h197 ∧ R192 true h197)) (
 SemCall Go.Proofs.Tryd.prog 16 (List.toArray [(Value.slice x190.a x190.len x190.cap), (Value.slice x171.a x171.len x171.cap)]) h194 fun v198 h199 =>
 ∃ x200 : Bool, v198 = (Value.bool x200) ∧
 (∃ h201, Gh h199 h201 ∧ R192 (!x200) h201)))) ∧
 ∀ (_ : F) (x202 : Bool) (h203 : H), R192 x202 h203 →
 VIf x202 (
 VRet h203 (Value.bool false) post) (
 (∃ h204, Gh h203 h204 ∧ R149 h204))) (
 (∃ h205, Gh h148 h205 ∧ R149 h205))) ∧
 ∀ (_ : F) (h206 : H), R149 h206 →
 f5_J2 p0_n post x3 r23 R38 h206

def f5_J4 (p0_n : Int) (post : Value → H → Prop) (x3 : Option Addr) (r23 : Nat) (R38 : H → Prop) (x40 : SV) (x102 : Bool) (h103 : H) : Prop :=
 ∃ R104 : H → Prop, (
 VIf x102 (
 ∃ b105 : Addr, x40.a = some b105 ∧ 0 ≤ (0 : Int) ∧ (0 : Int) < ((x40.len : Nat) : Int) ∧
 ∃ x106 : SV, H.rd h103 (Addr.add (Addr.mk r23 0 none) 0) (Value.slice x106.a x106.len x106.cap) ∧
 ∃ x107 : SV, H.rd h103 (Addr.add (Addr.mk r23 0 none) 1) (Value.slice x107.a x107.len x107.cap) ∧
 ∃ x108 : SV, H.rd h103 (Addr.add (Addr.mk r23 0 none) 2) (Value.slice x108.a x108.len x108.cap) ∧
 ∃ x109 : SV, H.rd h103 (Addr.add (Addr.mk r23 0 none) 3) (Value.slice x109.a x109.len x109.cap) ∧
 ∃ x110 : SV, H.rd h103 (Addr.add (Addr.mk r23 0 none) 4) (Value.slice x110.a x110.len x110.cap) ∧
 ∃ x111 : SV, H.rd h103 (Addr.add (Addr.mk r23 0 none) 5) (Value.slice x111.a x111.len x111.cap) ∧
 ∃ x112 : SV, H.rd h103 (Addr.add (Addr.mk r23 0 none) 6) (Value.slice x112.a x112.len x112.cap) ∧
 ∃ x113 : SV, H.rd h103 (Addr.add (Addr.mk r23 0 none) 7) (Value.slice x113.a x113.len x113.cap) ∧
 ∃ x114 : Int, H.rd h103 (Addr.add (Addr.add b105 (((0 : Int)).toNat * 1)) 0) (Value.int .i64 x114) ∧
 SemCall Go.Proofs.Tryd.prog 28 (List.toArray [(Value.agg (List.toArray [(Value.slice x106.a x106.len x106.cap), (Value.slice x107.a x107.len x107.cap), (Value.slice x108.a x108.len x108.cap), (Value.slice x109.a x109.len x109.cap), (Value.slice x110.a x110.len x110.cap), (Value.slice x111.a x111.len x111.cap), (Value.slice x112.a x112.len x112.cap), (Value.slice x113.a x113.len x113.cap)])), (Value.int .i64 x114), (Value.bool false), (Value.int .i64 0)]) h103 fun v115 h116 => OwnExt h103 h116 ∧
 ∃ x117 : SV, ∃ x118 : SV, ∃ x119 : SV, ∃ x120 : SV, ∃ x121 : SV, ∃ x122 : SV, ∃ x123 : SV, ∃ x124 : SV, ∃ x125 : Int, v115 = (Value.tuple (List.toArray [(Value.agg (List.toArray [(Value.slice x117.a x117.len x117.cap), (Value.slice x118.a x118.len x118.cap), (Value.slice x119.a x119.len x119.cap), (Value.slice x120.a x120.len x120.cap), (Value.slice x121.a x121.len x121.cap), (Value.slice x122.a x122.len x122.cap), (Value.slice x123.a x123.len x123.cap), (Value.slice x124.a x124.len x124.cap)])), (Value.int .i64 x125)])) ∧
 H.new h116 [(Value.slice none 0 0), (Value.slice none 0 0), (Value.slice none 0 0), (Value.slice none 0 0), (Value.slice none 0 0), (Value.slice none 0 0), (Value.slice none 0 0), (Value.slice none 0 0)] fun r126 h127 =>
 ([(Value.slice x117.a x117.len x117.cap), (Value.slice x118.a x118.len x118.cap), (Value.slice x119.a x119.len x119.cap), (Value.slice x120.a x120.len x120.cap), (Value.slice x121.a x121.len x121.cap), (Value.slice x122.a x122.len x122.cap), (Value.slice x123.a x123.len x123.cap), (Value.slice x124.a x124.len x124.cap)]).length = 8 ∧ (Program.underlying Go.Proofs.Tryd.prog 69).isSome = true ∧
 H.wr h127 (Addr.mk r126 0 none) ([(Value.slice x117.a x117.len x117.cap), (Value.slice x118.a x118.len x118.cap), (Value.slice x119.a x119.len x119.cap), (Value.slice x120.a x120.len x120.cap), (Value.slice x121.a x121.len x121.cap), (Value.slice x122.a x122.len x122.cap), (Value.slice x123.a x123.len x123.cap), (Value.slice x124.a x124.len x124.cap)]) fun h128 =>
 ∃ x129 : SV, H.rd h128 (Addr.add (Addr.mk r126 0 none) 0) (Value.slice x129.a x129.len x129.cap) ∧
 ∃ x130 : SV, H.rd h128 (Addr.add (Addr.mk r126 0 none) 1) (Value.slice x130.a x130.len x130.cap) ∧
 ∃ x131 : SV, H.rd h128 (Addr.add (Addr.mk r126 0 none) 2) (Value.slice x131.a x131.len x131.cap) ∧
 ∃ x132 : SV, H.rd h128 (Addr.add (Addr.mk r126 0 none) 3) (Value.slice x132.a x132.len x132.cap) ∧
 ∃ x133 : SV, H.rd h128 (Addr.add (Addr.mk r126 0 none) 4) (Value.slice x133.a x133.len x133.cap) ∧
 ∃ x134 : SV, H.rd h128 (Addr.add (Addr.mk r126 0 none) 5) (Value.slice x134.a x134.len x134.cap) ∧
 ∃ x135 : SV, H.rd h128 (Addr.add (Addr.mk r126 0 none) 6) (Value.slice x135.a x135.len x135.cap) ∧
 ∃ x136 : SV, H.rd h128 (Addr.add (Addr.mk r126 0 none) 7) (Value.slice x136.a x136.len x136.cap) ∧
 ([(Value.slice x129.a x129.len x129.cap), (Value.slice x130.a x130.len x130.cap), (Value.slice x131.a x131.len x131.cap), (Value.slice x132.a x132.len x132.cap), (Value.slice x133.a x133.len x133.cap), (Value.slice x134.a x134.len x134.cap), (Value.slice x135.a x135.len x135.cap), (Value.slice x136.a x136.len x136.cap)]).length = 8 ∧ (Program.underlying Go.Proofs.Tryd.prog 69).isSome = true ∧
 H.wr h128 (Addr.mk r23 0 none) ([(Value.slice x129.a x129.len x129.cap), (Value.slice x130.a x130.len x130.cap), (Value.slice x131.a x131.len x131.cap), (Value.slice x132.a x132.len x132.cap), (Value.slice x133.a x133.len x133.cap), (Value.slice x134.a x134.len x134.cap), (Value.slice x135.a x135.len x135.cap), (Value.slice x136.a x136.len x136.cap)]) fun h137 =>
 ∃ b138 : Addr, x40.a = some b138 ∧ 0 ≤ (0 : Int) ∧ (0 : Int) < ((x40.len : Nat) : Int) ∧
 ∃ x139 : Int, H.rd h137 (Addr.add (Addr.add b138 (((0 : Int)).toNat * 1)) 0) (Value.int .i64 x139) ∧
 SemCall Go.Proofs.Tryd.prog 30 (List.toArray [(Value.pointer x3), (Value.int .i64 x139)]) h137 fun v140 h141 =>
 ∃ x142 : Option (TypeId × Value), v140 = (errV x142) ∧
 SemCall Go.Proofs.Tryd.prog 7 (List.toArray [(errV x142), (Value.int .i64 x125)]) h141 fun v143 h144 =>
 ∃ x145 : Bool, v143 = (Value.bool x145) ∧
 VIf (!x145) (
 VRet h144 (Value.bool false) post) (
 (∃ h146, Gh h144 h146 ∧ R104 h146))) (
 (∃ h147, Gh h103 h147 ∧ R104 h147))) ∧
 ∀ (_ : F) (h148 : H), R104 h148 →
 f5_J3 p0_n post x3 r23 R38 x40 h148

def f5_J5 (p0_n : Int) (post : Value → H → Prop) (x3 : Option Addr) (r23 : Nat) (R38 : H → Prop) (x40 : SV) (x46 : Bool) (h47 : H) : Prop :=
 ∃ R48 : H → Prop, (
 VIf x46 (
 ∃ b49 : Addr, x40.a = some b49 ∧ 0 ≤ (0 : Int) ∧ (0 : Int) < ((x40.len : Nat) : Int) ∧
 ∃ b50 : Addr, x40.a = some b50 ∧ 0 ≤ (1 : Int) ∧ (1 : Int) < ((x40.len : Nat) : Int) ∧
 ∃ x51 : SV, H.rd h47 (Addr.add (Addr.mk r23 0 none) 0) (Value.slice x51.a x51.len x51.cap) ∧
 ∃ x52 : SV, H.rd h47 (Addr.add (Addr.mk r23 0 none) 1) (Value.slice x52.a x52.len x52.cap) ∧
 ∃ x53 : SV, H.rd h47 (Addr.add (Addr.mk r23 0 none) 2) (Value.slice x53.a x53.len x53.cap) ∧
 ∃ x54 : SV, H.rd h47 (Addr.add (Addr.mk r23 0 none) 3) (Value.slice x54.a x54.len x54.cap) ∧
 ∃ x55 : SV, H.rd h47 (Addr.add (Addr.mk r23 0 none) 4) (Value.slice x55.a x55.len x55.cap) ∧
 ∃ x56 : SV, H.rd h47 (Addr.add (Addr.mk r23 0 none) 5) (Value.slice x56.a x56.len x56.cap) ∧
 ∃ x57 : SV, H.rd h47 (Addr.add (Addr.mk r23 0 none) 6) (Value.slice x57.a x57.len x57.cap) ∧
 ∃ x58 : SV, H.rd h47 (Addr.add (Addr.mk r23 0 none) 7) (Value.slice x58.a x58.len x58.cap) ∧
 ∃ x59 : Int, H.rd h47 (Addr.add (Addr.add b49 (((0 : Int)).toNat * 1)) 0) (Value.int .i64 x59) ∧
 ∃ x60 : Int, H.rd h47 (Addr.add (Addr.add b50 (((1 : Int)).toNat * 1)) 0) (Value.int .i64 x60) ∧
 SemCall Go.Proofs.Tryd.prog 28 (List.toArray [(Value.agg (List.toArray [(Value.slice x51.a x51.len x51.cap), (Value.slice x52.a x52.len x52.cap), (Value.slice x53.a x53.len x53.cap), (Value.slice x54.a x54.len x54.cap), (Value.slice x55.a x55.len x55.cap), (Value.slice x56.a x56.len x56.cap), (Value.slice x57.a x57.len x57.cap), (Value.slice x58.a x58.len x58.cap)])), (Value.int .i64 x59), (Value.bool true), (Value.int .i64 x60)]) h47 fun v61 h62 => OwnExt h47 h62 ∧
 ∃ x63 : SV, ∃ x64 : SV, ∃ x65 : SV, ∃ x66 : SV, ∃ x67 : SV, ∃ x68 : SV, ∃ x69 : SV, ∃ x70 : SV, ∃ x71 : Int, v61 = (Value.tuple (List.toArray [(Value.agg (List.toArray [(Value.slice x63.a x63.len x63.cap), (Value.slice x64.a x64.len x64.cap), (Value.slice x65.a x65.len x65.cap), (Value.slice x66.a x66.len x66.cap), (Value.slice x67.a x67.len x67.cap), (Value.slice x68.a x68.len x68.cap), (Value.slice x69.a x69.len x69.cap), (Value.slice x70.a x70.len x70.cap)])), (Value.int .i64 x71)])) ∧
 H.new h62 [(Value.slice none 0 0), (Value.slice none 0 0), (Value.slice none 0 0), (Value.slice none 0 0), (Value.slice none 0 0), (Value.slice none 0 0), (Value.slice none 0 0), (Value.slice none 0 0)] fun r72 h73 =>
 ([(Value.slice x63.a x63.len x63.cap), (Value.slice x64.a x64.len x64.cap), (Value.slice x65.a x65.len x65.cap), (Value.slice x66.a x66.len x66.cap), (Value.slice x67.a x67.len x67.cap), (Value.slice x68.a x68.len x68.cap), (Value.slice x69.a x69.len x69.cap), (Value.slice x70.a x70.len x70.cap)]).length = 8 ∧ (Program.underlying Go.Proofs.Tryd.prog 69).isSome = true ∧
 H.wr h73 (Addr.mk r72 0 none) ([(Value.slice x63.a x63.len x63.cap), (Value.slice x64.a x64.len x64.cap), (Value.slice x65.a x65.len x65.cap), (Value.slice x66.a x66.len x66.cap), (Value.slice x67.a x67.len x67.cap), (Value.slice x68.a x68.len x68.cap), (Value.slice x69.a x69.len x69.cap), (Value.slice x70.a x70.len x70.cap)]) fun h74 =>
 ∃ x75 : SV, H.rd h74 (Addr.add (Addr.mk r72 0 none) 0) (Value.slice x75.a x75.len x75.cap) ∧
 ∃ x76 : SV, H.rd h74 (Addr.add (Addr.mk r72 0 none) 1) (Value.slice x76.a x76.len x76.cap) ∧
 ∃ x77 : SV, H.rd h74 (Addr.add (Addr.mk r72 0 none) 2) (Value.slice x77.a x77.len x77.cap) ∧
 ∃ x78 : SV, H.rd h74 (Addr.add (Addr.mk r72 0 none) 3) (Value.slice x78.a x78.len x78.cap) ∧
 ∃ x79 : SV, H.rd h74 (Addr.add (Addr.mk r72 0 none) 4) (Value.slice x79.a x79.len x79.cap) ∧
 ∃ x80 : SV, H.rd h74 (Addr.add (Addr.mk r72 0 none) 5) (Value.slice x80.a x80.len x80.cap) ∧
 ∃ x81 : SV, H.rd h74 (Addr.add (Addr.mk r72 0 none) 6) (Value.slice x81.a x81.len x81.cap) ∧
 ∃ x82 : SV, H.rd h74 (Addr.add (Addr.mk r72 0 none) 7) (Value.slice x82.a x82.len x82.cap) ∧
 ([(Value.slice x75.a x75.len x75.cap), (Value.slice x76.a x76.len x76.cap), (Value.slice x77.a x77.len x77.cap), (Value.slice x78.a x78.len x78.cap), (Value.slice x79.a x79.len x79.cap), (Value.slice x80.a x80.len x80.cap), (Value.slice x81.a x81.len x81.cap), (Value.slice x82.a x82.len x82.cap)]).length = 8 ∧ (Program.underlying Go.Proofs.Tryd.prog 69).isSome = true ∧
 H.wr h74 (Addr.mk r23 0 none) ([(Value.slice x75.a x75.len x75.cap), (Value.slice x76.a x76.len x76.cap), (Value.slice x77.a x77.len x77.cap), (Value.slice x78.a x78.len x78.cap), (Value.slice x79.a x79.len x79.cap), (Value.slice x80.a x80.len x80.cap), (Value.slice x81.a x81.len x81.cap), (Value.slice x82.a x82.len x82.cap)]) fun h83 =>
 ∃ b84 : Addr, x40.a = some b84 ∧ 0 ≤ (0 : Int) ∧ (0 : Int) < ((x40.len : Nat) : Int) ∧
 ∃ b85 : Addr, x40.a = some b85 ∧ 0 ≤ (1 : Int) ∧ (1 : Int) < ((x40.len : Nat) : Int) ∧
 ∃ x86 : Int, H.rd h83 (Addr.add (Addr.add b84 (((0 : Int)).toNat * 1)) 0) (Value.int .i64 x86) ∧
 ∃ x87 : Int, H.rd h83 (Addr.add (Addr.add b85 (((1 : Int)).toNat * 1)) 0) (Value.int .i64 x87) ∧
 SemCall Go.Proofs.Tryd.prog 29 (List.toArray [(Value.pointer x3), (Value.int .i64 x86), (Value.int .i64 x87)]) h83 fun v88 h89 =>
 ∃ x90 : Option (TypeId × Value), v88 = (errV x90) ∧
 SemCall Go.Proofs.Tryd.prog 7 (List.toArray [(errV x90), (Value.int .i64 x71)]) h89 fun v91 h92 =>
 ∃ x93 : Bool, v91 = (Value.bool x93) ∧
 VIf (!x93) (
 VRet h92 (Value.bool false) post) (
 (∃ h94, Gh h92 h94 ∧ R48 h94))) (
 (∃ h95, Gh h47 h95 ∧ R48 h95))) ∧
 ∀ (_ : F) (h96 : H), R48 h96 →
 ∃ R97 : Bool → H → Prop, (
 VIf (((x40.len : Nat) : Int) == (2 : Int)) (
 ∃ b98 : Addr, x40.a = some b98 ∧ 0 ≤ (1 : Int) ∧ (1 : Int) < ((x40.len : Nat) : Int) ∧
 ∃ x99 : Int, H.rd h96 (Addr.add (Addr.add b98 (((1 : Int)).toNat * 1)) 0) (Value.int .i64 x99) ∧
 (∃ h100, Gh h96 h100 ∧ R97 (decide (x99 < (0 : Int))) h100)) (
 (∃ h101, Gh h96 h101 ∧ R97 false h101))) ∧
 ∀ (_ : F) (x102 : Bool) (h103 : H), R97 x102 h103 →
 f5_J4 p0_n post x3 r23 R38 x40 x102 h103

def f5_J6 (p0_n : Int) (p1_steps : SV) (post : Value → H → Prop) (x3 : Option Addr) (r23 : Nat) (R26 : H → Prop) (I27 : Nat → Int → H → Prop) (n28 : Nat) (x31_i : Int) (x36 : Bool) (h37 : H) : Prop :=
 VIf x36 (
 ∃ R38 : H → Prop, (
 ∃ b39 : Addr, p1_steps.a = some b39 ∧ 0 ≤ x31_i ∧ x31_i < ((p1_steps.len : Nat) : Int) ∧
 ∃ x40 : SV, H.rd h37 (Addr.add (Addr.add b39 ((x31_i).toNat * 1)) 0) (Value.slice x40.a x40.len x40.cap) ∧
 ∃ R41 : Bool → H → Prop, (
 VIf (((x40.len : Nat) : Int) == (2 : Int)) (
 ∃ b42 : Addr, x40.a = some b42 ∧ 0 ≤ (1 : Int) ∧ (1 : Int) < ((x40.len : Nat) : Int) ∧
 ∃ x43 : Int, H.rd h37 (Addr.add (Addr.add b42 (((1 : Int)).toNat * 1)) 0) (Value.int .i64 x43) ∧
 (∃ h44, Gh h37 h44 ∧ R41 (decide (x43 ≥ (0 : Int))) h44)) (
 (∃ h45, Gh h37 h45 ∧ R41 false h45))) ∧
 ∀ (_ : F) (x46 : Bool) (h47 : H), R41 x46 h47 →
 f5_J5 p0_n post x3 r23 R38 x40 x46 h47) ∧
 ∀ (_ : F) (h237 : H), R38 h237 →
 In64 (x31_i + (1 : Int)) ∧
 ∃ m29, m29 < n28 ∧ (∃ h238, Gh h237 h238 ∧ I27 m29 (x31_i + (1 : Int)) h238)) (
 (∃ h239, Gh h37 h239 ∧ R26 h239))

def f5_L7 (p0_n : Int) (p1_steps : SV) (post : Value → H → Prop) (x3 : Option Addr) (r23 : Nat) (R26 : H → Prop) (I27 : Nat → Int → H → Prop) (n28 : Nat) (x31_i : Int) (h32 : H) : Prop :=
 ∃ R33 : Bool → H → Prop, (
 VIf (decide (x31_i < ((p1_steps.len : Nat) : Int))) (
 (∃ h34, Gh h32 h34 ∧ R33 (decide (x31_i < (300 : Int))) h34)) (
 (∃ h35, Gh h32 h35 ∧ R33 false h35))) ∧
 ∀ (_ : F) (x36 : Bool) (h37 : H), R33 x36 h37 →
 f5_J6 p0_n p1_steps post x3 r23 R26 I27 n28 x31_i x36 h37

def f5_J8 (p0_n : Int) (post : Value → H → Prop) (x3 : Option Addr) (h240 : H) : Prop :=
 ∃ R241 : Bool → H → Prop, (
 SemCall Go.Proofs.Tryd.prog 34 (List.toArray [(Value.pointer x3), (Value.int .i64 (-1 : Int))]) h240 fun v242 h243 =>
 ∃ x244 : Int, v242 = (Value.int .i64 x244) ∧
 VIf (x244 == (0 : Int)) (
 SemCall Go.Proofs.Tryd.prog 34 (List.toArray [(Value.pointer x3), (Value.int .i64 p0_n)]) h243 fun v245 h246 =>
 ∃ x247 : Int, v245 = (Value.int .i64 x247) ∧
 (∃ h248, Gh h246 h248 ∧ R241 (x247 == (0 : Int)) h248)) (
 (∃ h249, Gh h243 h249 ∧ R241 false h249))) ∧
 ∀ (_ : F) (x250 : Bool) (h251 : H), R241 x250 h251 →
 VRet h251 (Value.bool x250) post

def f5_J9 (p0_n : Int) (p1_steps : SV) (post : Value → H → Prop) (x3 : Option Addr) (x4 : Option (TypeId × Value)) (x8 : Bool) (h9 : H) : Prop :=
 VIf x8 (
 SemCall Go.Proofs.Tryd.prog 7 (List.toArray [(errV x4), (Value.int .i64 (1 : Int))]) h9 fun v10 h11 =>
 ∃ x12 : Bool, v10 = (Value.bool x12) ∧
 VRet h11 (Value.bool x12) post) (
 isIfaceV (errV x4) = true ∧
 VIf (!(isNilV (errV x4))) (
 VRet h9 (Value.bool false) post) (
 SemCall Go.Proofs.Tryd.prog 27 (List.toArray [(Value.int .i64 p0_n)]) h9 fun v13 h14 =>
 ∃ x15 : SV, ∃ x16 : SV, ∃ x17 : SV, ∃ x18 : SV, ∃ x19 : SV, ∃ x20 : SV, ∃ x21 : SV, ∃ x22 : SV, v13 = (Value.agg (List.toArray [(Value.slice x15.a x15.len x15.cap), (Value.slice x16.a x16.len x16.cap), (Value.slice x17.a x17.len x17.cap), (Value.slice x18.a x18.len x18.cap), (Value.slice x19.a x19.len x19.cap), (Value.slice x20.a x20.len x20.cap), (Value.slice x21.a x21.len x21.cap), (Value.slice x22.a x22.len x22.cap)])) ∧
 H.new h14 [(Value.slice none 0 0), (Value.slice none 0 0), (Value.slice none 0 0), (Value.slice none 0 0), (Value.slice none 0 0), (Value.slice none 0 0), (Value.slice none 0 0), (Value.slice none 0 0)] fun r23 h24 =>
 ([(Value.slice x15.a x15.len x15.cap), (Value.slice x16.a x16.len x16.cap), (Value.slice x17.a x17.len x17.cap), (Value.slice x18.a x18.len x18.cap), (Value.slice x19.a x19.len x19.cap), (Value.slice x20.a x20.len x20.cap), (Value.slice x21.a x21.len x21.cap), (Value.slice x22.a x22.len x22.cap)]).length = 8 ∧ (Program.underlying Go.Proofs.Tryd.prog 69).isSome = true ∧
 H.wr h24 (Addr.mk r23 0 none) ([(Value.slice x15.a x15.len x15.cap), (Value.slice x16.a x16.len x16.cap), (Value.slice x17.a x17.len x17.cap), (Value.slice x18.a x18.len x18.cap), (Value.slice x19.a x19.len x19.cap), (Value.slice x20.a x20.len x20.cap), (Value.slice x21.a x21.len x21.cap), (Value.slice x22.a x22.len x22.cap)]) fun h25 =>
 ∃ R26 : H → Prop, (
 ∃ I27 : Nat → Int → H → Prop, (∃ n28, (∃ h30, Gh h25 h30 ∧ I27 n28 (0 : Int) h30)) ∧
 ∀ (n28 : Nat) (_ : F) (x31_i : Int) (h32 : H), I27 n28 x31_i h32 →
 f5_L7 p0_n p1_steps post x3 r23 R26 I27 n28 x31_i h32) ∧
 ∀ (_ : F) (h240 : H), R26 h240 →
 f5_J8 p0_n post x3 h240))

def f5_sem (p0_n : Int) (p1_steps : SV) (h0 : H) (post : Value → H → Prop) : Prop :=
 SemCall Go.Proofs.Tryd.prog 26 (List.toArray [(Value.int .i64 p0_n)]) h0 fun v1 h2 =>
 ∃ x3 : Option Addr, ∃ x4 : Option (TypeId × Value), v1 = (Value.tuple (List.toArray [(Value.pointer x3), (errV x4)])) ∧
 ∃ R5 : Bool → H → Prop, (
 VIf (decide (p0_n < (1 : Int))) (
 (∃ h6, Gh h2 h6 ∧ R5 true h6)) (
 (∃ h7, Gh h2 h7 ∧ R5 (decide (p0_n > (4 : Int))) h7))) ∧
 ∀ (_ : F) (x8 : Bool) (h9 : H), R5 x8 h9 →
 f5_J9 p0_n p1_steps post x3 x4 x8 h9

def f5_hint : Hint := (.node .leaf (.node .leaf (.node (.node (.join [(33, .bool)] .leaf) .leaf) (.node .leaf (.node .leaf (.node (.node .leaf (.join [] (.node (.loop [(8, .int)] (.node (.node (.join [(47, .bool)] .leaf) .leaf) (.node (.join [] (.node (.node .leaf (.node (.node (.join [(62, .bool)] .leaf) (.join [] (.node (.node .lex (.node .leaf (.node .lex .leaf))) .leaf))) (.node (.node (.join [(94, .bool)] .leaf) (.join [] (.node (.node .lex .leaf) .leaf))) (.node (.node .leaf (.join [] (.node (.node .lex (.node .leaf (.node .leaf (.node (.join [(149, .bool)] .leaf) .leaf)))) .leaf))) (.node .leaf (.node .leaf (.node .leaf (.join [] (.node (.loop [(22, .int)] (.node .leaf (.node (.node (.node (.join [(182, .bool)] .lex) .leaf) .leaf) .leaf))) .leaf))))))))) .leaf)) .leaf))) .leaf))) (.node (.join [(4, .bool)] .leaf) .leaf)))))))

theorem f5_eq (p0_n : Int) (p1_steps : SV) (h0 : H) (post : Value → H → Prop) : exec Tryd.prog (bodyOf Tryd.f5) f5_hint (retQ Tryd.prog Tryd.f5 post) (F0 [(Value.int .i64 p0_n), (Value.slice p1_steps.a p1_steps.len p1_steps.cap)]) h0 = f5_sem p0_n p1_steps h0 post := by kernel_rfl

set_option maxRecDepth 20000 in
theorem f5_call (p0_n : Int) (p1_steps : SV) (h0 : H) (post : Value → H → Prop) (hx : f5_sem p0_n p1_steps h0 post) : SemCall Tryd.prog 5 (List.toArray [(Value.int .i64 p0_n), (Value.slice p1_steps.a p1_steps.len p1_steps.cap)]) h0 post :=
 sem_of_exec (g := f5_hint) mixed Tryd.func5 (bodyOf_eq (by kernel_rfl)) (by kernel_rfl) ((f5_eq p0_n p1_steps h0 post).mpr hx)

/- latchgarth/latchgarthsame.Error -/
def f7_sem (p0_err : Option (TypeId × Value)) (p1_e : Int) (h0 : H) (post : Value → H → Prop) : Prop :=
 SemCall Go.Proofs.Tryd.prog 36 (List.toArray [(errV p0_err)]) h0 fun v1 h2 =>
 ∃ x3 : Int, v1 = (Value.int .i64 x3) ∧
 VRet h2 (Value.bool (x3 == p1_e)) post

def f7_hint : Hint := .leaf

theorem f7_eq (p0_err : Option (TypeId × Value)) (p1_e : Int) (h0 : H) (post : Value → H → Prop) : exec Tryd.prog (bodyOf Tryd.f7) f7_hint (retQ Tryd.prog Tryd.f7 post) (F0 [(errV p0_err), (Value.int .i64 p1_e)]) h0 = f7_sem p0_err p1_e h0 post := by kernel_rfl

set_option maxRecDepth 20000 in
theorem f7_call (p0_err : Option (TypeId × Value)) (p1_e : Int) (h0 : H) (post : Value → H → Prop) (hx : f7_sem p0_err p1_e h0 post) : SemCall Tryd.prog 7 (List.toArray [(errV p0_err), (Value.int .i64 p1_e)]) h0 post :=
 sem_of_exec (g := f7_hint) mixed Tryd.func7 (bodyOf_eq (by kernel_rfl)) (by kernel_rfl) ((f7_eq p0_err p1_e h0 post).mpr hx)

/- latchgarth/latchgarthlaw3.in -/
def f13_sem (p0_n : Int) (p1_low : Int) (p2_high : Int) (h0 : H) (post : Value → H → Prop) : Prop :=
 ∃ R1 : Bool → H → Prop, (
 VIf (decide (p0_n ≥ p1_low)) (
 (∃ h2, Gh h0 h2 ∧ R1 (decide (p0_n ≤ p2_high)) h2)) (
 (∃ h3, Gh h0 h3 ∧ R1 false h3))) ∧
 ∀ (_ : F) (x4 : Bool) (h5 : H), R1 x4 h5 →
 VRet h5 (Value.bool x4) post

def f13_hint : Hint := (.node .leaf (.node (.join [(6, .bool)] .leaf) .leaf))

theorem f13_eq (p0_n : Int) (p1_low : Int) (p2_high : Int) (h0 : H) (post : Value → H → Prop) : exec Tryd.prog (bodyOf Tryd.f13) f13_hint (retQ Tryd.prog Tryd.f13 post) (F0 [(Value.int .i64 p0_n), (Value.int .i64 p1_low), (Value.int .i64 p2_high)]) h0 = f13_sem p0_n p1_low p2_high h0 post := by kernel_rfl

set_option maxRecDepth 20000 in
theorem f13_call (p0_n : Int) (p1_low : Int) (p2_high : Int) (h0 : H) (post : Value → H → Prop) (hx : f13_sem p0_n p1_low p2_high h0 post) : SemCall Tryd.prog 13 (List.toArray [(Value.int .i64 p0_n), (Value.int .i64 p1_low), (Value.int .i64 p2_high)]) h0 post :=
 sem_of_exec (g := f13_hint) mixed Tryd.func13 (bodyOf_eq (by kernel_rfl)) (by kernel_rfl) ((f13_eq p0_n p1_low p2_high h0 post).mpr hx)

/- latchgarth/latchgarthsame.Ints -/
def f16_L1 (p0_a : SV) (p1_b : SV) (post : Value → H → Prop) (R1 : H → Prop) (I2 : Nat → Int → H → Prop) (n3 : Nat) (x6_i : Int) (h7 : H) : Prop :=
 VIf (decide (x6_i < ((p0_a.len : Nat) : Int))) (
 ∃ b8 : Addr, p0_a.a = some b8 ∧ 0 ≤ x6_i ∧ x6_i < ((p0_a.len : Nat) : Int) ∧
 ∃ x9 : Int, H.rd h7 (Addr.add (Addr.add b8 ((x6_i).toNat * 1)) 0) (Value.int .i64 x9) ∧
 ∃ b10 : Addr, p1_b.a = some b10 ∧ 0 ≤ x6_i ∧ x6_i < ((p1_b.len : Nat) : Int) ∧
 ∃ x11 : Int, H.rd h7 (Addr.add (Addr.add b10 ((x6_i).toNat * 1)) 0) (Value.int .i64 x11) ∧
 VIf (x9 != x11) (
 VRet h7 (Value.bool false) post) (
 In64 (x6_i + (1 : Int)) ∧
 ∃ m4, m4 < n3 ∧ (∃ h12, Gh h7 h12 ∧ I2 m4 (x6_i + (1 : Int)) h12))) (
 (∃ h13, Gh h7 h13 ∧ R1 h13))

def f16_sem (p0_a : SV) (p1_b : SV) (h0 : H) (post : Value → H → Prop) : Prop :=
 VIf (((p0_a.len : Nat) : Int) != ((p1_b.len : Nat) : Int)) (
 VRet h0 (Value.bool false) post) (
 ∃ R1 : H → Prop, (
 ∃ I2 : Nat → Int → H → Prop, (∃ n3, (∃ h5, Gh h0 h5 ∧ I2 n3 (0 : Int) h5)) ∧
 ∀ (n3 : Nat) (_ : F) (x6_i : Int) (h7 : H), I2 n3 x6_i h7 →
 f16_L1 p0_a p1_b post R1 I2 n3 x6_i h7) ∧
 ∀ (_ : F) (h14 : H), R1 h14 →
 VRet h14 (Value.bool true) post)

def f16_hint : Hint := (.node .leaf (.node .leaf (.node (.node .leaf (.join [] (.node (.loop [(5, .int)] .leaf) .leaf))) .leaf)))

theorem f16_eq (p0_a : SV) (p1_b : SV) (h0 : H) (post : Value → H → Prop) : exec Tryd.prog (bodyOf Tryd.f16) f16_hint (retQ Tryd.prog Tryd.f16 post) (F0 [(Value.slice p0_a.a p0_a.len p0_a.cap), (Value.slice p1_b.a p1_b.len p1_b.cap)]) h0 = f16_sem p0_a p1_b h0 post := by kernel_rfl

set_option maxRecDepth 20000 in
theorem f16_call (p0_a : SV) (p1_b : SV) (h0 : H) (post : Value → H → Prop) (hx : f16_sem p0_a p1_b h0 post) : SemCall Tryd.prog 16 (List.toArray [(Value.slice p0_a.a p0_a.len p0_a.cap), (Value.slice p1_b.a p1_b.len p1_b.cap)]) h0 post :=
 sem_of_exec (g := f16_hint) mixed Tryd.func16 (bodyOf_eq (by kernel_rfl)) (by kernel_rfl) ((f16_eq p0_a p1_b h0 post).mpr hx)

/- latchgarth/snap.New -/
def f26_L1 (p0_n : Int) (x19_b : Option Addr) (x22 : SV) (R23 : H → Prop) (I24 : Nat → Int → H → Prop) (n25 : Nat) (x28 : Int) (h29 : H) : Prop :=
 VIf (decide (x28 < ((x22.len : Nat) : Int))) (
 ∃ R30 : H → Prop, (
 ∃ a31 : Addr, x19_b = some a31 ∧
 (
 ∃ x32 : SV, H.rd h29 (Addr.add (Addr.add a31 0) 0) (Value.slice x32.a x32.len x32.cap) ∧
 0 ≤ p0_n ∧ p0_n ≤ p0_n ∧ ((8 : Nat) : Int) * p0_n ≤ 140737488355328 ∧ p0_n ≤ 1000000000 ∧
 H.new h29 (repl (p0_n).toNat [(Value.int .i64 0)]) fun r33 h34 =>
 ∃ b35 : Addr, x32.a = some b35 ∧ 0 ≤ x28 ∧ x28 < ((x32.len : Nat) : Int) ∧
 H.wr h34 (Addr.add (Addr.add b35 ((x28).toNat * 3)) 2) ([(Value.slice (some (Addr.mk r33 0 none)) ((p0_n).toNat) ((p0_n).toNat))]) fun h36 =>
 (∃ h37, Gh h36 h37 ∧ R30 h37)) ∧
 (
 0 ≤ p0_n ∧ p0_n ≤ p0_n ∧ ((8 : Nat) : Int) * p0_n ≤ 140737488355328 ∧ p0_n ≤ 1000000000 ∧
 H.new h29 (repl (p0_n).toNat [(Value.int .i64 0)]) fun r38 h39 =>
 ∃ x40 : SV, H.rd h39 (Addr.add (Addr.add a31 0) 0) (Value.slice x40.a x40.len x40.cap) ∧
 ∃ b41 : Addr, x40.a = some b41 ∧ 0 ≤ x28 ∧ x28 < ((x40.len : Nat) : Int) ∧
 H.wr h39 (Addr.add (Addr.add b41 ((x28).toNat * 3)) 2) ([(Value.slice (some (Addr.mk r38 0 none)) ((p0_n).toNat) ((p0_n).toNat))]) fun h42 =>
 (∃ h43, Gh h42 h43 ∧ R30 h43))) ∧
 ∀ (_ : F) (h44 : H), R30 h44 →
 In64 (x28 + (1 : Int)) ∧
 ∃ m26, m26 < n25 ∧ (∃ h45, Gh h44 h45 ∧ I24 m26 (x28 + (1 : Int)) h45)) (
 (∃ h46, Gh h29 h46 ∧ R23 h46))

def f26_sem (p0_n : Int) (h0 : H) (post : Value → H → Prop) : Prop :=
 SemCall Go.Proofs.Tryd.prog 39 (List.toArray [(Value.int .i64 p0_n)]) h0 fun v1 h2 =>
 ∃ x3 : Option (TypeId × Value), v1 = (errV x3) ∧
 isIfaceV (errV x3) = true ∧
 VIf (!(isNilV (errV x3))) (
 VRet h2 (Value.tuple (List.toArray [(Value.pointer none), (errV x3)])) post) (
 ∃ R4 : Option Addr → H → Prop, (
 (
 0 ≤ p0_n ∧ p0_n ≤ p0_n ∧ ((40 : Nat) : Int) * p0_n ≤ 140737488355328 ∧ p0_n ≤ 1000000000 ∧
 H.new h2 (repl (p0_n).toNat [(Value.int .i64 0), (Value.int .i64 0), (Value.slice none 0 0)]) fun r5 h6 =>
 0 ≤ p0_n ∧ p0_n ≤ p0_n ∧ ((104 : Nat) : Int) * p0_n ≤ 140737488355328 ∧ p0_n ≤ 1000000000 ∧
 H.new h6 (repl (p0_n).toNat [(Value.int .i64 0), (Value.int .i64 0), (Value.bool false), (Value.int .i64 0), (Value.slice none 0 0), (Value.slice none 0 0), (Value.slice none 0 0)]) fun r7 h8 =>
 H.new h8 [(Value.slice (some (Addr.mk r5 0 none)) ((p0_n).toNat) ((p0_n).toNat)), (Value.slice (some (Addr.mk r7 0 none)) ((p0_n).toNat) ((p0_n).toNat))] fun r9 h10 =>
 (∃ h11, Gh h10 h11 ∧ R4 (some (Addr.mk r9 0 none)) h11)) ∧
 (
 0 ≤ p0_n ∧ p0_n ≤ p0_n ∧ ((104 : Nat) : Int) * p0_n ≤ 140737488355328 ∧ p0_n ≤ 1000000000 ∧
 H.new h2 (repl (p0_n).toNat [(Value.int .i64 0), (Value.int .i64 0), (Value.bool false), (Value.int .i64 0), (Value.slice none 0 0), (Value.slice none 0 0), (Value.slice none 0 0)]) fun r12 h13 =>
 0 ≤ p0_n ∧ p0_n ≤ p0_n ∧ ((40 : Nat) : Int) * p0_n ≤ 140737488355328 ∧ p0_n ≤ 1000000000 ∧
 H.new h13 (repl (p0_n).toNat [(Value.int .i64 0), (Value.int .i64 0), (Value.slice none 0 0)]) fun r14 h15 =>
 H.new h15 [(Value.slice (some (Addr.mk r14 0 none)) ((p0_n).toNat) ((p0_n).toNat)), (Value.slice (some (Addr.mk r12 0 none)) ((p0_n).toNat) ((p0_n).toNat))] fun r16 h17 =>
 (∃ h18, Gh h17 h18 ∧ R4 (some (Addr.mk r16 0 none)) h18))) ∧
 ∀ (_ : F) (x19_b : Option Addr) (h20 : H), R4 x19_b h20 →
 ∃ a21 : Addr, x19_b = some a21 ∧
 ∃ x22 : SV, H.rd h20 (Addr.add (Addr.add a21 0) 0) (Value.slice x22.a x22.len x22.cap) ∧
 ∃ R23 : H → Prop, (
 ∃ I24 : Nat → Int → H → Prop, (∃ n25, (∃ h27, Gh h20 h27 ∧ I24 n25 (0 : Int) h27)) ∧
 ∀ (n25 : Nat) (_ : F) (x28 : Int) (h29 : H), I24 n25 x28 h29 →
 f26_L1 p0_n x19_b x22 R23 I24 n25 x28 h29) ∧
 ∀ (_ : F) (h47 : H), R23 h47 →
 VRet h47 (Value.tuple (List.toArray [(Value.pointer x19_b), Value.nilIface])) post)

def f26_hint : Hint := (.node .leaf (.node .leaf (.node (.join [(5, .ptr)] .any) (.node (.node .leaf (.join [] (.node (.loop [(23, .int)] (.node .leaf (.node .leaf (.node (.node (.node .leaf (.join [] .any)) .leaf) .leaf)))) .leaf))) .leaf))))

theorem f26_eq (p0_n : Int) (h0 : H) (post : Value → H → Prop) : exec Tryd.prog (bodyOf Tryd.f26) f26_hint (retQ Tryd.prog Tryd.f26 post) (F0 [(Value.int .i64 p0_n)]) h0 = f26_sem p0_n h0 post := by kernel_rfl

set_option maxRecDepth 20000 in
theorem f26_call (p0_n : Int) (h0 : H) (post : Value → H → Prop) (hx : f26_sem p0_n h0 post) : SemCall Tryd.prog 26 (List.toArray [(Value.int .i64 p0_n)]) h0 post :=
 sem_of_exec (g := f26_hint) mixed Tryd.func26 (bodyOf_eq (by kernel_rfl)) (by kernel_rfl) ((f26_eq p0_n h0 post).mpr hx)

/- latchgarth/latchgarthref3.NewBoard -/
def f27_L1 (p0_n : Int) (r17 : Nat) (R20 : H → Prop) (I21 : Nat → Int → H → Prop) (n22 : Nat) (x25_i : Int) (h26 : H) : Prop :=
 VIf (decide (x25_i < p0_n)) (
 ∃ x27 : SV, H.rd h26 (Addr.add (Addr.add (Addr.mk r17 0 none) 0) 0) (Value.slice x27.a x27.len x27.cap) ∧
 0 ≤ p0_n ∧ p0_n ≤ p0_n ∧ ((8 : Nat) : Int) * p0_n ≤ 140737488355328 ∧ p0_n ≤ 1000000000 ∧
 H.new h26 (repl (p0_n).toNat [(Value.int .i64 0)]) fun r28 h29 =>
 H.new h29 [(Value.int .i64 0), (Value.int .i64 0), (Value.slice (some (Addr.mk r28 0 none)) ((p0_n).toNat) ((p0_n).toNat))] fun r30 h31 =>
 appVC Go.Proofs.Tryd.prog 65 (Value.slice x27.a x27.len x27.cap) (Value.slice (some (Addr.mk r30 0 none)) 1 1) h31 fun x32 h33 =>
 H.wr h33 (Addr.add (Addr.mk r17 0 none) 0) ([(Value.slice x32.a x32.len x32.cap)]) fun h34 =>
 In64 (x25_i + (1 : Int)) ∧
 ∃ m23, m23 < n22 ∧ (∃ h35, Gh h34 h35 ∧ I21 m23 (x25_i + (1 : Int)) h35)) (
 (∃ h36, Gh h26 h36 ∧ R20 h36))

def f27_J2 (post : Value → H → Prop) (r1 : Nat) (r17 : Nat) (h37 : H) : Prop :=
 ∃ x38 : SV, H.rd h37 (Addr.add (Addr.mk r17 0 none) 0) (Value.slice x38.a x38.len x38.cap) ∧
 ∃ x39 : SV, H.rd h37 (Addr.add (Addr.mk r17 0 none) 1) (Value.slice x39.a x39.len x39.cap) ∧
 ∃ x40 : SV, H.rd h37 (Addr.add (Addr.mk r17 0 none) 2) (Value.slice x40.a x40.len x40.cap) ∧
 ∃ x41 : SV, H.rd h37 (Addr.add (Addr.mk r17 0 none) 3) (Value.slice x41.a x41.len x41.cap) ∧
 ∃ x42 : SV, H.rd h37 (Addr.add (Addr.mk r17 0 none) 4) (Value.slice x42.a x42.len x42.cap) ∧
 ∃ x43 : SV, H.rd h37 (Addr.add (Addr.mk r17 0 none) 5) (Value.slice x43.a x43.len x43.cap) ∧
 ∃ x44 : SV, H.rd h37 (Addr.add (Addr.mk r17 0 none) 6) (Value.slice x44.a x44.len x44.cap) ∧
 ∃ x45 : SV, H.rd h37 (Addr.add (Addr.mk r17 0 none) 7) (Value.slice x45.a x45.len x45.cap) ∧
 ([(Value.slice x38.a x38.len x38.cap), (Value.slice x39.a x39.len x39.cap), (Value.slice x40.a x40.len x40.cap), (Value.slice x41.a x41.len x41.cap), (Value.slice x42.a x42.len x42.cap), (Value.slice x43.a x43.len x43.cap), (Value.slice x44.a x44.len x44.cap), (Value.slice x45.a x45.len x45.cap)]).length = 8 ∧ (Program.underlying Go.Proofs.Tryd.prog 69).isSome = true ∧
 H.wr h37 (Addr.mk r1 0 none) ([(Value.slice x38.a x38.len x38.cap), (Value.slice x39.a x39.len x39.cap), (Value.slice x40.a x40.len x40.cap), (Value.slice x41.a x41.len x41.cap), (Value.slice x42.a x42.len x42.cap), (Value.slice x43.a x43.len x43.cap), (Value.slice x44.a x44.len x44.cap), (Value.slice x45.a x45.len x45.cap)]) fun h46 =>
 ∃ x47 : SV, H.rd h46 (Addr.add (Addr.mk r1 0 none) 0) (Value.slice x47.a x47.len x47.cap) ∧
 ∃ x48 : SV, H.rd h46 (Addr.add (Addr.mk r1 0 none) 1) (Value.slice x48.a x48.len x48.cap) ∧
 ∃ x49 : SV, H.rd h46 (Addr.add (Addr.mk r1 0 none) 2) (Value.slice x49.a x49.len x49.cap) ∧
 ∃ x50 : SV, H.rd h46 (Addr.add (Addr.mk r1 0 none) 3) (Value.slice x50.a x50.len x50.cap) ∧
 ∃ x51 : SV, H.rd h46 (Addr.add (Addr.mk r1 0 none) 4) (Value.slice x51.a x51.len x51.cap) ∧
 ∃ x52 : SV, H.rd h46 (Addr.add (Addr.mk r1 0 none) 5) (Value.slice x52.a x52.len x52.cap) ∧
 ∃ x53 : SV, H.rd h46 (Addr.add (Addr.mk r1 0 none) 6) (Value.slice x53.a x53.len x53.cap) ∧
 ∃ x54 : SV, H.rd h46 (Addr.add (Addr.mk r1 0 none) 7) (Value.slice x54.a x54.len x54.cap) ∧
 VRet h46 (Value.agg (List.toArray [(Value.slice x47.a x47.len x47.cap), (Value.slice x48.a x48.len x48.cap), (Value.slice x49.a x49.len x49.cap), (Value.slice x50.a x50.len x50.cap), (Value.slice x51.a x51.len x51.cap), (Value.slice x52.a x52.len x52.cap), (Value.slice x53.a x53.len x53.cap), (Value.slice x54.a x54.len x54.cap)])) post

def f27_sem (p0_n : Int) (h0 : H) (post : Value → H → Prop) : Prop :=
 H.new h0 [(Value.slice none 0 0), (Value.slice none 0 0), (Value.slice none 0 0), (Value.slice none 0 0), (Value.slice none 0 0), (Value.slice none 0 0), (Value.slice none 0 0), (Value.slice none 0 0)] fun r1 h2 =>
 0 ≤ p0_n ∧ p0_n ≤ p0_n ∧ ((8 : Nat) : Int) * p0_n ≤ 140737488355328 ∧ p0_n ≤ 1000000000 ∧
 H.new h2 (repl (p0_n).toNat [(Value.int .i64 0)]) fun r3 h4 =>
 0 ≤ p0_n ∧ p0_n ≤ p0_n ∧ ((8 : Nat) : Int) * p0_n ≤ 140737488355328 ∧ p0_n ≤ 1000000000 ∧
 H.new h4 (repl (p0_n).toNat [(Value.int .i64 0)]) fun r5 h6 =>
 0 ≤ p0_n ∧ p0_n ≤ p0_n ∧ ((1 : Nat) : Int) * p0_n ≤ 140737488355328 ∧ p0_n ≤ 1000000000 ∧
 H.new h6 (repl (p0_n).toNat [(Value.bool false)]) fun r7 h8 =>
 0 ≤ p0_n ∧ p0_n ≤ p0_n ∧ ((24 : Nat) : Int) * p0_n ≤ 140737488355328 ∧ p0_n ≤ 1000000000 ∧
 H.new h8 (repl (p0_n).toNat [(Value.slice none 0 0)]) fun r9 h10 =>
 0 ≤ p0_n ∧ p0_n ≤ p0_n ∧ ((24 : Nat) : Int) * p0_n ≤ 140737488355328 ∧ p0_n ≤ 1000000000 ∧
 H.new h10 (repl (p0_n).toNat [(Value.slice none 0 0)]) fun r11 h12 =>
 0 ≤ p0_n ∧ p0_n ≤ p0_n ∧ ((24 : Nat) : Int) * p0_n ≤ 140737488355328 ∧ p0_n ≤ 1000000000 ∧
 H.new h12 (repl (p0_n).toNat [(Value.slice none 0 0)]) fun r13 h14 =>
 0 ≤ p0_n ∧ p0_n ≤ p0_n ∧ ((24 : Nat) : Int) * p0_n ≤ 140737488355328 ∧ p0_n ≤ 1000000000 ∧
 H.new h14 (repl (p0_n).toNat [(Value.slice none 0 0)]) fun r15 h16 =>
 H.new h16 [(Value.slice none 0 0), (Value.slice none 0 0), (Value.slice none 0 0), (Value.slice none 0 0), (Value.slice none 0 0), (Value.slice none 0 0), (Value.slice none 0 0), (Value.slice none 0 0)] fun r17 h18 =>
 ([(Value.slice none 0 0), (Value.slice (some (Addr.mk r3 0 none)) ((p0_n).toNat) ((p0_n).toNat)), (Value.slice (some (Addr.mk r5 0 none)) ((p0_n).toNat) ((p0_n).toNat)), (Value.slice (some (Addr.mk r7 0 none)) ((p0_n).toNat) ((p0_n).toNat)), (Value.slice (some (Addr.mk r9 0 none)) ((p0_n).toNat) ((p0_n).toNat)), (Value.slice (some (Addr.mk r11 0 none)) ((p0_n).toNat) ((p0_n).toNat)), (Value.slice (some (Addr.mk r13 0 none)) ((p0_n).toNat) ((p0_n).toNat)), (Value.slice (some (Addr.mk r15 0 none)) ((p0_n).toNat) ((p0_n).toNat))]).length = 8 ∧ (Program.underlying Go.Proofs.Tryd.prog 69).isSome = true ∧
 H.wr h18 (Addr.mk r17 0 none) ([(Value.slice none 0 0), (Value.slice (some (Addr.mk r3 0 none)) ((p0_n).toNat) ((p0_n).toNat)), (Value.slice (some (Addr.mk r5 0 none)) ((p0_n).toNat) ((p0_n).toNat)), (Value.slice (some (Addr.mk r7 0 none)) ((p0_n).toNat) ((p0_n).toNat)), (Value.slice (some (Addr.mk r9 0 none)) ((p0_n).toNat) ((p0_n).toNat)), (Value.slice (some (Addr.mk r11 0 none)) ((p0_n).toNat) ((p0_n).toNat)), (Value.slice (some (Addr.mk r13 0 none)) ((p0_n).toNat) ((p0_n).toNat)), (Value.slice (some (Addr.mk r15 0 none)) ((p0_n).toNat) ((p0_n).toNat))]) fun h19 =>
 ∃ R20 : H → Prop, (
 ∃ I21 : Nat → Int → H → Prop, (∃ n22, (∃ h24, Gh h19 h24 ∧ I21 n22 (0 : Int) h24)) ∧
 ∀ (n22 : Nat) (_ : F) (x25_i : Int) (h26 : H), I21 n22 x25_i h26 →
 f27_L1 p0_n r17 R20 I21 n22 x25_i h26) ∧
 ∀ (_ : F) (h37 : H), R20 h37 →
 f27_J2 post r1 r17 h37

def f27_hint : Hint := (.node .leaf (.node .lex (.node (.node .leaf (.join [] (.node (.loop [(4, .int)] (.node .leaf (.node (.node .lex .leaf) .leaf))) .leaf))) .leaf)))

theorem f27_eq (p0_n : Int) (h0 : H) (post : Value → H → Prop) : exec Tryd.prog (bodyOf Tryd.f27) f27_hint (retQ Tryd.prog Tryd.f27 post) (F0 [(Value.int .i64 p0_n)]) h0 = f27_sem p0_n h0 post := by kernel_rfl

set_option maxRecDepth 20000 in
theorem f27_call (p0_n : Int) (h0 : H) (post : Value → H → Prop) (hx : f27_sem p0_n h0 post) : SemCall Tryd.prog 27 (List.toArray [(Value.int .i64 p0_n)]) h0 post :=
 sem_of_exec (g := f27_hint) mixed Tryd.func27 (bodyOf_eq (by kernel_rfl)) (by kernel_rfl) ((f27_eq p0_n h0 post).mpr hx)

/- latchgarth/latchgarthref3.BeginBoard -/
def f28_J1 (p1_p : Int) (p2_writes : Bool) (p3_value : Int) (post : Value → H → Prop) (r1 : Nat) (r3 : Nat) (x5 : SV) (x15 : Bool) (h16 : H) : Prop :=
 VIf x15 (
 ∃ x17 : SV, H.rd h16 (Addr.add (Addr.mk r1 0 none) 0) (Value.slice x17.a x17.len x17.cap) ∧
 ∃ x18 : SV, H.rd h16 (Addr.add (Addr.mk r1 0 none) 1) (Value.slice x18.a x18.len x18.cap) ∧
 ∃ x19 : SV, H.rd h16 (Addr.add (Addr.mk r1 0 none) 2) (Value.slice x19.a x19.len x19.cap) ∧
 ∃ x20 : SV, H.rd h16 (Addr.add (Addr.mk r1 0 none) 3) (Value.slice x20.a x20.len x20.cap) ∧
 ∃ x21 : SV, H.rd h16 (Addr.add (Addr.mk r1 0 none) 4) (Value.slice x21.a x21.len x21.cap) ∧
 ∃ x22 : SV, H.rd h16 (Addr.add (Addr.mk r1 0 none) 5) (Value.slice x22.a x22.len x22.cap) ∧
 ∃ x23 : SV, H.rd h16 (Addr.add (Addr.mk r1 0 none) 6) (Value.slice x23.a x23.len x23.cap) ∧
 ∃ x24 : SV, H.rd h16 (Addr.add (Addr.mk r1 0 none) 7) (Value.slice x24.a x24.len x24.cap) ∧
 ([(Value.slice x17.a x17.len x17.cap), (Value.slice x18.a x18.len x18.cap), (Value.slice x19.a x19.len x19.cap), (Value.slice x20.a x20.len x20.cap), (Value.slice x21.a x21.len x21.cap), (Value.slice x22.a x22.len x22.cap), (Value.slice x23.a x23.len x23.cap), (Value.slice x24.a x24.len x24.cap)]).length = 8 ∧ (Program.underlying Go.Proofs.Tryd.prog 69).isSome = true ∧
 H.wr h16 (Addr.mk r3 0 none) ([(Value.slice x17.a x17.len x17.cap), (Value.slice x18.a x18.len x18.cap), (Value.slice x19.a x19.len x19.cap), (Value.slice x20.a x20.len x20.cap), (Value.slice x21.a x21.len x21.cap), (Value.slice x22.a x22.len x22.cap), (Value.slice x23.a x23.len x23.cap), (Value.slice x24.a x24.len x24.cap)]) fun h25 =>
 ∃ x26 : SV, H.rd h25 (Addr.add (Addr.mk r3 0 none) 0) (Value.slice x26.a x26.len x26.cap) ∧
 ∃ x27 : SV, H.rd h25 (Addr.add (Addr.mk r3 0 none) 1) (Value.slice x27.a x27.len x27.cap) ∧
 ∃ x28 : SV, H.rd h25 (Addr.add (Addr.mk r3 0 none) 2) (Value.slice x28.a x28.len x28.cap) ∧
 ∃ x29 : SV, H.rd h25 (Addr.add (Addr.mk r3 0 none) 3) (Value.slice x29.a x29.len x29.cap) ∧
 ∃ x30 : SV, H.rd h25 (Addr.add (Addr.mk r3 0 none) 4) (Value.slice x30.a x30.len x30.cap) ∧
 ∃ x31 : SV, H.rd h25 (Addr.add (Addr.mk r3 0 none) 5) (Value.slice x31.a x31.len x31.cap) ∧
 ∃ x32 : SV, H.rd h25 (Addr.add (Addr.mk r3 0 none) 6) (Value.slice x32.a x32.len x32.cap) ∧
 ∃ x33 : SV, H.rd h25 (Addr.add (Addr.mk r3 0 none) 7) (Value.slice x33.a x33.len x33.cap) ∧
 VRet h25 (Value.tuple (List.toArray [(Value.agg (List.toArray [(Value.slice x26.a x26.len x26.cap), (Value.slice x27.a x27.len x27.cap), (Value.slice x28.a x28.len x28.cap), (Value.slice x29.a x29.len x29.cap), (Value.slice x30.a x30.len x30.cap), (Value.slice x31.a x31.len x31.cap), (Value.slice x32.a x32.len x32.cap), (Value.slice x33.a x33.len x33.cap)])), (Value.int .i64 (1 : Int))])) post) (
 ∃ x34 : SV, H.rd h16 (Addr.add (Addr.add (Addr.mk r1 0 none) 1) 0) (Value.slice x34.a x34.len x34.cap) ∧
 ∃ b35 : Addr, x34.a = some b35 ∧ 0 ≤ p1_p ∧ p1_p < ((x34.len : Nat) : Int) ∧
 ∃ x36 : Int, H.rd h16 (Addr.add (Addr.add b35 ((p1_p).toNat * 1)) 0) (Value.int .i64 x36) ∧
 VIf (x36 != (0 : Int)) (
 ∃ x37 : SV, H.rd h16 (Addr.add (Addr.mk r1 0 none) 0) (Value.slice x37.a x37.len x37.cap) ∧
 ∃ x38 : SV, H.rd h16 (Addr.add (Addr.mk r1 0 none) 1) (Value.slice x38.a x38.len x38.cap) ∧
 ∃ x39 : SV, H.rd h16 (Addr.add (Addr.mk r1 0 none) 2) (Value.slice x39.a x39.len x39.cap) ∧
 ∃ x40 : SV, H.rd h16 (Addr.add (Addr.mk r1 0 none) 3) (Value.slice x40.a x40.len x40.cap) ∧
 ∃ x41 : SV, H.rd h16 (Addr.add (Addr.mk r1 0 none) 4) (Value.slice x41.a x41.len x41.cap) ∧
 ∃ x42 : SV, H.rd h16 (Addr.add (Addr.mk r1 0 none) 5) (Value.slice x42.a x42.len x42.cap) ∧
 ∃ x43 : SV, H.rd h16 (Addr.add (Addr.mk r1 0 none) 6) (Value.slice x43.a x43.len x43.cap) ∧
 ∃ x44 : SV, H.rd h16 (Addr.add (Addr.mk r1 0 none) 7) (Value.slice x44.a x44.len x44.cap) ∧
 ([(Value.slice x37.a x37.len x37.cap), (Value.slice x38.a x38.len x38.cap), (Value.slice x39.a x39.len x39.cap), (Value.slice x40.a x40.len x40.cap), (Value.slice x41.a x41.len x41.cap), (Value.slice x42.a x42.len x42.cap), (Value.slice x43.a x43.len x43.cap), (Value.slice x44.a x44.len x44.cap)]).length = 8 ∧ (Program.underlying Go.Proofs.Tryd.prog 69).isSome = true ∧
 H.wr h16 (Addr.mk r3 0 none) ([(Value.slice x37.a x37.len x37.cap), (Value.slice x38.a x38.len x38.cap), (Value.slice x39.a x39.len x39.cap), (Value.slice x40.a x40.len x40.cap), (Value.slice x41.a x41.len x41.cap), (Value.slice x42.a x42.len x42.cap), (Value.slice x43.a x43.len x43.cap), (Value.slice x44.a x44.len x44.cap)]) fun h45 =>
 ∃ x46 : SV, H.rd h45 (Addr.add (Addr.mk r3 0 none) 0) (Value.slice x46.a x46.len x46.cap) ∧
 ∃ x47 : SV, H.rd h45 (Addr.add (Addr.mk r3 0 none) 1) (Value.slice x47.a x47.len x47.cap) ∧
 ∃ x48 : SV, H.rd h45 (Addr.add (Addr.mk r3 0 none) 2) (Value.slice x48.a x48.len x48.cap) ∧
 ∃ x49 : SV, H.rd h45 (Addr.add (Addr.mk r3 0 none) 3) (Value.slice x49.a x49.len x49.cap) ∧
 ∃ x50 : SV, H.rd h45 (Addr.add (Addr.mk r3 0 none) 4) (Value.slice x50.a x50.len x50.cap) ∧
 ∃ x51 : SV, H.rd h45 (Addr.add (Addr.mk r3 0 none) 5) (Value.slice x51.a x51.len x51.cap) ∧
 ∃ x52 : SV, H.rd h45 (Addr.add (Addr.mk r3 0 none) 6) (Value.slice x52.a x52.len x52.cap) ∧
 ∃ x53 : SV, H.rd h45 (Addr.add (Addr.mk r3 0 none) 7) (Value.slice x53.a x53.len x53.cap) ∧
 VRet h45 (Value.tuple (List.toArray [(Value.agg (List.toArray [(Value.slice x46.a x46.len x46.cap), (Value.slice x47.a x47.len x47.cap), (Value.slice x48.a x48.len x48.cap), (Value.slice x49.a x49.len x49.cap), (Value.slice x50.a x50.len x50.cap), (Value.slice x51.a x51.len x51.cap), (Value.slice x52.a x52.len x52.cap), (Value.slice x53.a x53.len x53.cap)])), (Value.int .i64 (7 : Int))])) post) (
 ∃ x54 : SV, H.rd h16 (Addr.add (Addr.add (Addr.mk r1 0 none) 1) 0) (Value.slice x54.a x54.len x54.cap) ∧
 SemCall Go.Proofs.Tryd.prog 37 (List.toArray [(Value.slice x54.a x54.len x54.cap), (Value.int .i64 p1_p), (Value.int .i64 (1 : Int))]) h16 fun v55 h56 =>
 ∃ x57 : SV, v55 = (Value.slice x57.a x57.len x57.cap) ∧
 H.wr h56 (Addr.add (Addr.mk r1 0 none) 1) ([(Value.slice x57.a x57.len x57.cap)]) fun h58 =>
 ∃ x59 : SV, H.rd h58 (Addr.add (Addr.add (Addr.mk r1 0 none) 2) 0) (Value.slice x59.a x59.len x59.cap) ∧
 SemCall Go.Proofs.Tryd.prog 37 (List.toArray [(Value.slice x59.a x59.len x59.cap), (Value.int .i64 p1_p), (Value.int .i64 p3_value)]) h58 fun v60 h61 =>
 ∃ x62 : SV, v60 = (Value.slice x62.a x62.len x62.cap) ∧
 H.wr h61 (Addr.add (Addr.mk r1 0 none) 2) ([(Value.slice x62.a x62.len x62.cap)]) fun h63 =>
 ∃ x64 : SV, H.rd h63 (Addr.add (Addr.add (Addr.mk r1 0 none) 3) 0) (Value.slice x64.a x64.len x64.cap) ∧
 appVC Go.Proofs.Tryd.prog 66 (Value.slice none 0 0) (Value.slice x64.a x64.len x64.cap) h63 fun x65 h66 =>
 ∃ b67 : Addr, x65.a = some b67 ∧ 0 ≤ p1_p ∧ p1_p < ((x65.len : Nat) : Int) ∧
 H.wr h66 (Addr.add b67 ((p1_p).toNat * 1)) ([(Value.bool p2_writes)]) fun h68 =>
 H.wr h68 (Addr.add (Addr.mk r1 0 none) 3) ([(Value.slice x65.a x65.len x65.cap)]) fun h69 =>
 ∃ x70 : SV, H.rd h69 (Addr.add (Addr.add (Addr.mk r1 0 none) 4) 0) (Value.slice x70.a x70.len x70.cap) ∧
 SemCall Go.Proofs.Tryd.prog 44 (List.toArray [(Value.slice x70.a x70.len x70.cap), (Value.int .i64 p1_p), (Value.slice none 0 0)]) h69 fun v71 h72 =>
 ∃ x73 : SV, v71 = (Value.slice x73.a x73.len x73.cap) ∧
 H.wr h72 (Addr.add (Addr.mk r1 0 none) 4) ([(Value.slice x73.a x73.len x73.cap)]) fun h74 =>
 ∃ x75 : SV, H.rd h74 (Addr.add (Addr.add (Addr.mk r1 0 none) 5) 0) (Value.slice x75.a x75.len x75.cap) ∧
 SemCall Go.Proofs.Tryd.prog 44 (List.toArray [(Value.slice x75.a x75.len x75.cap), (Value.int .i64 p1_p), (Value.slice none 0 0)]) h74 fun v76 h77 =>
 ∃ x78 : SV, v76 = (Value.slice x78.a x78.len x78.cap) ∧
 H.wr h77 (Addr.add (Addr.mk r1 0 none) 5) ([(Value.slice x78.a x78.len x78.cap)]) fun h79 =>
 ∃ x80 : SV, H.rd h79 (Addr.add (Addr.add (Addr.mk r1 0 none) 6) 0) (Value.slice x80.a x80.len x80.cap) ∧
 0 ≤ ((x5.len : Nat) : Int) ∧ ((x5.len : Nat) : Int) ≤ ((x5.len : Nat) : Int) ∧ ((8 : Nat) : Int) * ((x5.len : Nat) : Int) ≤ 140737488355328 ∧ ((x5.len : Nat) : Int) ≤ 1000000000 ∧
 H.new h79 (repl (((x5.len : Nat) : Int)).toNat [(Value.int .i64 0)]) fun r81 h82 =>
 SemCall Go.Proofs.Tryd.prog 45 (List.toArray [(Value.slice x80.a x80.len x80.cap), (Value.int .i64 p1_p), (Value.slice (some (Addr.mk r81 0 none)) ((((x5.len : Nat) : Int)).toNat) ((((x5.len : Nat) : Int)).toNat))]) h82 fun v83 h84 =>
 ∃ x85 : SV, v83 = (Value.slice x85.a x85.len x85.cap) ∧
 H.wr h84 (Addr.add (Addr.mk r1 0 none) 6) ([(Value.slice x85.a x85.len x85.cap)]) fun h86 =>
 ∃ x87 : SV, H.rd h86 (Addr.add (Addr.mk r1 0 none) 0) (Value.slice x87.a x87.len x87.cap) ∧
 ∃ x88 : SV, H.rd h86 (Addr.add (Addr.mk r1 0 none) 1) (Value.slice x88.a x88.len x88.cap) ∧
 ∃ x89 : SV, H.rd h86 (Addr.add (Addr.mk r1 0 none) 2) (Value.slice x89.a x89.len x89.cap) ∧
 ∃ x90 : SV, H.rd h86 (Addr.add (Addr.mk r1 0 none) 3) (Value.slice x90.a x90.len x90.cap) ∧
 ∃ x91 : SV, H.rd h86 (Addr.add (Addr.mk r1 0 none) 4) (Value.slice x91.a x91.len x91.cap) ∧
 ∃ x92 : SV, H.rd h86 (Addr.add (Addr.mk r1 0 none) 5) (Value.slice x92.a x92.len x92.cap) ∧
 ∃ x93 : SV, H.rd h86 (Addr.add (Addr.mk r1 0 none) 6) (Value.slice x93.a x93.len x93.cap) ∧
 ∃ x94 : SV, H.rd h86 (Addr.add (Addr.mk r1 0 none) 7) (Value.slice x94.a x94.len x94.cap) ∧
 ([(Value.slice x87.a x87.len x87.cap), (Value.slice x88.a x88.len x88.cap), (Value.slice x89.a x89.len x89.cap), (Value.slice x90.a x90.len x90.cap), (Value.slice x91.a x91.len x91.cap), (Value.slice x92.a x92.len x92.cap), (Value.slice x93.a x93.len x93.cap), (Value.slice x94.a x94.len x94.cap)]).length = 8 ∧ (Program.underlying Go.Proofs.Tryd.prog 69).isSome = true ∧
 H.wr h86 (Addr.mk r3 0 none) ([(Value.slice x87.a x87.len x87.cap), (Value.slice x88.a x88.len x88.cap), (Value.slice x89.a x89.len x89.cap), (Value.slice x90.a x90.len x90.cap), (Value.slice x91.a x91.len x91.cap), (Value.slice x92.a x92.len x92.cap), (Value.slice x93.a x93.len x93.cap), (Value.slice x94.a x94.len x94.cap)]) fun h95 =>
 ∃ x96 : SV, H.rd h95 (Addr.add (Addr.mk r3 0 none) 0) (Value.slice x96.a x96.len x96.cap) ∧
 ∃ x97 : SV, H.rd h95 (Addr.add (Addr.mk r3 0 none) 1) (Value.slice x97.a x97.len x97.cap) ∧
 ∃ x98 : SV, H.rd h95 (Addr.add (Addr.mk r3 0 none) 2) (Value.slice x98.a x98.len x98.cap) ∧
 ∃ x99 : SV, H.rd h95 (Addr.add (Addr.mk r3 0 none) 3) (Value.slice x99.a x99.len x99.cap) ∧
 ∃ x100 : SV, H.rd h95 (Addr.add (Addr.mk r3 0 none) 4) (Value.slice x100.a x100.len x100.cap) ∧
 ∃ x101 : SV, H.rd h95 (Addr.add (Addr.mk r3 0 none) 5) (Value.slice x101.a x101.len x101.cap) ∧
 ∃ x102 : SV, H.rd h95 (Addr.add (Addr.mk r3 0 none) 6) (Value.slice x102.a x102.len x102.cap) ∧
 ∃ x103 : SV, H.rd h95 (Addr.add (Addr.mk r3 0 none) 7) (Value.slice x103.a x103.len x103.cap) ∧
 VRet h95 (Value.tuple (List.toArray [(Value.agg (List.toArray [(Value.slice x96.a x96.len x96.cap), (Value.slice x97.a x97.len x97.cap), (Value.slice x98.a x98.len x98.cap), (Value.slice x99.a x99.len x99.cap), (Value.slice x100.a x100.len x100.cap), (Value.slice x101.a x101.len x101.cap), (Value.slice x102.a x102.len x102.cap), (Value.slice x103.a x103.len x103.cap)])), (Value.int .i64 0)])) post))

def f28_sem (p0_0_b : SV) (p0_1_b : SV) (p0_2_b : SV) (p0_3_b : SV) (p0_4_b : SV) (p0_5_b : SV) (p0_6_b : SV) (p0_7_b : SV) (p1_p : Int) (p2_writes : Bool) (p3_value : Int) (h0 : H) (post : Value → H → Prop) : Prop :=
 H.new h0 [(Value.slice p0_0_b.a p0_0_b.len p0_0_b.cap), (Value.slice p0_1_b.a p0_1_b.len p0_1_b.cap), (Value.slice p0_2_b.a p0_2_b.len p0_2_b.cap), (Value.slice p0_3_b.a p0_3_b.len p0_3_b.cap), (Value.slice p0_4_b.a p0_4_b.len p0_4_b.cap), (Value.slice p0_5_b.a p0_5_b.len p0_5_b.cap), (Value.slice p0_6_b.a p0_6_b.len p0_6_b.cap), (Value.slice p0_7_b.a p0_7_b.len p0_7_b.cap)] fun r1 h2 =>
 H.new h2 [(Value.slice none 0 0), (Value.slice none 0 0), (Value.slice none 0 0), (Value.slice none 0 0), (Value.slice none 0 0), (Value.slice none 0 0), (Value.slice none 0 0), (Value.slice none 0 0)] fun r3 h4 =>
 ∃ x5 : SV, H.rd h4 (Addr.add (Addr.add (Addr.mk r1 0 none) 1) 0) (Value.slice x5.a x5.len x5.cap) ∧
 ∃ R6 : Bool → H → Prop, (
 In64 (((x5.len : Nat) : Int) - (1 : Int)) ∧
 SemCall Go.Proofs.Tryd.prog 40 (List.toArray [(Value.int .i64 p1_p), (Value.int .i64 0), (Value.int .i64 (((x5.len : Nat) : Int) - (1 : Int)))]) h4 fun v7 h8 =>
 ∃ x9 : Bool, v7 = (Value.bool x9) ∧
 VIf (!x9) (
 (∃ h10, Gh h8 h10 ∧ R6 true h10)) (
 SemCall Go.Proofs.Tryd.prog 40 (List.toArray [(Value.int .i64 p3_value), (Value.int .i64 0), (Value.int .i64 (1000 : Int))]) h8 fun v11 h12 =>
 ∃ x13 : Bool, v11 = (Value.bool x13) ∧
 (∃ h14, Gh h12 h14 ∧ R6 (!x13) h14))) ∧
 ∀ (_ : F) (x15 : Bool) (h16 : H), R6 x15 h16 →
 f28_J1 p1_p p2_writes p3_value post r1 r3 x5 x15 h16

def f28_hint : Hint := (.node .leaf (.node .leaf (.node (.node (.join [(24, .bool)] .leaf) .leaf) (.node .leaf (.node .leaf (.node .leaf (.node .leaf (.node .leaf (.node .leaf (.node .leaf (.node .leaf (.node .leaf (.node .lex .leaf)))))))))))))

theorem f28_eq (p0_0_b : SV) (p0_1_b : SV) (p0_2_b : SV) (p0_3_b : SV) (p0_4_b : SV) (p0_5_b : SV) (p0_6_b : SV) (p0_7_b : SV) (p1_p : Int) (p2_writes : Bool) (p3_value : Int) (h0 : H) (post : Value → H → Prop) : exec Tryd.prog (bodyOf Tryd.f28) f28_hint (retQ Tryd.prog Tryd.f28 post) (F0 [(Value.agg (List.toArray [(Value.slice p0_0_b.a p0_0_b.len p0_0_b.cap), (Value.slice p0_1_b.a p0_1_b.len p0_1_b.cap), (Value.slice p0_2_b.a p0_2_b.len p0_2_b.cap), (Value.slice p0_3_b.a p0_3_b.len p0_3_b.cap), (Value.slice p0_4_b.a p0_4_b.len p0_4_b.cap), (Value.slice p0_5_b.a p0_5_b.len p0_5_b.cap), (Value.slice p0_6_b.a p0_6_b.len p0_6_b.cap), (Value.slice p0_7_b.a p0_7_b.len p0_7_b.cap)])), (Value.int .i64 p1_p), (Value.bool p2_writes), (Value.int .i64 p3_value)]) h0 = f28_sem p0_0_b p0_1_b p0_2_b p0_3_b p0_4_b p0_5_b p0_6_b p0_7_b p1_p p2_writes p3_value h0 post := by kernel_rfl

set_option maxRecDepth 20000 in
theorem f28_call (p0_0_b : SV) (p0_1_b : SV) (p0_2_b : SV) (p0_3_b : SV) (p0_4_b : SV) (p0_5_b : SV) (p0_6_b : SV) (p0_7_b : SV) (p1_p : Int) (p2_writes : Bool) (p3_value : Int) (h0 : H) (post : Value → H → Prop) (hx : f28_sem p0_0_b p0_1_b p0_2_b p0_3_b p0_4_b p0_5_b p0_6_b p0_7_b p1_p p2_writes p3_value h0 post) : SemCall Tryd.prog 28 (List.toArray [(Value.agg (List.toArray [(Value.slice p0_0_b.a p0_0_b.len p0_0_b.cap), (Value.slice p0_1_b.a p0_1_b.len p0_1_b.cap), (Value.slice p0_2_b.a p0_2_b.len p0_2_b.cap), (Value.slice p0_3_b.a p0_3_b.len p0_3_b.cap), (Value.slice p0_4_b.a p0_4_b.len p0_4_b.cap), (Value.slice p0_5_b.a p0_5_b.len p0_5_b.cap), (Value.slice p0_6_b.a p0_6_b.len p0_6_b.cap), (Value.slice p0_7_b.a p0_7_b.len p0_7_b.cap)])), (Value.int .i64 p1_p), (Value.bool p2_writes), (Value.int .i64 p3_value)]) h0 post :=
 sem_of_exec (g := f28_hint) mixed Tryd.func28 (bodyOf_eq (by kernel_rfl)) (by kernel_rfl) ((f28_eq p0_0_b p0_1_b p0_2_b p0_3_b p0_4_b p0_5_b p0_6_b p0_7_b p1_p p2_writes p3_value h0 post).mpr hx)

/- (*latchgarth/snap.Board).Write -/
def f29_sem (p0_b : Option Addr) (p1_p : Int) (p2_value : Int) (h0 : H) (post : Value → H → Prop) : Prop :=
 SemCall Go.Proofs.Tryd.prog 46 (List.toArray [(Value.pointer p0_b), (Value.int .i64 p1_p), (Value.agg (List.toArray [(Value.int .i64 0), (Value.int .i64 0), (Value.bool true), (Value.int .i64 p2_value), (Value.slice none 0 0), (Value.slice none 0 0), (Value.slice none 0 0)]))]) h0 fun v1 h2 =>
 ∃ x3 : Option (TypeId × Value), v1 = (errV x3) ∧
 VRet h2 (errV x3) post

def f29_hint : Hint := .leaf

theorem f29_eq (p0_b : Option Addr) (p1_p : Int) (p2_value : Int) (h0 : H) (post : Value → H → Prop) : exec Tryd.prog (bodyOf Tryd.f29) f29_hint (retQ Tryd.prog Tryd.f29 post) (F0 [(Value.pointer p0_b), (Value.int .i64 p1_p), (Value.int .i64 p2_value)]) h0 = f29_sem p0_b p1_p p2_value h0 post := by kernel_rfl

set_option maxRecDepth 20000 in
theorem f29_call (p0_b : Option Addr) (p1_p : Int) (p2_value : Int) (h0 : H) (post : Value → H → Prop) (hx : f29_sem p0_b p1_p p2_value h0 post) : SemCall Tryd.prog 29 (List.toArray [(Value.pointer p0_b), (Value.int .i64 p1_p), (Value.int .i64 p2_value)]) h0 post :=
 sem_of_exec (g := f29_hint) mixed Tryd.func29 (bodyOf_eq (by kernel_rfl)) (by kernel_rfl) ((f29_eq p0_b p1_p p2_value h0 post).mpr hx)

/- (*latchgarth/snap.Board).Look -/
def f30_sem (p0_b : Option Addr) (p1_p : Int) (h0 : H) (post : Value → H → Prop) : Prop :=
 SemCall Go.Proofs.Tryd.prog 46 (List.toArray [(Value.pointer p0_b), (Value.int .i64 p1_p), (Value.agg (List.toArray [(Value.int .i64 0), (Value.int .i64 0), (Value.bool false), (Value.int .i64 0), (Value.slice none 0 0), (Value.slice none 0 0), (Value.slice none 0 0)]))]) h0 fun v1 h2 =>
 ∃ x3 : Option (TypeId × Value), v1 = (errV x3) ∧
 VRet h2 (errV x3) post

def f30_hint : Hint := .leaf

theorem f30_eq (p0_b : Option Addr) (p1_p : Int) (h0 : H) (post : Value → H → Prop) : exec Tryd.prog (bodyOf Tryd.f30) f30_hint (retQ Tryd.prog Tryd.f30 post) (F0 [(Value.pointer p0_b), (Value.int .i64 p1_p)]) h0 = f30_sem p0_b p1_p h0 post := by kernel_rfl

set_option maxRecDepth 20000 in
theorem f30_call (p0_b : Option Addr) (p1_p : Int) (h0 : H) (post : Value → H → Prop) (hx : f30_sem p0_b p1_p h0 post) : SemCall Tryd.prog 30 (List.toArray [(Value.pointer p0_b), (Value.int .i64 p1_p)]) h0 post :=
 sem_of_exec (g := f30_hint) mixed Tryd.func30 (bodyOf_eq (by kernel_rfl)) (by kernel_rfl) ((f30_eq p0_b p1_p h0 post).mpr hx)

/- latchgarth/latchgarthref3.StepBoard -/
def f31_J1 (post : Value → H → Prop) (r1 : Nat) (r3 : Nat) (h76 : H) : Prop :=
 ∃ x77 : SV, H.rd h76 (Addr.add (Addr.mk r1 0 none) 0) (Value.slice x77.a x77.len x77.cap) ∧
 ∃ x78 : SV, H.rd h76 (Addr.add (Addr.mk r1 0 none) 1) (Value.slice x78.a x78.len x78.cap) ∧
 ∃ x79 : SV, H.rd h76 (Addr.add (Addr.mk r1 0 none) 2) (Value.slice x79.a x79.len x79.cap) ∧
 ∃ x80 : SV, H.rd h76 (Addr.add (Addr.mk r1 0 none) 3) (Value.slice x80.a x80.len x80.cap) ∧
 ∃ x81 : SV, H.rd h76 (Addr.add (Addr.mk r1 0 none) 4) (Value.slice x81.a x81.len x81.cap) ∧
 ∃ x82 : SV, H.rd h76 (Addr.add (Addr.mk r1 0 none) 5) (Value.slice x82.a x82.len x82.cap) ∧
 ∃ x83 : SV, H.rd h76 (Addr.add (Addr.mk r1 0 none) 6) (Value.slice x83.a x83.len x83.cap) ∧
 ∃ x84 : SV, H.rd h76 (Addr.add (Addr.mk r1 0 none) 7) (Value.slice x84.a x84.len x84.cap) ∧
 ([(Value.slice x77.a x77.len x77.cap), (Value.slice x78.a x78.len x78.cap), (Value.slice x79.a x79.len x79.cap), (Value.slice x80.a x80.len x80.cap), (Value.slice x81.a x81.len x81.cap), (Value.slice x82.a x82.len x82.cap), (Value.slice x83.a x83.len x83.cap), (Value.slice x84.a x84.len x84.cap)]).length = 8 ∧ (Program.underlying Go.Proofs.Tryd.prog 69).isSome = true ∧
 H.wr h76 (Addr.mk r3 0 none) ([(Value.slice x77.a x77.len x77.cap), (Value.slice x78.a x78.len x78.cap), (Value.slice x79.a x79.len x79.cap), (Value.slice x80.a x80.len x80.cap), (Value.slice x81.a x81.len x81.cap), (Value.slice x82.a x82.len x82.cap), (Value.slice x83.a x83.len x83.cap), (Value.slice x84.a x84.len x84.cap)]) fun h85 =>
 ∃ x86 : SV, H.rd h85 (Addr.add (Addr.mk r3 0 none) 0) (Value.slice x86.a x86.len x86.cap) ∧
 ∃ x87 : SV, H.rd h85 (Addr.add (Addr.mk r3 0 none) 1) (Value.slice x87.a x87.len x87.cap) ∧
 ∃ x88 : SV, H.rd h85 (Addr.add (Addr.mk r3 0 none) 2) (Value.slice x88.a x88.len x88.cap) ∧
 ∃ x89 : SV, H.rd h85 (Addr.add (Addr.mk r3 0 none) 3) (Value.slice x89.a x89.len x89.cap) ∧
 ∃ x90 : SV, H.rd h85 (Addr.add (Addr.mk r3 0 none) 4) (Value.slice x90.a x90.len x90.cap) ∧
 ∃ x91 : SV, H.rd h85 (Addr.add (Addr.mk r3 0 none) 5) (Value.slice x91.a x91.len x91.cap) ∧
 ∃ x92 : SV, H.rd h85 (Addr.add (Addr.mk r3 0 none) 6) (Value.slice x92.a x92.len x92.cap) ∧
 ∃ x93 : SV, H.rd h85 (Addr.add (Addr.mk r3 0 none) 7) (Value.slice x93.a x93.len x93.cap) ∧
 VRet h85 (Value.tuple (List.toArray [(Value.agg (List.toArray [(Value.slice x86.a x86.len x86.cap), (Value.slice x87.a x87.len x87.cap), (Value.slice x88.a x88.len x88.cap), (Value.slice x89.a x89.len x89.cap), (Value.slice x90.a x90.len x90.cap), (Value.slice x91.a x91.len x91.cap), (Value.slice x92.a x92.len x92.cap), (Value.slice x93.a x93.len x93.cap)])), (Value.bool false), (Value.slice none 0 0), (Value.int .i64 0)])) post

def f31_L2 (p1_p : Int) (r1 : Nat) (x5 : SV) (R170 : Int → Bool → H → Prop) (I171 : Nat → Int → Bool → Int → H → Prop) (n172 : Nat) (x175_helped : Int) (x176_same : Bool) (x177_q : Int) (h178 : H) : Prop :=
 VIf (decide (x177_q < ((x5.len : Nat) : Int))) (
 ∃ x179 : SV, H.rd h178 (Addr.add (Addr.add (Addr.mk r1 0 none) 4) 0) (Value.slice x179.a x179.len x179.cap) ∧
 ∃ b180 : Addr, x179.a = some b180 ∧ 0 ≤ p1_p ∧ p1_p < ((x179.len : Nat) : Int) ∧
 ∃ x181 : SV, H.rd h178 (Addr.add (Addr.add b180 ((p1_p).toNat * 1)) 0) (Value.slice x181.a x181.len x181.cap) ∧
 ∃ b182 : Addr, x181.a = some b182 ∧ 0 ≤ x177_q ∧ x177_q < ((x181.len : Nat) : Int) ∧
 ∃ x183 : Int, H.rd h178 (Addr.add (Addr.add (Addr.add b182 ((x177_q).toNat * 3)) 1) 0) (Value.int .i64 x183) ∧
 ∃ x184 : SV, H.rd h178 (Addr.add (Addr.add (Addr.mk r1 0 none) 5) 0) (Value.slice x184.a x184.len x184.cap) ∧
 ∃ b185 : Addr, x184.a = some b185 ∧ 0 ≤ p1_p ∧ p1_p < ((x184.len : Nat) : Int) ∧
 ∃ x186 : SV, H.rd h178 (Addr.add (Addr.add b185 ((p1_p).toNat * 1)) 0) (Value.slice x186.a x186.len x186.cap) ∧
 ∃ b187 : Addr, x186.a = some b187 ∧ 0 ≤ x177_q ∧ x177_q < ((x186.len : Nat) : Int) ∧
 ∃ x188 : Int, H.rd h178 (Addr.add (Addr.add (Addr.add b187 ((x177_q).toNat * 3)) 1) 0) (Value.int .i64 x188) ∧
 VIf (x183 == x188) (
 In64 (x177_q + (1 : Int)) ∧
 ∃ m173, m173 < n172 ∧ (∃ h189, Gh h178 h189 ∧ I171 m173 x175_helped x176_same (x177_q + (1 : Int)) h189)) (
 ∃ x190 : SV, H.rd h178 (Addr.add (Addr.add (Addr.mk r1 0 none) 6) 0) (Value.slice x190.a x190.len x190.cap) ∧
 ∃ x191 : SV, H.rd h178 (Addr.add (Addr.add (Addr.mk r1 0 none) 6) 0) (Value.slice x191.a x191.len x191.cap) ∧
 ∃ b192 : Addr, x191.a = some b192 ∧ 0 ≤ p1_p ∧ p1_p < ((x191.len : Nat) : Int) ∧
 ∃ x193 : SV, H.rd h178 (Addr.add (Addr.add b192 ((p1_p).toNat * 1)) 0) (Value.slice x193.a x193.len x193.cap) ∧
 ∃ x194 : SV, H.rd h178 (Addr.add (Addr.add (Addr.mk r1 0 none) 6) 0) (Value.slice x194.a x194.len x194.cap) ∧
 ∃ b195 : Addr, x194.a = some b195 ∧ 0 ≤ p1_p ∧ p1_p < ((x194.len : Nat) : Int) ∧
 ∃ x196 : SV, H.rd h178 (Addr.add (Addr.add b195 ((p1_p).toNat * 1)) 0) (Value.slice x196.a x196.len x196.cap) ∧
 ∃ b197 : Addr, x196.a = some b197 ∧ 0 ≤ x177_q ∧ x177_q < ((x196.len : Nat) : Int) ∧
 ∃ x198 : Int, H.rd h178 (Addr.add (Addr.add b197 ((x177_q).toNat * 1)) 0) (Value.int .i64 x198) ∧
 In64 (x198 + (1 : Int)) ∧
 SemCall Go.Proofs.Tryd.prog 37 (List.toArray [(Value.slice x193.a x193.len x193.cap), (Value.int .i64 x177_q), (Value.int .i64 (x198 + (1 : Int)))]) h178 fun v199 h200 => OwnExt h178 h200 ∧
 ∃ x201 : SV, v199 = (Value.slice x201.a x201.len x201.cap) ∧
 SemCall Go.Proofs.Tryd.prog 45 (List.toArray [(Value.slice x190.a x190.len x190.cap), (Value.int .i64 p1_p), (Value.slice x201.a x201.len x201.cap)]) h200 fun v202 h203 =>
 ∃ x204 : SV, v202 = (Value.slice x204.a x204.len x204.cap) ∧
 H.wr h203 (Addr.add (Addr.mk r1 0 none) 6) ([(Value.slice x204.a x204.len x204.cap)]) fun h205 =>
 ∃ R206 : Bool → H → Prop, (
 VIf (decide (x175_helped < (0 : Int))) (
 ∃ x207 : SV, H.rd h205 (Addr.add (Addr.add (Addr.mk r1 0 none) 6) 0) (Value.slice x207.a x207.len x207.cap) ∧
 ∃ b208 : Addr, x207.a = some b208 ∧ 0 ≤ p1_p ∧ p1_p < ((x207.len : Nat) : Int) ∧
 ∃ x209 : SV, H.rd h205 (Addr.add (Addr.add b208 ((p1_p).toNat * 1)) 0) (Value.slice x209.a x209.len x209.cap) ∧
 ∃ b210 : Addr, x209.a = some b210 ∧ 0 ≤ x177_q ∧ x177_q < ((x209.len : Nat) : Int) ∧
 ∃ x211 : Int, H.rd h205 (Addr.add (Addr.add b210 ((x177_q).toNat * 1)) 0) (Value.int .i64 x211) ∧
 (∃ h212, Gh h205 h212 ∧ R206 (x211 == (2 : Int)) h212)) (
 (∃ h213, Gh h205 h213 ∧ R206 false h213))) ∧
 ∀ (_ : F) (x214 : Bool) (h215 : H), R206 x214 h215 →
 VIf x214 (
 In64 (x177_q + (1 : Int)) ∧
 ∃ m173, m173 < n172 ∧ (∃ h216, Gh h215 h216 ∧ I171 m173 x177_q false (x177_q + (1 : Int)) h216)) (
 In64 (x177_q + (1 : Int)) ∧
 ∃ m173, m173 < n172 ∧ (∃ h217, Gh h215 h217 ∧ I171 m173 x175_helped false (x177_q + (1 : Int)) h217)))) (
 (∃ h218, Gh h178 h218 ∧ R170 x175_helped x176_same h218))

def f31_L3 (p1_p : Int) (r1 : Nat) (x5 : SV) (R229 : SV → H → Prop) (I230 : Nat → SV → Int → H → Prop) (n231 : Nat) (x234_seen : SV) (x235_q : Int) (h236 : H) : Prop :=
 VIf (decide (x235_q < ((x5.len : Nat) : Int))) (
 ∃ x237 : SV, H.rd h236 (Addr.add (Addr.add (Addr.mk r1 0 none) 5) 0) (Value.slice x237.a x237.len x237.cap) ∧
 ∃ b238 : Addr, x237.a = some b238 ∧ 0 ≤ p1_p ∧ p1_p < ((x237.len : Nat) : Int) ∧
 ∃ x239 : SV, H.rd h236 (Addr.add (Addr.add b238 ((p1_p).toNat * 1)) 0) (Value.slice x239.a x239.len x239.cap) ∧
 ∃ b240 : Addr, x239.a = some b240 ∧ 0 ≤ x235_q ∧ x235_q < ((x239.len : Nat) : Int) ∧
 ∃ x241 : Int, H.rd h236 (Addr.add (Addr.add (Addr.add b240 ((x235_q).toNat * 3)) 0) 0) (Value.int .i64 x241) ∧
 H.new h236 [(Value.int .i64 x241)] fun r242 h243 =>
 appVC Go.Proofs.Tryd.prog 22 (Value.slice x234_seen.a x234_seen.len x234_seen.cap) (Value.slice (some (Addr.mk r242 0 none)) 1 1) h243 fun x244 h245 =>
 In64 (x235_q + (1 : Int)) ∧
 ∃ m232, m232 < n231 ∧ (∃ h246, Gh h245 h246 ∧ I230 m232 x244 (x235_q + (1 : Int)) h246)) (
 (∃ h247, Gh h236 h247 ∧ R229 x234_seen h247))

def f31_J4 (p1_p : Int) (post : Value → H → Prop) (r1 : Nat) (r3 : Nat) (x281_seen : SV) (h282 : H) : Prop :=
 ∃ x283 : SV, H.rd h282 (Addr.add (Addr.add (Addr.mk r1 0 none) 3) 0) (Value.slice x283.a x283.len x283.cap) ∧
 ∃ b284 : Addr, x283.a = some b284 ∧ 0 ≤ p1_p ∧ p1_p < ((x283.len : Nat) : Int) ∧
 ∃ x285 : Bool, H.rd h282 (Addr.add (Addr.add b284 ((p1_p).toNat * 1)) 0) (Value.bool x285) ∧
 VIf x285 (
 ∃ x286 : SV, H.rd h282 (Addr.add (Addr.add (Addr.mk r1 0 none) 7) 0) (Value.slice x286.a x286.len x286.cap) ∧
 SemCall Go.Proofs.Tryd.prog 45 (List.toArray [(Value.slice x286.a x286.len x286.cap), (Value.int .i64 p1_p), (Value.slice x281_seen.a x281_seen.len x281_seen.cap)]) h282 fun v287 h288 =>
 ∃ x289 : SV, v287 = (Value.slice x289.a x289.len x289.cap) ∧
 H.wr h288 (Addr.add (Addr.mk r1 0 none) 7) ([(Value.slice x289.a x289.len x289.cap)]) fun h290 =>
 ∃ x291 : SV, H.rd h290 (Addr.add (Addr.add (Addr.mk r1 0 none) 1) 0) (Value.slice x291.a x291.len x291.cap) ∧
 SemCall Go.Proofs.Tryd.prog 37 (List.toArray [(Value.slice x291.a x291.len x291.cap), (Value.int .i64 p1_p), (Value.int .i64 (3 : Int))]) h290 fun v292 h293 =>
 ∃ x294 : SV, v292 = (Value.slice x294.a x294.len x294.cap) ∧
 H.wr h293 (Addr.add (Addr.mk r1 0 none) 1) ([(Value.slice x294.a x294.len x294.cap)]) fun h295 =>
 ∃ x296 : SV, H.rd h295 (Addr.add (Addr.mk r1 0 none) 0) (Value.slice x296.a x296.len x296.cap) ∧
 ∃ x297 : SV, H.rd h295 (Addr.add (Addr.mk r1 0 none) 1) (Value.slice x297.a x297.len x297.cap) ∧
 ∃ x298 : SV, H.rd h295 (Addr.add (Addr.mk r1 0 none) 2) (Value.slice x298.a x298.len x298.cap) ∧
 ∃ x299 : SV, H.rd h295 (Addr.add (Addr.mk r1 0 none) 3) (Value.slice x299.a x299.len x299.cap) ∧
 ∃ x300 : SV, H.rd h295 (Addr.add (Addr.mk r1 0 none) 4) (Value.slice x300.a x300.len x300.cap) ∧
 ∃ x301 : SV, H.rd h295 (Addr.add (Addr.mk r1 0 none) 5) (Value.slice x301.a x301.len x301.cap) ∧
 ∃ x302 : SV, H.rd h295 (Addr.add (Addr.mk r1 0 none) 6) (Value.slice x302.a x302.len x302.cap) ∧
 ∃ x303 : SV, H.rd h295 (Addr.add (Addr.mk r1 0 none) 7) (Value.slice x303.a x303.len x303.cap) ∧
 ([(Value.slice x296.a x296.len x296.cap), (Value.slice x297.a x297.len x297.cap), (Value.slice x298.a x298.len x298.cap), (Value.slice x299.a x299.len x299.cap), (Value.slice x300.a x300.len x300.cap), (Value.slice x301.a x301.len x301.cap), (Value.slice x302.a x302.len x302.cap), (Value.slice x303.a x303.len x303.cap)]).length = 8 ∧ (Program.underlying Go.Proofs.Tryd.prog 69).isSome = true ∧
 H.wr h295 (Addr.mk r3 0 none) ([(Value.slice x296.a x296.len x296.cap), (Value.slice x297.a x297.len x297.cap), (Value.slice x298.a x298.len x298.cap), (Value.slice x299.a x299.len x299.cap), (Value.slice x300.a x300.len x300.cap), (Value.slice x301.a x301.len x301.cap), (Value.slice x302.a x302.len x302.cap), (Value.slice x303.a x303.len x303.cap)]) fun h304 =>
 ∃ x305 : SV, H.rd h304 (Addr.add (Addr.mk r3 0 none) 0) (Value.slice x305.a x305.len x305.cap) ∧
 ∃ x306 : SV, H.rd h304 (Addr.add (Addr.mk r3 0 none) 1) (Value.slice x306.a x306.len x306.cap) ∧
 ∃ x307 : SV, H.rd h304 (Addr.add (Addr.mk r3 0 none) 2) (Value.slice x307.a x307.len x307.cap) ∧
 ∃ x308 : SV, H.rd h304 (Addr.add (Addr.mk r3 0 none) 3) (Value.slice x308.a x308.len x308.cap) ∧
 ∃ x309 : SV, H.rd h304 (Addr.add (Addr.mk r3 0 none) 4) (Value.slice x309.a x309.len x309.cap) ∧
 ∃ x310 : SV, H.rd h304 (Addr.add (Addr.mk r3 0 none) 5) (Value.slice x310.a x310.len x310.cap) ∧
 ∃ x311 : SV, H.rd h304 (Addr.add (Addr.mk r3 0 none) 6) (Value.slice x311.a x311.len x311.cap) ∧
 ∃ x312 : SV, H.rd h304 (Addr.add (Addr.mk r3 0 none) 7) (Value.slice x312.a x312.len x312.cap) ∧
 VRet h304 (Value.tuple (List.toArray [(Value.agg (List.toArray [(Value.slice x305.a x305.len x305.cap), (Value.slice x306.a x306.len x306.cap), (Value.slice x307.a x307.len x307.cap), (Value.slice x308.a x308.len x308.cap), (Value.slice x309.a x309.len x309.cap), (Value.slice x310.a x310.len x310.cap), (Value.slice x311.a x311.len x311.cap), (Value.slice x312.a x312.len x312.cap)])), (Value.bool false), (Value.slice none 0 0), (Value.int .i64 0)])) post) (
 ∃ x313 : SV, H.rd h282 (Addr.add (Addr.add (Addr.mk r1 0 none) 1) 0) (Value.slice x313.a x313.len x313.cap) ∧
 SemCall Go.Proofs.Tryd.prog 37 (List.toArray [(Value.slice x313.a x313.len x313.cap), (Value.int .i64 p1_p), (Value.int .i64 0)]) h282 fun v314 h315 =>
 ∃ x316 : SV, v314 = (Value.slice x316.a x316.len x316.cap) ∧
 H.wr h315 (Addr.add (Addr.mk r1 0 none) 1) ([(Value.slice x316.a x316.len x316.cap)]) fun h317 =>
 ∃ x318 : SV, H.rd h317 (Addr.add (Addr.mk r1 0 none) 0) (Value.slice x318.a x318.len x318.cap) ∧
 ∃ x319 : SV, H.rd h317 (Addr.add (Addr.mk r1 0 none) 1) (Value.slice x319.a x319.len x319.cap) ∧
 ∃ x320 : SV, H.rd h317 (Addr.add (Addr.mk r1 0 none) 2) (Value.slice x320.a x320.len x320.cap) ∧
 ∃ x321 : SV, H.rd h317 (Addr.add (Addr.mk r1 0 none) 3) (Value.slice x321.a x321.len x321.cap) ∧
 ∃ x322 : SV, H.rd h317 (Addr.add (Addr.mk r1 0 none) 4) (Value.slice x322.a x322.len x322.cap) ∧
 ∃ x323 : SV, H.rd h317 (Addr.add (Addr.mk r1 0 none) 5) (Value.slice x323.a x323.len x323.cap) ∧
 ∃ x324 : SV, H.rd h317 (Addr.add (Addr.mk r1 0 none) 6) (Value.slice x324.a x324.len x324.cap) ∧
 ∃ x325 : SV, H.rd h317 (Addr.add (Addr.mk r1 0 none) 7) (Value.slice x325.a x325.len x325.cap) ∧
 ([(Value.slice x318.a x318.len x318.cap), (Value.slice x319.a x319.len x319.cap), (Value.slice x320.a x320.len x320.cap), (Value.slice x321.a x321.len x321.cap), (Value.slice x322.a x322.len x322.cap), (Value.slice x323.a x323.len x323.cap), (Value.slice x324.a x324.len x324.cap), (Value.slice x325.a x325.len x325.cap)]).length = 8 ∧ (Program.underlying Go.Proofs.Tryd.prog 69).isSome = true ∧
 H.wr h317 (Addr.mk r3 0 none) ([(Value.slice x318.a x318.len x318.cap), (Value.slice x319.a x319.len x319.cap), (Value.slice x320.a x320.len x320.cap), (Value.slice x321.a x321.len x321.cap), (Value.slice x322.a x322.len x322.cap), (Value.slice x323.a x323.len x323.cap), (Value.slice x324.a x324.len x324.cap), (Value.slice x325.a x325.len x325.cap)]) fun h326 =>
 ∃ x327 : SV, H.rd h326 (Addr.add (Addr.mk r3 0 none) 0) (Value.slice x327.a x327.len x327.cap) ∧
 ∃ x328 : SV, H.rd h326 (Addr.add (Addr.mk r3 0 none) 1) (Value.slice x328.a x328.len x328.cap) ∧
 ∃ x329 : SV, H.rd h326 (Addr.add (Addr.mk r3 0 none) 2) (Value.slice x329.a x329.len x329.cap) ∧
 ∃ x330 : SV, H.rd h326 (Addr.add (Addr.mk r3 0 none) 3) (Value.slice x330.a x330.len x330.cap) ∧
 ∃ x331 : SV, H.rd h326 (Addr.add (Addr.mk r3 0 none) 4) (Value.slice x331.a x331.len x331.cap) ∧
 ∃ x332 : SV, H.rd h326 (Addr.add (Addr.mk r3 0 none) 5) (Value.slice x332.a x332.len x332.cap) ∧
 ∃ x333 : SV, H.rd h326 (Addr.add (Addr.mk r3 0 none) 6) (Value.slice x333.a x333.len x333.cap) ∧
 ∃ x334 : SV, H.rd h326 (Addr.add (Addr.mk r3 0 none) 7) (Value.slice x334.a x334.len x334.cap) ∧
 VRet h326 (Value.tuple (List.toArray [(Value.agg (List.toArray [(Value.slice x327.a x327.len x327.cap), (Value.slice x328.a x328.len x328.cap), (Value.slice x329.a x329.len x329.cap), (Value.slice x330.a x330.len x330.cap), (Value.slice x331.a x331.len x331.cap), (Value.slice x332.a x332.len x332.cap), (Value.slice x333.a x333.len x333.cap), (Value.slice x334.a x334.len x334.cap)])), (Value.bool true), (Value.slice x281_seen.a x281_seen.len x281_seen.cap), (Value.int .i64 0)])) post)

def f31_J5 (p1_p : Int) (post : Value → H → Prop) (r1 : Nat) (r3 : Nat) (x5 : SV) (x219_helped : Int) (x220_same : Bool) (h221 : H) : Prop :=
 ∃ R222 : SV → H → Prop, (
 VIf (decide (x219_helped ≥ (0 : Int))) (
 ∃ x223 : SV, H.rd h221 (Addr.add (Addr.add (Addr.mk r1 0 none) 5) 0) (Value.slice x223.a x223.len x223.cap) ∧
 ∃ b224 : Addr, x223.a = some b224 ∧ 0 ≤ p1_p ∧ p1_p < ((x223.len : Nat) : Int) ∧
 ∃ x225 : SV, H.rd h221 (Addr.add (Addr.add b224 ((p1_p).toNat * 1)) 0) (Value.slice x225.a x225.len x225.cap) ∧
 ∃ b226 : Addr, x225.a = some b226 ∧ 0 ≤ x219_helped ∧ x219_helped < ((x225.len : Nat) : Int) ∧
 ∃ x227 : SV, H.rd h221 (Addr.add (Addr.add (Addr.add b226 ((x219_helped).toNat * 3)) 2) 0) (Value.slice x227.a x227.len x227.cap) ∧
 (∃ h228, Gh h221 h228 ∧ R222 x227 h228)) (
 VIf x220_same (
 ∃ R229 : SV → H → Prop, (
 ∃ I230 : Nat → SV → Int → H → Prop, (∃ n231, (∃ h233, Gh h221 h233 ∧ I230 n231 (SV.mk none 0 0) (0 : Int) h233)) ∧
 ∀ (n231 : Nat) (_ : F) (x234_seen : SV) (x235_q : Int) (h236 : H), I230 n231 x234_seen x235_q h236 →
 f31_L3 p1_p r1 x5 R229 I230 n231 x234_seen x235_q h236) ∧
 ∀ (_ : F) (x248_seen : SV) (h249 : H), R229 x248_seen h249 →
 (∃ h250, Gh h249 h250 ∧ R222 x248_seen h250)) (
 ∃ x251 : SV, H.rd h221 (Addr.add (Addr.add (Addr.mk r1 0 none) 4) 0) (Value.slice x251.a x251.len x251.cap) ∧
 ∃ x252 : SV, H.rd h221 (Addr.add (Addr.add (Addr.mk r1 0 none) 5) 0) (Value.slice x252.a x252.len x252.cap) ∧
 ∃ b253 : Addr, x252.a = some b253 ∧ 0 ≤ p1_p ∧ p1_p < ((x252.len : Nat) : Int) ∧
 ∃ x254 : SV, H.rd h221 (Addr.add (Addr.add b253 ((p1_p).toNat * 1)) 0) (Value.slice x254.a x254.len x254.cap) ∧
 SemCall Go.Proofs.Tryd.prog 44 (List.toArray [(Value.slice x251.a x251.len x251.cap), (Value.int .i64 p1_p), (Value.slice x254.a x254.len x254.cap)]) h221 fun v255 h256 =>
 ∃ x257 : SV, v255 = (Value.slice x257.a x257.len x257.cap) ∧
 H.wr h256 (Addr.add (Addr.mk r1 0 none) 4) ([(Value.slice x257.a x257.len x257.cap)]) fun h258 =>
 ∃ x259 : SV, H.rd h258 (Addr.add (Addr.add (Addr.mk r1 0 none) 5) 0) (Value.slice x259.a x259.len x259.cap) ∧
 SemCall Go.Proofs.Tryd.prog 44 (List.toArray [(Value.slice x259.a x259.len x259.cap), (Value.int .i64 p1_p), (Value.slice none 0 0)]) h258 fun v260 h261 =>
 ∃ x262 : SV, v260 = (Value.slice x262.a x262.len x262.cap) ∧
 H.wr h261 (Addr.add (Addr.mk r1 0 none) 5) ([(Value.slice x262.a x262.len x262.cap)]) fun h263 =>
 ∃ x264 : SV, H.rd h263 (Addr.add (Addr.mk r1 0 none) 0) (Value.slice x264.a x264.len x264.cap) ∧
 ∃ x265 : SV, H.rd h263 (Addr.add (Addr.mk r1 0 none) 1) (Value.slice x265.a x265.len x265.cap) ∧
 ∃ x266 : SV, H.rd h263 (Addr.add (Addr.mk r1 0 none) 2) (Value.slice x266.a x266.len x266.cap) ∧
 ∃ x267 : SV, H.rd h263 (Addr.add (Addr.mk r1 0 none) 3) (Value.slice x267.a x267.len x267.cap) ∧
 ∃ x268 : SV, H.rd h263 (Addr.add (Addr.mk r1 0 none) 4) (Value.slice x268.a x268.len x268.cap) ∧
 ∃ x269 : SV, H.rd h263 (Addr.add (Addr.mk r1 0 none) 5) (Value.slice x269.a x269.len x269.cap) ∧
 ∃ x270 : SV, H.rd h263 (Addr.add (Addr.mk r1 0 none) 6) (Value.slice x270.a x270.len x270.cap) ∧
 ∃ x271 : SV, H.rd h263 (Addr.add (Addr.mk r1 0 none) 7) (Value.slice x271.a x271.len x271.cap) ∧
 ([(Value.slice x264.a x264.len x264.cap), (Value.slice x265.a x265.len x265.cap), (Value.slice x266.a x266.len x266.cap), (Value.slice x267.a x267.len x267.cap), (Value.slice x268.a x268.len x268.cap), (Value.slice x269.a x269.len x269.cap), (Value.slice x270.a x270.len x270.cap), (Value.slice x271.a x271.len x271.cap)]).length = 8 ∧ (Program.underlying Go.Proofs.Tryd.prog 69).isSome = true ∧
 H.wr h263 (Addr.mk r3 0 none) ([(Value.slice x264.a x264.len x264.cap), (Value.slice x265.a x265.len x265.cap), (Value.slice x266.a x266.len x266.cap), (Value.slice x267.a x267.len x267.cap), (Value.slice x268.a x268.len x268.cap), (Value.slice x269.a x269.len x269.cap), (Value.slice x270.a x270.len x270.cap), (Value.slice x271.a x271.len x271.cap)]) fun h272 =>
 ∃ x273 : SV, H.rd h272 (Addr.add (Addr.mk r3 0 none) 0) (Value.slice x273.a x273.len x273.cap) ∧
 ∃ x274 : SV, H.rd h272 (Addr.add (Addr.mk r3 0 none) 1) (Value.slice x274.a x274.len x274.cap) ∧
 ∃ x275 : SV, H.rd h272 (Addr.add (Addr.mk r3 0 none) 2) (Value.slice x275.a x275.len x275.cap) ∧
 ∃ x276 : SV, H.rd h272 (Addr.add (Addr.mk r3 0 none) 3) (Value.slice x276.a x276.len x276.cap) ∧
 ∃ x277 : SV, H.rd h272 (Addr.add (Addr.mk r3 0 none) 4) (Value.slice x277.a x277.len x277.cap) ∧
 ∃ x278 : SV, H.rd h272 (Addr.add (Addr.mk r3 0 none) 5) (Value.slice x278.a x278.len x278.cap) ∧
 ∃ x279 : SV, H.rd h272 (Addr.add (Addr.mk r3 0 none) 6) (Value.slice x279.a x279.len x279.cap) ∧
 ∃ x280 : SV, H.rd h272 (Addr.add (Addr.mk r3 0 none) 7) (Value.slice x280.a x280.len x280.cap) ∧
 VRet h272 (Value.tuple (List.toArray [(Value.agg (List.toArray [(Value.slice x273.a x273.len x273.cap), (Value.slice x274.a x274.len x274.cap), (Value.slice x275.a x275.len x275.cap), (Value.slice x276.a x276.len x276.cap), (Value.slice x277.a x277.len x277.cap), (Value.slice x278.a x278.len x278.cap), (Value.slice x279.a x279.len x279.cap), (Value.slice x280.a x280.len x280.cap)])), (Value.bool false), (Value.slice none 0 0), (Value.int .i64 0)])) post))) ∧
 ∀ (_ : F) (x281_seen : SV) (h282 : H), R222 x281_seen h282 →
 f31_J4 p1_p post r1 r3 x281_seen h282

def f31_sem (p0_0_b : SV) (p0_1_b : SV) (p0_2_b : SV) (p0_3_b : SV) (p0_4_b : SV) (p0_5_b : SV) (p0_6_b : SV) (p0_7_b : SV) (p1_p : Int) (h0 : H) (post : Value → H → Prop) : Prop :=
 H.new h0 [(Value.slice p0_0_b.a p0_0_b.len p0_0_b.cap), (Value.slice p0_1_b.a p0_1_b.len p0_1_b.cap), (Value.slice p0_2_b.a p0_2_b.len p0_2_b.cap), (Value.slice p0_3_b.a p0_3_b.len p0_3_b.cap), (Value.slice p0_4_b.a p0_4_b.len p0_4_b.cap), (Value.slice p0_5_b.a p0_5_b.len p0_5_b.cap), (Value.slice p0_6_b.a p0_6_b.len p0_6_b.cap), (Value.slice p0_7_b.a p0_7_b.len p0_7_b.cap)] fun r1 h2 =>
 H.new h2 [(Value.slice none 0 0), (Value.slice none 0 0), (Value.slice none 0 0), (Value.slice none 0 0), (Value.slice none 0 0), (Value.slice none 0 0), (Value.slice none 0 0), (Value.slice none 0 0)] fun r3 h4 =>
 ∃ x5 : SV, H.rd h4 (Addr.add (Addr.add (Addr.mk r1 0 none) 1) 0) (Value.slice x5.a x5.len x5.cap) ∧
 In64 (((x5.len : Nat) : Int) - (1 : Int)) ∧
 SemCall Go.Proofs.Tryd.prog 40 (List.toArray [(Value.int .i64 p1_p), (Value.int .i64 0), (Value.int .i64 (((x5.len : Nat) : Int) - (1 : Int)))]) h4 fun v6 h7 =>
 ∃ x8 : Bool, v6 = (Value.bool x8) ∧
 VIf (!x8) (
 ∃ x9 : SV, H.rd h7 (Addr.add (Addr.mk r1 0 none) 0) (Value.slice x9.a x9.len x9.cap) ∧
 ∃ x10 : SV, H.rd h7 (Addr.add (Addr.mk r1 0 none) 1) (Value.slice x10.a x10.len x10.cap) ∧
 ∃ x11 : SV, H.rd h7 (Addr.add (Addr.mk r1 0 none) 2) (Value.slice x11.a x11.len x11.cap) ∧
 ∃ x12 : SV, H.rd h7 (Addr.add (Addr.mk r1 0 none) 3) (Value.slice x12.a x12.len x12.cap) ∧
 ∃ x13 : SV, H.rd h7 (Addr.add (Addr.mk r1 0 none) 4) (Value.slice x13.a x13.len x13.cap) ∧
 ∃ x14 : SV, H.rd h7 (Addr.add (Addr.mk r1 0 none) 5) (Value.slice x14.a x14.len x14.cap) ∧
 ∃ x15 : SV, H.rd h7 (Addr.add (Addr.mk r1 0 none) 6) (Value.slice x15.a x15.len x15.cap) ∧
 ∃ x16 : SV, H.rd h7 (Addr.add (Addr.mk r1 0 none) 7) (Value.slice x16.a x16.len x16.cap) ∧
 ([(Value.slice x9.a x9.len x9.cap), (Value.slice x10.a x10.len x10.cap), (Value.slice x11.a x11.len x11.cap), (Value.slice x12.a x12.len x12.cap), (Value.slice x13.a x13.len x13.cap), (Value.slice x14.a x14.len x14.cap), (Value.slice x15.a x15.len x15.cap), (Value.slice x16.a x16.len x16.cap)]).length = 8 ∧ (Program.underlying Go.Proofs.Tryd.prog 69).isSome = true ∧
 H.wr h7 (Addr.mk r3 0 none) ([(Value.slice x9.a x9.len x9.cap), (Value.slice x10.a x10.len x10.cap), (Value.slice x11.a x11.len x11.cap), (Value.slice x12.a x12.len x12.cap), (Value.slice x13.a x13.len x13.cap), (Value.slice x14.a x14.len x14.cap), (Value.slice x15.a x15.len x15.cap), (Value.slice x16.a x16.len x16.cap)]) fun h17 =>
 ∃ x18 : SV, H.rd h17 (Addr.add (Addr.mk r3 0 none) 0) (Value.slice x18.a x18.len x18.cap) ∧
 ∃ x19 : SV, H.rd h17 (Addr.add (Addr.mk r3 0 none) 1) (Value.slice x19.a x19.len x19.cap) ∧
 ∃ x20 : SV, H.rd h17 (Addr.add (Addr.mk r3 0 none) 2) (Value.slice x20.a x20.len x20.cap) ∧
 ∃ x21 : SV, H.rd h17 (Addr.add (Addr.mk r3 0 none) 3) (Value.slice x21.a x21.len x21.cap) ∧
 ∃ x22 : SV, H.rd h17 (Addr.add (Addr.mk r3 0 none) 4) (Value.slice x22.a x22.len x22.cap) ∧
 ∃ x23 : SV, H.rd h17 (Addr.add (Addr.mk r3 0 none) 5) (Value.slice x23.a x23.len x23.cap) ∧
 ∃ x24 : SV, H.rd h17 (Addr.add (Addr.mk r3 0 none) 6) (Value.slice x24.a x24.len x24.cap) ∧
 ∃ x25 : SV, H.rd h17 (Addr.add (Addr.mk r3 0 none) 7) (Value.slice x25.a x25.len x25.cap) ∧
 VRet h17 (Value.tuple (List.toArray [(Value.agg (List.toArray [(Value.slice x18.a x18.len x18.cap), (Value.slice x19.a x19.len x19.cap), (Value.slice x20.a x20.len x20.cap), (Value.slice x21.a x21.len x21.cap), (Value.slice x22.a x22.len x22.cap), (Value.slice x23.a x23.len x23.cap), (Value.slice x24.a x24.len x24.cap), (Value.slice x25.a x25.len x25.cap)])), (Value.bool false), (Value.slice none 0 0), (Value.int .i64 (1 : Int))])) post) (
 ∃ x26 : SV, H.rd h7 (Addr.add (Addr.add (Addr.mk r1 0 none) 1) 0) (Value.slice x26.a x26.len x26.cap) ∧
 ∃ b27 : Addr, x26.a = some b27 ∧ 0 ≤ p1_p ∧ p1_p < ((x26.len : Nat) : Int) ∧
 ∃ x28 : Int, H.rd h7 (Addr.add (Addr.add b27 ((p1_p).toNat * 1)) 0) (Value.int .i64 x28) ∧
 VIf (x28 == (0 : Int)) (
 ∃ x29 : SV, H.rd h7 (Addr.add (Addr.mk r1 0 none) 0) (Value.slice x29.a x29.len x29.cap) ∧
 ∃ x30 : SV, H.rd h7 (Addr.add (Addr.mk r1 0 none) 1) (Value.slice x30.a x30.len x30.cap) ∧
 ∃ x31 : SV, H.rd h7 (Addr.add (Addr.mk r1 0 none) 2) (Value.slice x31.a x31.len x31.cap) ∧
 ∃ x32 : SV, H.rd h7 (Addr.add (Addr.mk r1 0 none) 3) (Value.slice x32.a x32.len x32.cap) ∧
 ∃ x33 : SV, H.rd h7 (Addr.add (Addr.mk r1 0 none) 4) (Value.slice x33.a x33.len x33.cap) ∧
 ∃ x34 : SV, H.rd h7 (Addr.add (Addr.mk r1 0 none) 5) (Value.slice x34.a x34.len x34.cap) ∧
 ∃ x35 : SV, H.rd h7 (Addr.add (Addr.mk r1 0 none) 6) (Value.slice x35.a x35.len x35.cap) ∧
 ∃ x36 : SV, H.rd h7 (Addr.add (Addr.mk r1 0 none) 7) (Value.slice x36.a x36.len x36.cap) ∧
 ([(Value.slice x29.a x29.len x29.cap), (Value.slice x30.a x30.len x30.cap), (Value.slice x31.a x31.len x31.cap), (Value.slice x32.a x32.len x32.cap), (Value.slice x33.a x33.len x33.cap), (Value.slice x34.a x34.len x34.cap), (Value.slice x35.a x35.len x35.cap), (Value.slice x36.a x36.len x36.cap)]).length = 8 ∧ (Program.underlying Go.Proofs.Tryd.prog 69).isSome = true ∧
 H.wr h7 (Addr.mk r3 0 none) ([(Value.slice x29.a x29.len x29.cap), (Value.slice x30.a x30.len x30.cap), (Value.slice x31.a x31.len x31.cap), (Value.slice x32.a x32.len x32.cap), (Value.slice x33.a x33.len x33.cap), (Value.slice x34.a x34.len x34.cap), (Value.slice x35.a x35.len x35.cap), (Value.slice x36.a x36.len x36.cap)]) fun h37 =>
 ∃ x38 : SV, H.rd h37 (Addr.add (Addr.mk r3 0 none) 0) (Value.slice x38.a x38.len x38.cap) ∧
 ∃ x39 : SV, H.rd h37 (Addr.add (Addr.mk r3 0 none) 1) (Value.slice x39.a x39.len x39.cap) ∧
 ∃ x40 : SV, H.rd h37 (Addr.add (Addr.mk r3 0 none) 2) (Value.slice x40.a x40.len x40.cap) ∧
 ∃ x41 : SV, H.rd h37 (Addr.add (Addr.mk r3 0 none) 3) (Value.slice x41.a x41.len x41.cap) ∧
 ∃ x42 : SV, H.rd h37 (Addr.add (Addr.mk r3 0 none) 4) (Value.slice x42.a x42.len x42.cap) ∧
 ∃ x43 : SV, H.rd h37 (Addr.add (Addr.mk r3 0 none) 5) (Value.slice x43.a x43.len x43.cap) ∧
 ∃ x44 : SV, H.rd h37 (Addr.add (Addr.mk r3 0 none) 6) (Value.slice x44.a x44.len x44.cap) ∧
 ∃ x45 : SV, H.rd h37 (Addr.add (Addr.mk r3 0 none) 7) (Value.slice x45.a x45.len x45.cap) ∧
 VRet h37 (Value.tuple (List.toArray [(Value.agg (List.toArray [(Value.slice x38.a x38.len x38.cap), (Value.slice x39.a x39.len x39.cap), (Value.slice x40.a x40.len x40.cap), (Value.slice x41.a x41.len x41.cap), (Value.slice x42.a x42.len x42.cap), (Value.slice x43.a x43.len x43.cap), (Value.slice x44.a x44.len x44.cap), (Value.slice x45.a x45.len x45.cap)])), (Value.bool false), (Value.slice none 0 0), (Value.int .i64 (7 : Int))])) post) (
 VIf (x28 == (1 : Int)) (
 ∃ x46 : SV, H.rd h7 (Addr.add (Addr.add (Addr.mk r1 0 none) 4) 0) (Value.slice x46.a x46.len x46.cap) ∧
 ∃ x47 : SV, H.rd h7 (Addr.add (Addr.add (Addr.mk r1 0 none) 4) 0) (Value.slice x47.a x47.len x47.cap) ∧
 ∃ b48 : Addr, x47.a = some b48 ∧ 0 ≤ p1_p ∧ p1_p < ((x47.len : Nat) : Int) ∧
 ∃ x49 : SV, H.rd h7 (Addr.add (Addr.add b48 ((p1_p).toNat * 1)) 0) (Value.slice x49.a x49.len x49.cap) ∧
 ∃ x50 : SV, H.rd h7 (Addr.add (Addr.add (Addr.mk r1 0 none) 0) 0) (Value.slice x50.a x50.len x50.cap) ∧
 ∃ x51 : SV, H.rd h7 (Addr.add (Addr.add (Addr.mk r1 0 none) 4) 0) (Value.slice x51.a x51.len x51.cap) ∧
 ∃ b52 : Addr, x51.a = some b52 ∧ 0 ≤ p1_p ∧ p1_p < ((x51.len : Nat) : Int) ∧
 ∃ x53 : SV, H.rd h7 (Addr.add (Addr.add b52 ((p1_p).toNat * 1)) 0) (Value.slice x53.a x53.len x53.cap) ∧
 ∃ b54 : Addr, x50.a = some b54 ∧ 0 ≤ ((x53.len : Nat) : Int) ∧ ((x53.len : Nat) : Int) < ((x50.len : Nat) : Int) ∧
 ∃ x55 : Int, H.rd h7 (Addr.add (Addr.add b54 ((((x53.len : Nat) : Int)).toNat * 3)) 0) (Value.int .i64 x55) ∧
 ∃ x56 : Int, H.rd h7 (Addr.add (Addr.add b54 ((((x53.len : Nat) : Int)).toNat * 3)) 1) (Value.int .i64 x56) ∧
 ∃ x57 : SV, H.rd h7 (Addr.add (Addr.add b54 ((((x53.len : Nat) : Int)).toNat * 3)) 2) (Value.slice x57.a x57.len x57.cap) ∧
 SemCall Go.Proofs.Tryd.prog 47 (List.toArray [(Value.slice x49.a x49.len x49.cap), (Value.agg (List.toArray [(Value.int .i64 x55), (Value.int .i64 x56), (Value.slice x57.a x57.len x57.cap)]))]) h7 fun v58 h59 => OwnExt h7 h59 ∧
 ∃ x60 : SV, v58 = (Value.slice x60.a x60.len x60.cap) ∧
 SemCall Go.Proofs.Tryd.prog 44 (List.toArray [(Value.slice x46.a x46.len x46.cap), (Value.int .i64 p1_p), (Value.slice x60.a x60.len x60.cap)]) h59 fun v61 h62 =>
 ∃ x63 : SV, v61 = (Value.slice x63.a x63.len x63.cap) ∧
 H.wr h62 (Addr.add (Addr.mk r1 0 none) 4) ([(Value.slice x63.a x63.len x63.cap)]) fun h64 =>
 ∃ x65 : SV, H.rd h64 (Addr.add (Addr.add (Addr.mk r1 0 none) 4) 0) (Value.slice x65.a x65.len x65.cap) ∧
 ∃ b66 : Addr, x65.a = some b66 ∧ 0 ≤ p1_p ∧ p1_p < ((x65.len : Nat) : Int) ∧
 ∃ x67 : SV, H.rd h64 (Addr.add (Addr.add b66 ((p1_p).toNat * 1)) 0) (Value.slice x67.a x67.len x67.cap) ∧
 ∃ R68 : H → Prop, (
 VIf (((x67.len : Nat) : Int) == ((x5.len : Nat) : Int)) (
 ∃ x69 : SV, H.rd h64 (Addr.add (Addr.add (Addr.mk r1 0 none) 1) 0) (Value.slice x69.a x69.len x69.cap) ∧
 SemCall Go.Proofs.Tryd.prog 37 (List.toArray [(Value.slice x69.a x69.len x69.cap), (Value.int .i64 p1_p), (Value.int .i64 (2 : Int))]) h64 fun v70 h71 =>
 ∃ x72 : SV, v70 = (Value.slice x72.a x72.len x72.cap) ∧
 H.wr h71 (Addr.add (Addr.mk r1 0 none) 1) ([(Value.slice x72.a x72.len x72.cap)]) fun h73 =>
 (∃ h74, Gh h73 h74 ∧ R68 h74)) (
 (∃ h75, Gh h64 h75 ∧ R68 h75))) ∧
 ∀ (_ : F) (h76 : H), R68 h76 →
 f31_J1 post r1 r3 h76) (
 VIf (x28 == (3 : Int)) (
 ∃ x94 : SV, H.rd h7 (Addr.add (Addr.add (Addr.mk r1 0 none) 0) 0) (Value.slice x94.a x94.len x94.cap) ∧
 appVC Go.Proofs.Tryd.prog 65 (Value.slice none 0 0) (Value.slice x94.a x94.len x94.cap) h7 fun x95 h96 =>
 ∃ x97 : SV, H.rd h96 (Addr.add (Addr.add (Addr.mk r1 0 none) 2) 0) (Value.slice x97.a x97.len x97.cap) ∧
 ∃ b98 : Addr, x97.a = some b98 ∧ 0 ≤ p1_p ∧ p1_p < ((x97.len : Nat) : Int) ∧
 ∃ x99 : Int, H.rd h96 (Addr.add (Addr.add b98 ((p1_p).toNat * 1)) 0) (Value.int .i64 x99) ∧
 ∃ x100 : SV, H.rd h96 (Addr.add (Addr.add (Addr.mk r1 0 none) 0) 0) (Value.slice x100.a x100.len x100.cap) ∧
 ∃ b101 : Addr, x100.a = some b101 ∧ 0 ≤ p1_p ∧ p1_p < ((x100.len : Nat) : Int) ∧
 ∃ x102 : Int, H.rd h96 (Addr.add (Addr.add (Addr.add b101 ((p1_p).toNat * 3)) 1) 0) (Value.int .i64 x102) ∧
 In64 (x102 + (1 : Int)) ∧
 ∃ x103 : SV, H.rd h96 (Addr.add (Addr.add (Addr.mk r1 0 none) 7) 0) (Value.slice x103.a x103.len x103.cap) ∧
 ∃ b104 : Addr, x103.a = some b104 ∧ 0 ≤ p1_p ∧ p1_p < ((x103.len : Nat) : Int) ∧
 ∃ x105 : SV, H.rd h96 (Addr.add (Addr.add b104 ((p1_p).toNat * 1)) 0) (Value.slice x105.a x105.len x105.cap) ∧
 ∃ b106 : Addr, x95.a = some b106 ∧ 0 ≤ p1_p ∧ p1_p < ((x95.len : Nat) : Int) ∧
 ([(Value.int .i64 x99), (Value.int .i64 (x102 + (1 : Int))), (Value.slice x105.a x105.len x105.cap)]).length = 3 ∧ (Program.underlying Go.Proofs.Tryd.prog 78).isSome = true ∧
 H.wr h96 (Addr.add b106 ((p1_p).toNat * 3)) ([(Value.int .i64 x99), (Value.int .i64 (x102 + (1 : Int))), (Value.slice x105.a x105.len x105.cap)]) fun h107 =>
 H.wr h107 (Addr.add (Addr.mk r1 0 none) 0) ([(Value.slice x95.a x95.len x95.cap)]) fun h108 =>
 ∃ x109 : SV, H.rd h108 (Addr.add (Addr.add (Addr.mk r1 0 none) 1) 0) (Value.slice x109.a x109.len x109.cap) ∧
 SemCall Go.Proofs.Tryd.prog 37 (List.toArray [(Value.slice x109.a x109.len x109.cap), (Value.int .i64 p1_p), (Value.int .i64 0)]) h108 fun v110 h111 =>
 ∃ x112 : SV, v110 = (Value.slice x112.a x112.len x112.cap) ∧
 H.wr h111 (Addr.add (Addr.mk r1 0 none) 1) ([(Value.slice x112.a x112.len x112.cap)]) fun h113 =>
 ∃ x114 : SV, H.rd h113 (Addr.add (Addr.mk r1 0 none) 0) (Value.slice x114.a x114.len x114.cap) ∧
 ∃ x115 : SV, H.rd h113 (Addr.add (Addr.mk r1 0 none) 1) (Value.slice x115.a x115.len x115.cap) ∧
 ∃ x116 : SV, H.rd h113 (Addr.add (Addr.mk r1 0 none) 2) (Value.slice x116.a x116.len x116.cap) ∧
 ∃ x117 : SV, H.rd h113 (Addr.add (Addr.mk r1 0 none) 3) (Value.slice x117.a x117.len x117.cap) ∧
 ∃ x118 : SV, H.rd h113 (Addr.add (Addr.mk r1 0 none) 4) (Value.slice x118.a x118.len x118.cap) ∧
 ∃ x119 : SV, H.rd h113 (Addr.add (Addr.mk r1 0 none) 5) (Value.slice x119.a x119.len x119.cap) ∧
 ∃ x120 : SV, H.rd h113 (Addr.add (Addr.mk r1 0 none) 6) (Value.slice x120.a x120.len x120.cap) ∧
 ∃ x121 : SV, H.rd h113 (Addr.add (Addr.mk r1 0 none) 7) (Value.slice x121.a x121.len x121.cap) ∧
 ([(Value.slice x114.a x114.len x114.cap), (Value.slice x115.a x115.len x115.cap), (Value.slice x116.a x116.len x116.cap), (Value.slice x117.a x117.len x117.cap), (Value.slice x118.a x118.len x118.cap), (Value.slice x119.a x119.len x119.cap), (Value.slice x120.a x120.len x120.cap), (Value.slice x121.a x121.len x121.cap)]).length = 8 ∧ (Program.underlying Go.Proofs.Tryd.prog 69).isSome = true ∧
 H.wr h113 (Addr.mk r3 0 none) ([(Value.slice x114.a x114.len x114.cap), (Value.slice x115.a x115.len x115.cap), (Value.slice x116.a x116.len x116.cap), (Value.slice x117.a x117.len x117.cap), (Value.slice x118.a x118.len x118.cap), (Value.slice x119.a x119.len x119.cap), (Value.slice x120.a x120.len x120.cap), (Value.slice x121.a x121.len x121.cap)]) fun h122 =>
 ∃ x123 : SV, H.rd h122 (Addr.add (Addr.mk r3 0 none) 0) (Value.slice x123.a x123.len x123.cap) ∧
 ∃ x124 : SV, H.rd h122 (Addr.add (Addr.mk r3 0 none) 1) (Value.slice x124.a x124.len x124.cap) ∧
 ∃ x125 : SV, H.rd h122 (Addr.add (Addr.mk r3 0 none) 2) (Value.slice x125.a x125.len x125.cap) ∧
 ∃ x126 : SV, H.rd h122 (Addr.add (Addr.mk r3 0 none) 3) (Value.slice x126.a x126.len x126.cap) ∧
 ∃ x127 : SV, H.rd h122 (Addr.add (Addr.mk r3 0 none) 4) (Value.slice x127.a x127.len x127.cap) ∧
 ∃ x128 : SV, H.rd h122 (Addr.add (Addr.mk r3 0 none) 5) (Value.slice x128.a x128.len x128.cap) ∧
 ∃ x129 : SV, H.rd h122 (Addr.add (Addr.mk r3 0 none) 6) (Value.slice x129.a x129.len x129.cap) ∧
 ∃ x130 : SV, H.rd h122 (Addr.add (Addr.mk r3 0 none) 7) (Value.slice x130.a x130.len x130.cap) ∧
 VRet h122 (Value.tuple (List.toArray [(Value.agg (List.toArray [(Value.slice x123.a x123.len x123.cap), (Value.slice x124.a x124.len x124.cap), (Value.slice x125.a x125.len x125.cap), (Value.slice x126.a x126.len x126.cap), (Value.slice x127.a x127.len x127.cap), (Value.slice x128.a x128.len x128.cap), (Value.slice x129.a x129.len x129.cap), (Value.slice x130.a x130.len x130.cap)])), (Value.bool true), (Value.slice none 0 0), (Value.int .i64 0)])) post) (
 ∃ x131 : SV, H.rd h7 (Addr.add (Addr.add (Addr.mk r1 0 none) 5) 0) (Value.slice x131.a x131.len x131.cap) ∧
 ∃ x132 : SV, H.rd h7 (Addr.add (Addr.add (Addr.mk r1 0 none) 5) 0) (Value.slice x132.a x132.len x132.cap) ∧
 ∃ b133 : Addr, x132.a = some b133 ∧ 0 ≤ p1_p ∧ p1_p < ((x132.len : Nat) : Int) ∧
 ∃ x134 : SV, H.rd h7 (Addr.add (Addr.add b133 ((p1_p).toNat * 1)) 0) (Value.slice x134.a x134.len x134.cap) ∧
 ∃ x135 : SV, H.rd h7 (Addr.add (Addr.add (Addr.mk r1 0 none) 0) 0) (Value.slice x135.a x135.len x135.cap) ∧
 ∃ x136 : SV, H.rd h7 (Addr.add (Addr.add (Addr.mk r1 0 none) 5) 0) (Value.slice x136.a x136.len x136.cap) ∧
 ∃ b137 : Addr, x136.a = some b137 ∧ 0 ≤ p1_p ∧ p1_p < ((x136.len : Nat) : Int) ∧
 ∃ x138 : SV, H.rd h7 (Addr.add (Addr.add b137 ((p1_p).toNat * 1)) 0) (Value.slice x138.a x138.len x138.cap) ∧
 ∃ b139 : Addr, x135.a = some b139 ∧ 0 ≤ ((x138.len : Nat) : Int) ∧ ((x138.len : Nat) : Int) < ((x135.len : Nat) : Int) ∧
 ∃ x140 : Int, H.rd h7 (Addr.add (Addr.add b139 ((((x138.len : Nat) : Int)).toNat * 3)) 0) (Value.int .i64 x140) ∧
 ∃ x141 : Int, H.rd h7 (Addr.add (Addr.add b139 ((((x138.len : Nat) : Int)).toNat * 3)) 1) (Value.int .i64 x141) ∧
 ∃ x142 : SV, H.rd h7 (Addr.add (Addr.add b139 ((((x138.len : Nat) : Int)).toNat * 3)) 2) (Value.slice x142.a x142.len x142.cap) ∧
 SemCall Go.Proofs.Tryd.prog 47 (List.toArray [(Value.slice x134.a x134.len x134.cap), (Value.agg (List.toArray [(Value.int .i64 x140), (Value.int .i64 x141), (Value.slice x142.a x142.len x142.cap)]))]) h7 fun v143 h144 => OwnExt h7 h144 ∧
 ∃ x145 : SV, v143 = (Value.slice x145.a x145.len x145.cap) ∧
 SemCall Go.Proofs.Tryd.prog 44 (List.toArray [(Value.slice x131.a x131.len x131.cap), (Value.int .i64 p1_p), (Value.slice x145.a x145.len x145.cap)]) h144 fun v146 h147 =>
 ∃ x148 : SV, v146 = (Value.slice x148.a x148.len x148.cap) ∧
 H.wr h147 (Addr.add (Addr.mk r1 0 none) 5) ([(Value.slice x148.a x148.len x148.cap)]) fun h149 =>
 ∃ x150 : SV, H.rd h149 (Addr.add (Addr.add (Addr.mk r1 0 none) 5) 0) (Value.slice x150.a x150.len x150.cap) ∧
 ∃ b151 : Addr, x150.a = some b151 ∧ 0 ≤ p1_p ∧ p1_p < ((x150.len : Nat) : Int) ∧
 ∃ x152 : SV, H.rd h149 (Addr.add (Addr.add b151 ((p1_p).toNat * 1)) 0) (Value.slice x152.a x152.len x152.cap) ∧
 VIf (decide (((x152.len : Nat) : Int) < ((x5.len : Nat) : Int))) (
 ∃ x153 : SV, H.rd h149 (Addr.add (Addr.mk r1 0 none) 0) (Value.slice x153.a x153.len x153.cap) ∧
 ∃ x154 : SV, H.rd h149 (Addr.add (Addr.mk r1 0 none) 1) (Value.slice x154.a x154.len x154.cap) ∧
 ∃ x155 : SV, H.rd h149 (Addr.add (Addr.mk r1 0 none) 2) (Value.slice x155.a x155.len x155.cap) ∧
 ∃ x156 : SV, H.rd h149 (Addr.add (Addr.mk r1 0 none) 3) (Value.slice x156.a x156.len x156.cap) ∧
 ∃ x157 : SV, H.rd h149 (Addr.add (Addr.mk r1 0 none) 4) (Value.slice x157.a x157.len x157.cap) ∧
 ∃ x158 : SV, H.rd h149 (Addr.add (Addr.mk r1 0 none) 5) (Value.slice x158.a x158.len x158.cap) ∧
 ∃ x159 : SV, H.rd h149 (Addr.add (Addr.mk r1 0 none) 6) (Value.slice x159.a x159.len x159.cap) ∧
 ∃ x160 : SV, H.rd h149 (Addr.add (Addr.mk r1 0 none) 7) (Value.slice x160.a x160.len x160.cap) ∧
 ([(Value.slice x153.a x153.len x153.cap), (Value.slice x154.a x154.len x154.cap), (Value.slice x155.a x155.len x155.cap), (Value.slice x156.a x156.len x156.cap), (Value.slice x157.a x157.len x157.cap), (Value.slice x158.a x158.len x158.cap), (Value.slice x159.a x159.len x159.cap), (Value.slice x160.a x160.len x160.cap)]).length = 8 ∧ (Program.underlying Go.Proofs.Tryd.prog 69).isSome = true ∧
 H.wr h149 (Addr.mk r3 0 none) ([(Value.slice x153.a x153.len x153.cap), (Value.slice x154.a x154.len x154.cap), (Value.slice x155.a x155.len x155.cap), (Value.slice x156.a x156.len x156.cap), (Value.slice x157.a x157.len x157.cap), (Value.slice x158.a x158.len x158.cap), (Value.slice x159.a x159.len x159.cap), (Value.slice x160.a x160.len x160.cap)]) fun h161 =>
 ∃ x162 : SV, H.rd h161 (Addr.add (Addr.mk r3 0 none) 0) (Value.slice x162.a x162.len x162.cap) ∧
 ∃ x163 : SV, H.rd h161 (Addr.add (Addr.mk r3 0 none) 1) (Value.slice x163.a x163.len x163.cap) ∧
 ∃ x164 : SV, H.rd h161 (Addr.add (Addr.mk r3 0 none) 2) (Value.slice x164.a x164.len x164.cap) ∧
 ∃ x165 : SV, H.rd h161 (Addr.add (Addr.mk r3 0 none) 3) (Value.slice x165.a x165.len x165.cap) ∧
 ∃ x166 : SV, H.rd h161 (Addr.add (Addr.mk r3 0 none) 4) (Value.slice x166.a x166.len x166.cap) ∧
 ∃ x167 : SV, H.rd h161 (Addr.add (Addr.mk r3 0 none) 5) (Value.slice x167.a x167.len x167.cap) ∧
 ∃ x168 : SV, H.rd h161 (Addr.add (Addr.mk r3 0 none) 6) (Value.slice x168.a x168.len x168.cap) ∧
 ∃ x169 : SV, H.rd h161 (Addr.add (Addr.mk r3 0 none) 7) (Value.slice x169.a x169.len x169.cap) ∧
 VRet h161 (Value.tuple (List.toArray [(Value.agg (List.toArray [(Value.slice x162.a x162.len x162.cap), (Value.slice x163.a x163.len x163.cap), (Value.slice x164.a x164.len x164.cap), (Value.slice x165.a x165.len x165.cap), (Value.slice x166.a x166.len x166.cap), (Value.slice x167.a x167.len x167.cap), (Value.slice x168.a x168.len x168.cap), (Value.slice x169.a x169.len x169.cap)])), (Value.bool false), (Value.slice none 0 0), (Value.int .i64 0)])) post) (
 ∃ R170 : Int → Bool → H → Prop, (
 ∃ I171 : Nat → Int → Bool → Int → H → Prop, (∃ n172, (∃ h174, Gh h149 h174 ∧ I171 n172 (-1 : Int) true (0 : Int) h174)) ∧
 ∀ (n172 : Nat) (_ : F) (x175_helped : Int) (x176_same : Bool) (x177_q : Int) (h178 : H), I171 n172 x175_helped x176_same x177_q h178 →
 f31_L2 p1_p r1 x5 R170 I171 n172 x175_helped x176_same x177_q h178) ∧
 ∀ (_ : F) (x219_helped : Int) (x220_same : Bool) (h221 : H), R170 x219_helped x220_same h221 →
 f31_J5 p1_p post r1 r3 x5 x219_helped x220_same h221)))))

def f31_hint : Hint := (.node .leaf (.node .leaf (.node .leaf (.node (.node .leaf (.node (.node .leaf (.node .leaf (.node .leaf (.node (.node .lex (.node (.node .leaf (.join [] .leaf)) .leaf)) (.node .leaf (.node (.node .leaf (.node .leaf (.node (.tail 21) .leaf))) .leaf)))))) .leaf)) (.node .lex (.node .leaf (.node .leaf (.node .leaf (.node .leaf (.node (.node .leaf (.join [(11, .int), (12, .bool)] (.node (.loop [(11, .int), (12, .bool), (13, .int)] (.node .leaf (.node (.node (.node .leaf (.node .leaf (.node .lex (.node (.join [(191, .bool)] .leaf) .leaf)))) .leaf) .leaf))) .leaf))) (.node (.node .leaf (.join [(10, .sl)] (.node .leaf (.node .leaf (.node (.node .leaf (.join [(10, .sl)] (.node (.loop [(10, .sl), (14, .int)] .leaf) .leaf))) (.node (.tail 8) .leaf)))))) .leaf)))))))))))

theorem f31_eq (p0_0_b : SV) (p0_1_b : SV) (p0_2_b : SV) (p0_3_b : SV) (p0_4_b : SV) (p0_5_b : SV) (p0_6_b : SV) (p0_7_b : SV) (p1_p : Int) (h0 : H) (post : Value → H → Prop) : exec Tryd.prog (bodyOf Tryd.f31) f31_hint (retQ Tryd.prog Tryd.f31 post) (F0 [(Value.agg (List.toArray [(Value.slice p0_0_b.a p0_0_b.len p0_0_b.cap), (Value.slice p0_1_b.a p0_1_b.len p0_1_b.cap), (Value.slice p0_2_b.a p0_2_b.len p0_2_b.cap), (Value.slice p0_3_b.a p0_3_b.len p0_3_b.cap), (Value.slice p0_4_b.a p0_4_b.len p0_4_b.cap), (Value.slice p0_5_b.a p0_5_b.len p0_5_b.cap), (Value.slice p0_6_b.a p0_6_b.len p0_6_b.cap), (Value.slice p0_7_b.a p0_7_b.len p0_7_b.cap)])), (Value.int .i64 p1_p)]) h0 = f31_sem p0_0_b p0_1_b p0_2_b p0_3_b p0_4_b p0_5_b p0_6_b p0_7_b p1_p h0 post := by kernel_rfl

set_option maxRecDepth 20000 in
theorem f31_call (p0_0_b : SV) (p0_1_b : SV) (p0_2_b : SV) (p0_3_b : SV) (p0_4_b : SV) (p0_5_b : SV) (p0_6_b : SV) (p0_7_b : SV) (p1_p : Int) (h0 : H) (post : Value → H → Prop) (hx : f31_sem p0_0_b p0_1_b p0_2_b p0_3_b p0_4_b p0_5_b p0_6_b p0_7_b p1_p h0 post) : SemCall Tryd.prog 31 (List.toArray [(Value.agg (List.toArray [(Value.slice p0_0_b.a p0_0_b.len p0_0_b.cap), (Value.slice p0_1_b.a p0_1_b.len p0_1_b.cap), (Value.slice p0_2_b.a p0_2_b.len p0_2_b.cap), (Value.slice p0_3_b.a p0_3_b.len p0_3_b.cap), (Value.slice p0_4_b.a p0_4_b.len p0_4_b.cap), (Value.slice p0_5_b.a p0_5_b.len p0_5_b.cap), (Value.slice p0_6_b.a p0_6_b.len p0_6_b.cap), (Value.slice p0_7_b.a p0_7_b.len p0_7_b.cap)])), (Value.int .i64 p1_p)]) h0 post :=
 sem_of_exec (g := f31_hint) mixed Tryd.func31 (bodyOf_eq (by kernel_rfl)) (by kernel_rfl) ((f31_eq p0_0_b p0_1_b p0_2_b p0_3_b p0_4_b p0_5_b p0_6_b p0_7_b p1_p h0 post).mpr hx)

/- (*latchgarth/snap.Board).Step -/
def f32_J1 (p0_b : Option Addr) (p1_p : Int) (post : Value → H → Prop) (b8 : Addr) (h134 : H) : Prop :=
 ∃ a135 : Addr, (some (Addr.add b8 ((p1_p).toNat * 7))) = some a135 ∧
 ∃ x136 : Int, H.rd h134 (Addr.add (Addr.add a135 1) 0) (Value.int .i64 x136) ∧
 In64 (x136 + (1 : Int)) ∧
 ∃ a137 : Addr, (some (Addr.add b8 ((p1_p).toNat * 7))) = some a137 ∧
 H.wr h134 (Addr.add a137 1) ([(Value.int .i64 (x136 + (1 : Int)))]) fun h138 =>
 ∃ a139 : Addr, (some (Addr.add b8 ((p1_p).toNat * 7))) = some a139 ∧
 ∃ x140 : Int, H.rd h138 (Addr.add (Addr.add a139 1) 0) (Value.int .i64 x140) ∧
 ∃ a141 : Addr, p0_b = some a141 ∧
 ∃ x142 : SV, H.rd h138 (Addr.add (Addr.add a141 0) 0) (Value.slice x142.a x142.len x142.cap) ∧
 VIf (x140 == ((x142.len : Nat) : Int)) (
 ∃ a143 : Addr, (some (Addr.add b8 ((p1_p).toNat * 7))) = some a143 ∧
 H.wr h138 (Addr.add a143 0) ([(Value.int .i64 (2 : Int))]) fun h144 =>
 ∃ a145 : Addr, (some (Addr.add b8 ((p1_p).toNat * 7))) = some a145 ∧
 H.wr h144 (Addr.add a145 1) ([(Value.int .i64 0)]) fun h146 =>
 VRet h146 (Value.tuple (List.toArray [(Value.bool false), (Value.slice none 0 0), Value.nilIface])) post) (
 VRet h138 (Value.tuple (List.toArray [(Value.bool false), (Value.slice none 0 0), Value.nilIface])) post)

def f32_J2 (p0_b : Option Addr) (p1_p : Int) (post : Value → H → Prop) (b8 : Addr) (h270 : H) : Prop :=
 ∃ a271 : Addr, (some (Addr.add b8 ((p1_p).toNat * 7))) = some a271 ∧
 ∃ x272 : Int, H.rd h270 (Addr.add (Addr.add a271 1) 0) (Value.int .i64 x272) ∧
 In64 (x272 + (1 : Int)) ∧
 ∃ a273 : Addr, (some (Addr.add b8 ((p1_p).toNat * 7))) = some a273 ∧
 H.wr h270 (Addr.add a273 1) ([(Value.int .i64 (x272 + (1 : Int)))]) fun h274 =>
 ∃ a275 : Addr, (some (Addr.add b8 ((p1_p).toNat * 7))) = some a275 ∧
 ∃ x276 : Int, H.rd h274 (Addr.add (Addr.add a275 1) 0) (Value.int .i64 x276) ∧
 ∃ a277 : Addr, p0_b = some a277 ∧
 ∃ x278 : SV, H.rd h274 (Addr.add (Addr.add a277 0) 0) (Value.slice x278.a x278.len x278.cap) ∧
 VIf (x276 == ((x278.len : Nat) : Int)) (
 ∃ a279 : Addr, (some (Addr.add b8 ((p1_p).toNat * 7))) = some a279 ∧
 H.wr h274 (Addr.add a279 1) ([(Value.int .i64 0)]) fun h280 =>
 SemCall Go.Proofs.Tryd.prog 48 (List.toArray [(Value.pointer (some (Addr.add b8 ((p1_p).toNat * 7))))]) h280 fun v281 h282 =>
 ∃ x283 : SV, ∃ x284 : Bool, v281 = (Value.tuple (List.toArray [(Value.slice x283.a x283.len x283.cap), (Value.bool x284)])) ∧
 VIf x284 (
 SemCall Go.Proofs.Tryd.prog 49 (List.toArray [(Value.pointer p0_b), (Value.int .i64 p1_p), (Value.slice x283.a x283.len x283.cap)]) h282 fun v285 h286 =>
 ∃ x287 : Bool, ∃ x288 : SV, ∃ x289 : Option (TypeId × Value), v285 = (Value.tuple (List.toArray [(Value.bool x287), (Value.slice x288.a x288.len x288.cap), (errV x289)])) ∧
 VRet h286 (Value.tuple (List.toArray [(Value.bool x287), (Value.slice x288.a x288.len x288.cap), (errV x289)])) post) (
 ∃ a290 : Addr, (some (Addr.add b8 ((p1_p).toNat * 7))) = some a290 ∧
 ∃ x291 : SV, H.rd h282 (Addr.add (Addr.add a290 5) 0) (Value.slice x291.a x291.len x291.cap) ∧
 ∃ a292 : Addr, (some (Addr.add b8 ((p1_p).toNat * 7))) = some a292 ∧
 H.wr h282 (Addr.add a292 4) ([(Value.slice x291.a x291.len x291.cap)]) fun h293 =>
 ∃ a294 : Addr, (some (Addr.add b8 ((p1_p).toNat * 7))) = some a294 ∧
 H.wr h293 (Addr.add a294 5) ([(Value.slice none 0 0)]) fun h295 =>
 VRet h295 (Value.tuple (List.toArray [(Value.bool false), (Value.slice none 0 0), Value.nilIface])) post)) (
 VRet h274 (Value.tuple (List.toArray [(Value.bool false), (Value.slice none 0 0), Value.nilIface])) post)

def f32_sem (p0_b : Option Addr) (p1_p : Int) (h0 : H) (post : Value → H → Prop) : Prop :=
 ∃ a1 : Addr, p0_b = some a1 ∧
 ∃ x2 : SV, H.rd h0 (Addr.add (Addr.add a1 1) 0) (Value.slice x2.a x2.len x2.cap) ∧
 In64 (((x2.len : Nat) : Int) - (1 : Int)) ∧
 SemCall Go.Proofs.Tryd.prog 35 (List.toArray [(Value.int .i64 p1_p), (Value.int .i64 0), (Value.int .i64 (((x2.len : Nat) : Int) - (1 : Int)))]) h0 fun v3 h4 =>
 ∃ x5 : Bool, v3 = (Value.bool x5) ∧
 VIf (!x5) (
 VRet h4 (Value.tuple (List.toArray [(Value.bool false), (Value.slice none 0 0), (Value.iface 79 (Value.int .i64 (1 : Int)))])) post) (
 ∃ a6 : Addr, p0_b = some a6 ∧
 ∃ x7 : SV, H.rd h4 (Addr.add (Addr.add a6 1) 0) (Value.slice x7.a x7.len x7.cap) ∧
 ∃ b8 : Addr, x7.a = some b8 ∧ 0 ≤ p1_p ∧ p1_p < ((x7.len : Nat) : Int) ∧
 ∃ a9 : Addr, (some (Addr.add b8 ((p1_p).toNat * 7))) = some a9 ∧
 ∃ x10 : Int, H.rd h4 (Addr.add (Addr.add a9 0) 0) (Value.int .i64 x10) ∧
 VIf (x10 == (0 : Int)) (
 VRet h4 (Value.tuple (List.toArray [(Value.bool false), (Value.slice none 0 0), (Value.iface 79 (Value.int .i64 (7 : Int)))])) post) (
 VIf (x10 == (1 : Int)) (
 ∃ R11 : H → Prop, (
 ∃ a12 : Addr, (some (Addr.add b8 ((p1_p).toNat * 7))) = some a12 ∧
 ∃ a13 : Addr, p0_b = some a13 ∧
 ∃ a14 : Addr, (some (Addr.add b8 ((p1_p).toNat * 7))) = some a14 ∧
 (
 ∃ x15 : SV, H.rd h4 (Addr.add (Addr.add a12 4) 0) (Value.slice x15.a x15.len x15.cap) ∧
 (
 ∃ x16 : SV, H.rd h4 (Addr.add (Addr.add a13 0) 0) (Value.slice x16.a x16.len x16.cap) ∧
 ∃ x17 : Int, H.rd h4 (Addr.add (Addr.add a14 1) 0) (Value.int .i64 x17) ∧
 ∃ b18 : Addr, x16.a = some b18 ∧ 0 ≤ x17 ∧ x17 < ((x16.len : Nat) : Int) ∧
 ∃ x19 : Int, H.rd h4 (Addr.add (Addr.add b18 ((x17).toNat * 3)) 0) (Value.int .i64 x19) ∧
 ∃ x20 : Int, H.rd h4 (Addr.add (Addr.add b18 ((x17).toNat * 3)) 1) (Value.int .i64 x20) ∧
 ∃ x21 : SV, H.rd h4 (Addr.add (Addr.add b18 ((x17).toNat * 3)) 2) (Value.slice x21.a x21.len x21.cap) ∧
 H.new h4 [(Value.int .i64 x19), (Value.int .i64 x20), (Value.slice x21.a x21.len x21.cap)] fun r22 h23 =>
 appVC Go.Proofs.Tryd.prog 100 (Value.slice x15.a x15.len x15.cap) (Value.slice (some (Addr.mk r22 0 none)) 1 1) h23 fun x24 h25 =>
 ∃ a26 : Addr, (some (Addr.add b8 ((p1_p).toNat * 7))) = some a26 ∧
 H.wr h25 (Addr.add a26 4) ([(Value.slice x24.a x24.len x24.cap)]) fun h27 =>
 (∃ h28, Gh h27 h28 ∧ R11 h28)) ∧
 (
 ∃ x29 : Int, H.rd h4 (Addr.add (Addr.add a14 1) 0) (Value.int .i64 x29) ∧
 ∃ x30 : SV, H.rd h4 (Addr.add (Addr.add a13 0) 0) (Value.slice x30.a x30.len x30.cap) ∧
 ∃ b31 : Addr, x30.a = some b31 ∧ 0 ≤ x29 ∧ x29 < ((x30.len : Nat) : Int) ∧
 ∃ x32 : Int, H.rd h4 (Addr.add (Addr.add b31 ((x29).toNat * 3)) 0) (Value.int .i64 x32) ∧
 ∃ x33 : Int, H.rd h4 (Addr.add (Addr.add b31 ((x29).toNat * 3)) 1) (Value.int .i64 x33) ∧
 ∃ x34 : SV, H.rd h4 (Addr.add (Addr.add b31 ((x29).toNat * 3)) 2) (Value.slice x34.a x34.len x34.cap) ∧
 H.new h4 [(Value.int .i64 x32), (Value.int .i64 x33), (Value.slice x34.a x34.len x34.cap)] fun r35 h36 =>
 appVC Go.Proofs.Tryd.prog 100 (Value.slice x15.a x15.len x15.cap) (Value.slice (some (Addr.mk r35 0 none)) 1 1) h36 fun x37 h38 =>
 ∃ a39 : Addr, (some (Addr.add b8 ((p1_p).toNat * 7))) = some a39 ∧
 H.wr h38 (Addr.add a39 4) ([(Value.slice x37.a x37.len x37.cap)]) fun h40 =>
 (∃ h41, Gh h40 h41 ∧ R11 h41))) ∧
 (
 (
 ∃ x42 : SV, H.rd h4 (Addr.add (Addr.add a13 0) 0) (Value.slice x42.a x42.len x42.cap) ∧
 (
 ∃ x43 : SV, H.rd h4 (Addr.add (Addr.add a12 4) 0) (Value.slice x43.a x43.len x43.cap) ∧
 ∃ x44 : Int, H.rd h4 (Addr.add (Addr.add a14 1) 0) (Value.int .i64 x44) ∧
 ∃ b45 : Addr, x42.a = some b45 ∧ 0 ≤ x44 ∧ x44 < ((x42.len : Nat) : Int) ∧
 ∃ x46 : Int, H.rd h4 (Addr.add (Addr.add b45 ((x44).toNat * 3)) 0) (Value.int .i64 x46) ∧
 ∃ x47 : Int, H.rd h4 (Addr.add (Addr.add b45 ((x44).toNat * 3)) 1) (Value.int .i64 x47) ∧
 ∃ x48 : SV, H.rd h4 (Addr.add (Addr.add b45 ((x44).toNat * 3)) 2) (Value.slice x48.a x48.len x48.cap) ∧
 H.new h4 [(Value.int .i64 x46), (Value.int .i64 x47), (Value.slice x48.a x48.len x48.cap)] fun r49 h50 =>
 appVC Go.Proofs.Tryd.prog 100 (Value.slice x43.a x43.len x43.cap) (Value.slice (some (Addr.mk r49 0 none)) 1 1) h50 fun x51 h52 =>
 ∃ a53 : Addr, (some (Addr.add b8 ((p1_p).toNat * 7))) = some a53 ∧
 H.wr h52 (Addr.add a53 4) ([(Value.slice x51.a x51.len x51.cap)]) fun h54 =>
 (∃ h55, Gh h54 h55 ∧ R11 h55)) ∧
 (
 ∃ x56 : Int, H.rd h4 (Addr.add (Addr.add a14 1) 0) (Value.int .i64 x56) ∧
 ∃ b57 : Addr, x42.a = some b57 ∧ 0 ≤ x56 ∧ x56 < ((x42.len : Nat) : Int) ∧
 (
 ∃ x58 : SV, H.rd h4 (Addr.add (Addr.add a12 4) 0) (Value.slice x58.a x58.len x58.cap) ∧
 ∃ x59 : Int, H.rd h4 (Addr.add (Addr.add b57 ((x56).toNat * 3)) 0) (Value.int .i64 x59) ∧
 ∃ x60 : Int, H.rd h4 (Addr.add (Addr.add b57 ((x56).toNat * 3)) 1) (Value.int .i64 x60) ∧
 ∃ x61 : SV, H.rd h4 (Addr.add (Addr.add b57 ((x56).toNat * 3)) 2) (Value.slice x61.a x61.len x61.cap) ∧
 H.new h4 [(Value.int .i64 x59), (Value.int .i64 x60), (Value.slice x61.a x61.len x61.cap)] fun r62 h63 =>
 appVC Go.Proofs.Tryd.prog 100 (Value.slice x58.a x58.len x58.cap) (Value.slice (some (Addr.mk r62 0 none)) 1 1) h63 fun x64 h65 =>
 ∃ a66 : Addr, (some (Addr.add b8 ((p1_p).toNat * 7))) = some a66 ∧
 H.wr h65 (Addr.add a66 4) ([(Value.slice x64.a x64.len x64.cap)]) fun h67 =>
 (∃ h68, Gh h67 h68 ∧ R11 h68)) ∧
 (
 ∃ x69 : Int, H.rd h4 (Addr.add (Addr.add b57 ((x56).toNat * 3)) 0) (Value.int .i64 x69) ∧
 ∃ x70 : Int, H.rd h4 (Addr.add (Addr.add b57 ((x56).toNat * 3)) 1) (Value.int .i64 x70) ∧
 ∃ x71 : SV, H.rd h4 (Addr.add (Addr.add b57 ((x56).toNat * 3)) 2) (Value.slice x71.a x71.len x71.cap) ∧
 (
 ∃ x72 : SV, H.rd h4 (Addr.add (Addr.add a12 4) 0) (Value.slice x72.a x72.len x72.cap) ∧
 H.new h4 [(Value.int .i64 x69), (Value.int .i64 x70), (Value.slice x71.a x71.len x71.cap)] fun r73 h74 =>
 appVC Go.Proofs.Tryd.prog 100 (Value.slice x72.a x72.len x72.cap) (Value.slice (some (Addr.mk r73 0 none)) 1 1) h74 fun x75 h76 =>
 ∃ a77 : Addr, (some (Addr.add b8 ((p1_p).toNat * 7))) = some a77 ∧
 H.wr h76 (Addr.add a77 4) ([(Value.slice x75.a x75.len x75.cap)]) fun h78 =>
 (∃ h79, Gh h78 h79 ∧ R11 h79)) ∧
 (
 H.new h4 [(Value.int .i64 x69), (Value.int .i64 x70), (Value.slice x71.a x71.len x71.cap)] fun r80 h81 =>
 ∃ x82 : SV, H.rd h81 (Addr.add (Addr.add a12 4) 0) (Value.slice x82.a x82.len x82.cap) ∧
 appVC Go.Proofs.Tryd.prog 100 (Value.slice x82.a x82.len x82.cap) (Value.slice (some (Addr.mk r80 0 none)) 1 1) h81 fun x83 h84 =>
 ∃ a85 : Addr, (some (Addr.add b8 ((p1_p).toNat * 7))) = some a85 ∧
 H.wr h84 (Addr.add a85 4) ([(Value.slice x83.a x83.len x83.cap)]) fun h86 =>
 (∃ h87, Gh h86 h87 ∧ R11 h87))))) ∧
 (
 ∃ x88 : Int, H.rd h4 (Addr.add (Addr.add a14 1) 0) (Value.int .i64 x88) ∧
 (
 ∃ x89 : SV, H.rd h4 (Addr.add (Addr.add a12 4) 0) (Value.slice x89.a x89.len x89.cap) ∧
 ∃ x90 : SV, H.rd h4 (Addr.add (Addr.add a13 0) 0) (Value.slice x90.a x90.len x90.cap) ∧
 ∃ b91 : Addr, x90.a = some b91 ∧ 0 ≤ x88 ∧ x88 < ((x90.len : Nat) : Int) ∧
 ∃ x92 : Int, H.rd h4 (Addr.add (Addr.add b91 ((x88).toNat * 3)) 0) (Value.int .i64 x92) ∧
 ∃ x93 : Int, H.rd h4 (Addr.add (Addr.add b91 ((x88).toNat * 3)) 1) (Value.int .i64 x93) ∧
 ∃ x94 : SV, H.rd h4 (Addr.add (Addr.add b91 ((x88).toNat * 3)) 2) (Value.slice x94.a x94.len x94.cap) ∧
 H.new h4 [(Value.int .i64 x92), (Value.int .i64 x93), (Value.slice x94.a x94.len x94.cap)] fun r95 h96 =>
 appVC Go.Proofs.Tryd.prog 100 (Value.slice x89.a x89.len x89.cap) (Value.slice (some (Addr.mk r95 0 none)) 1 1) h96 fun x97 h98 =>
 ∃ a99 : Addr, (some (Addr.add b8 ((p1_p).toNat * 7))) = some a99 ∧
 H.wr h98 (Addr.add a99 4) ([(Value.slice x97.a x97.len x97.cap)]) fun h100 =>
 (∃ h101, Gh h100 h101 ∧ R11 h101)) ∧
 (
 ∃ x102 : SV, H.rd h4 (Addr.add (Addr.add a13 0) 0) (Value.slice x102.a x102.len x102.cap) ∧
 ∃ b103 : Addr, x102.a = some b103 ∧ 0 ≤ x88 ∧ x88 < ((x102.len : Nat) : Int) ∧
 (
 ∃ x104 : SV, H.rd h4 (Addr.add (Addr.add a12 4) 0) (Value.slice x104.a x104.len x104.cap) ∧
 ∃ x105 : Int, H.rd h4 (Addr.add (Addr.add b103 ((x88).toNat * 3)) 0) (Value.int .i64 x105) ∧
 ∃ x106 : Int, H.rd h4 (Addr.add (Addr.add b103 ((x88).toNat * 3)) 1) (Value.int .i64 x106) ∧
 ∃ x107 : SV, H.rd h4 (Addr.add (Addr.add b103 ((x88).toNat * 3)) 2) (Value.slice x107.a x107.len x107.cap) ∧
 H.new h4 [(Value.int .i64 x105), (Value.int .i64 x106), (Value.slice x107.a x107.len x107.cap)] fun r108 h109 =>
 appVC Go.Proofs.Tryd.prog 100 (Value.slice x104.a x104.len x104.cap) (Value.slice (some (Addr.mk r108 0 none)) 1 1) h109 fun x110 h111 =>
 ∃ a112 : Addr, (some (Addr.add b8 ((p1_p).toNat * 7))) = some a112 ∧
 H.wr h111 (Addr.add a112 4) ([(Value.slice x110.a x110.len x110.cap)]) fun h113 =>
 (∃ h114, Gh h113 h114 ∧ R11 h114)) ∧
 (
 ∃ x115 : Int, H.rd h4 (Addr.add (Addr.add b103 ((x88).toNat * 3)) 0) (Value.int .i64 x115) ∧
 ∃ x116 : Int, H.rd h4 (Addr.add (Addr.add b103 ((x88).toNat * 3)) 1) (Value.int .i64 x116) ∧
 ∃ x117 : SV, H.rd h4 (Addr.add (Addr.add b103 ((x88).toNat * 3)) 2) (Value.slice x117.a x117.len x117.cap) ∧
 (
 ∃ x118 : SV, H.rd h4 (Addr.add (Addr.add a12 4) 0) (Value.slice x118.a x118.len x118.cap) ∧
 H.new h4 [(Value.int .i64 x115), (Value.int .i64 x116), (Value.slice x117.a x117.len x117.cap)] fun r119 h120 =>
 appVC Go.Proofs.Tryd.prog 100 (Value.slice x118.a x118.len x118.cap) (Value.slice (some (Addr.mk r119 0 none)) 1 1) h120 fun x121 h122 =>
 ∃ a123 : Addr, (some (Addr.add b8 ((p1_p).toNat * 7))) = some a123 ∧
 H.wr h122 (Addr.add a123 4) ([(Value.slice x121.a x121.len x121.cap)]) fun h124 =>
 (∃ h125, Gh h124 h125 ∧ R11 h125)) ∧
 (
 H.new h4 [(Value.int .i64 x115), (Value.int .i64 x116), (Value.slice x117.a x117.len x117.cap)] fun r126 h127 =>
 ∃ x128 : SV, H.rd h127 (Addr.add (Addr.add a12 4) 0) (Value.slice x128.a x128.len x128.cap) ∧
 appVC Go.Proofs.Tryd.prog 100 (Value.slice x128.a x128.len x128.cap) (Value.slice (some (Addr.mk r126 0 none)) 1 1) h127 fun x129 h130 =>
 ∃ a131 : Addr, (some (Addr.add b8 ((p1_p).toNat * 7))) = some a131 ∧
 H.wr h130 (Addr.add a131 4) ([(Value.slice x129.a x129.len x129.cap)]) fun h132 =>
 (∃ h133, Gh h132 h133 ∧ R11 h133))))))) ∧
 ∀ (_ : F) (h134 : H), R11 h134 →
 f32_J1 p0_b p1_p post b8 h134) (
 VIf (x10 == (2 : Int)) (
 ∃ R147 : H → Prop, (
 ∃ a148 : Addr, (some (Addr.add b8 ((p1_p).toNat * 7))) = some a148 ∧
 ∃ a149 : Addr, p0_b = some a149 ∧
 ∃ a150 : Addr, (some (Addr.add b8 ((p1_p).toNat * 7))) = some a150 ∧
 (
 ∃ x151 : SV, H.rd h4 (Addr.add (Addr.add a148 5) 0) (Value.slice x151.a x151.len x151.cap) ∧
 (
 ∃ x152 : SV, H.rd h4 (Addr.add (Addr.add a149 0) 0) (Value.slice x152.a x152.len x152.cap) ∧
 ∃ x153 : Int, H.rd h4 (Addr.add (Addr.add a150 1) 0) (Value.int .i64 x153) ∧
 ∃ b154 : Addr, x152.a = some b154 ∧ 0 ≤ x153 ∧ x153 < ((x152.len : Nat) : Int) ∧
 ∃ x155 : Int, H.rd h4 (Addr.add (Addr.add b154 ((x153).toNat * 3)) 0) (Value.int .i64 x155) ∧
 ∃ x156 : Int, H.rd h4 (Addr.add (Addr.add b154 ((x153).toNat * 3)) 1) (Value.int .i64 x156) ∧
 ∃ x157 : SV, H.rd h4 (Addr.add (Addr.add b154 ((x153).toNat * 3)) 2) (Value.slice x157.a x157.len x157.cap) ∧
 H.new h4 [(Value.int .i64 x155), (Value.int .i64 x156), (Value.slice x157.a x157.len x157.cap)] fun r158 h159 =>
 appVC Go.Proofs.Tryd.prog 100 (Value.slice x151.a x151.len x151.cap) (Value.slice (some (Addr.mk r158 0 none)) 1 1) h159 fun x160 h161 =>
 ∃ a162 : Addr, (some (Addr.add b8 ((p1_p).toNat * 7))) = some a162 ∧
 H.wr h161 (Addr.add a162 5) ([(Value.slice x160.a x160.len x160.cap)]) fun h163 =>
 (∃ h164, Gh h163 h164 ∧ R147 h164)) ∧
 (
 ∃ x165 : Int, H.rd h4 (Addr.add (Addr.add a150 1) 0) (Value.int .i64 x165) ∧
 ∃ x166 : SV, H.rd h4 (Addr.add (Addr.add a149 0) 0) (Value.slice x166.a x166.len x166.cap) ∧
 ∃ b167 : Addr, x166.a = some b167 ∧ 0 ≤ x165 ∧ x165 < ((x166.len : Nat) : Int) ∧
 ∃ x168 : Int, H.rd h4 (Addr.add (Addr.add b167 ((x165).toNat * 3)) 0) (Value.int .i64 x168) ∧
 ∃ x169 : Int, H.rd h4 (Addr.add (Addr.add b167 ((x165).toNat * 3)) 1) (Value.int .i64 x169) ∧
 ∃ x170 : SV, H.rd h4 (Addr.add (Addr.add b167 ((x165).toNat * 3)) 2) (Value.slice x170.a x170.len x170.cap) ∧
 H.new h4 [(Value.int .i64 x168), (Value.int .i64 x169), (Value.slice x170.a x170.len x170.cap)] fun r171 h172 =>
 appVC Go.Proofs.Tryd.prog 100 (Value.slice x151.a x151.len x151.cap) (Value.slice (some (Addr.mk r171 0 none)) 1 1) h172 fun x173 h174 =>
 ∃ a175 : Addr, (some (Addr.add b8 ((p1_p).toNat * 7))) = some a175 ∧
 H.wr h174 (Addr.add a175 5) ([(Value.slice x173.a x173.len x173.cap)]) fun h176 =>
 (∃ h177, Gh h176 h177 ∧ R147 h177))) ∧
 (
 (
 ∃ x178 : SV, H.rd h4 (Addr.add (Addr.add a149 0) 0) (Value.slice x178.a x178.len x178.cap) ∧
 (
 ∃ x179 : SV, H.rd h4 (Addr.add (Addr.add a148 5) 0) (Value.slice x179.a x179.len x179.cap) ∧
 ∃ x180 : Int, H.rd h4 (Addr.add (Addr.add a150 1) 0) (Value.int .i64 x180) ∧
 ∃ b181 : Addr, x178.a = some b181 ∧ 0 ≤ x180 ∧ x180 < ((x178.len : Nat) : Int) ∧
 ∃ x182 : Int, H.rd h4 (Addr.add (Addr.add b181 ((x180).toNat * 3)) 0) (Value.int .i64 x182) ∧
 ∃ x183 : Int, H.rd h4 (Addr.add (Addr.add b181 ((x180).toNat * 3)) 1) (Value.int .i64 x183) ∧
 ∃ x184 : SV, H.rd h4 (Addr.add (Addr.add b181 ((x180).toNat * 3)) 2) (Value.slice x184.a x184.len x184.cap) ∧
 H.new h4 [(Value.int .i64 x182), (Value.int .i64 x183), (Value.slice x184.a x184.len x184.cap)] fun r185 h186 =>
 appVC Go.Proofs.Tryd.prog 100 (Value.slice x179.a x179.len x179.cap) (Value.slice (some (Addr.mk r185 0 none)) 1 1) h186 fun x187 h188 =>
 ∃ a189 : Addr, (some (Addr.add b8 ((p1_p).toNat * 7))) = some a189 ∧
 H.wr h188 (Addr.add a189 5) ([(Value.slice x187.a x187.len x187.cap)]) fun h190 =>
 (∃ h191, Gh h190 h191 ∧ R147 h191)) ∧
 (
 ∃ x192 : Int, H.rd h4 (Addr.add (Addr.add a150 1) 0) (Value.int .i64 x192) ∧
 ∃ b193 : Addr, x178.a = some b193 ∧ 0 ≤ x192 ∧ x192 < ((x178.len : Nat) : Int) ∧
 (
 ∃ x194 : SV, H.rd h4 (Addr.add (Addr.add a148 5) 0) (Value.slice x194.a x194.len x194.cap) ∧
 ∃ x195 : Int, H.rd h4 (Addr.add (Addr.add b193 ((x192).toNat * 3)) 0) (Value.int .i64 x195) ∧
 ∃ x196 : Int, H.rd h4 (Addr.add (Addr.add b193 ((x192).toNat * 3)) 1) (Value.int .i64 x196) ∧
 ∃ x197 : SV, H.rd h4 (Addr.add (Addr.add b193 ((x192).toNat * 3)) 2) (Value.slice x197.a x197.len x197.cap) ∧
 H.new h4 [(Value.int .i64 x195), (Value.int .i64 x196), (Value.slice x197.a x197.len x197.cap)] fun r198 h199 =>
 appVC Go.Proofs.Tryd.prog 100 (Value.slice x194.a x194.len x194.cap) (Value.slice (some (Addr.mk r198 0 none)) 1 1) h199 fun x200 h201 =>
 ∃ a202 : Addr, (some (Addr.add b8 ((p1_p).toNat * 7))) = some a202 ∧
 H.wr h201 (Addr.add a202 5) ([(Value.slice x200.a x200.len x200.cap)]) fun h203 =>
 (∃ h204, Gh h203 h204 ∧ R147 h204)) ∧
 (
 ∃ x205 : Int, H.rd h4 (Addr.add (Addr.add b193 ((x192).toNat * 3)) 0) (Value.int .i64 x205) ∧
 ∃ x206 : Int, H.rd h4 (Addr.add (Addr.add b193 ((x192).toNat * 3)) 1) (Value.int .i64 x206) ∧
 ∃ x207 : SV, H.rd h4 (Addr.add (Addr.add b193 ((x192).toNat * 3)) 2) (Value.slice x207.a x207.len x207.cap) ∧
 (
 ∃ x208 : SV, H.rd h4 (Addr.add (Addr.add a148 5) 0) (Value.slice x208.a x208.len x208.cap) ∧
 H.new h4 [(Value.int .i64 x205), (Value.int .i64 x206), (Value.slice x207.a x207.len x207.cap)] fun r209 h210 =>
 appVC Go.Proofs.Tryd.prog 100 (Value.slice x208.a x208.len x208.cap) (Value.slice (some (Addr.mk r209 0 none)) 1 1) h210 fun x211 h212 =>
 ∃ a213 : Addr, (some (Addr.add b8 ((p1_p).toNat * 7))) = some a213 ∧
 H.wr h212 (Addr.add a213 5) ([(Value.slice x211.a x211.len x211.cap)]) fun h214 =>
 (∃ h215, Gh h214 h215 ∧ R147 h215)) ∧
 (
 H.new h4 [(Value.int .i64 x205), (Value.int .i64 x206), (Value.slice x207.a x207.len x207.cap)] fun r216 h217 =>
 ∃ x218 : SV, H.rd h217 (Addr.add (Addr.add a148 5) 0) (Value.slice x218.a x218.len x218.cap) ∧
 appVC Go.Proofs.Tryd.prog 100 (Value.slice x218.a x218.len x218.cap) (Value.slice (some (Addr.mk r216 0 none)) 1 1) h217 fun x219 h220 =>
 ∃ a221 : Addr, (some (Addr.add b8 ((p1_p).toNat * 7))) = some a221 ∧
 H.wr h220 (Addr.add a221 5) ([(Value.slice x219.a x219.len x219.cap)]) fun h222 =>
 (∃ h223, Gh h222 h223 ∧ R147 h223))))) ∧
 (
 ∃ x224 : Int, H.rd h4 (Addr.add (Addr.add a150 1) 0) (Value.int .i64 x224) ∧
 (
 ∃ x225 : SV, H.rd h4 (Addr.add (Addr.add a148 5) 0) (Value.slice x225.a x225.len x225.cap) ∧
 ∃ x226 : SV, H.rd h4 (Addr.add (Addr.add a149 0) 0) (Value.slice x226.a x226.len x226.cap) ∧
 ∃ b227 : Addr, x226.a = some b227 ∧ 0 ≤ x224 ∧ x224 < ((x226.len : Nat) : Int) ∧
 ∃ x228 : Int, H.rd h4 (Addr.add (Addr.add b227 ((x224).toNat * 3)) 0) (Value.int .i64 x228) ∧
 ∃ x229 : Int, H.rd h4 (Addr.add (Addr.add b227 ((x224).toNat * 3)) 1) (Value.int .i64 x229) ∧
 ∃ x230 : SV, H.rd h4 (Addr.add (Addr.add b227 ((x224).toNat * 3)) 2) (Value.slice x230.a x230.len x230.cap) ∧
 H.new h4 [(Value.int .i64 x228), (Value.int .i64 x229), (Value.slice x230.a x230.len x230.cap)] fun r231 h232 =>
 appVC Go.Proofs.Tryd.prog 100 (Value.slice x225.a x225.len x225.cap) (Value.slice (some (Addr.mk r231 0 none)) 1 1) h232 fun x233 h234 =>
 ∃ a235 : Addr, (some (Addr.add b8 ((p1_p).toNat * 7))) = some a235 ∧
 H.wr h234 (Addr.add a235 5) ([(Value.slice x233.a x233.len x233.cap)]) fun h236 =>
 (∃ h237, Gh h236 h237 ∧ R147 h237)) ∧
 (
 ∃ x238 : SV, H.rd h4 (Addr.add (Addr.add a149 0) 0) (Value.slice x238.a x238.len x238.cap) ∧
 ∃ b239 : Addr, x238.a = some b239 ∧ 0 ≤ x224 ∧ x224 < ((x238.len : Nat) : Int) ∧
 (
 ∃ x240 : SV, H.rd h4 (Addr.add (Addr.add a148 5) 0) (Value.slice x240.a x240.len x240.cap) ∧
 ∃ x241 : Int, H.rd h4 (Addr.add (Addr.add b239 ((x224).toNat * 3)) 0) (Value.int .i64 x241) ∧
 ∃ x242 : Int, H.rd h4 (Addr.add (Addr.add b239 ((x224).toNat * 3)) 1) (Value.int .i64 x242) ∧
 ∃ x243 : SV, H.rd h4 (Addr.add (Addr.add b239 ((x224).toNat * 3)) 2) (Value.slice x243.a x243.len x243.cap) ∧
 H.new h4 [(Value.int .i64 x241), (Value.int .i64 x242), (Value.slice x243.a x243.len x243.cap)] fun r244 h245 =>
 appVC Go.Proofs.Tryd.prog 100 (Value.slice x240.a x240.len x240.cap) (Value.slice (some (Addr.mk r244 0 none)) 1 1) h245 fun x246 h247 =>
 ∃ a248 : Addr, (some (Addr.add b8 ((p1_p).toNat * 7))) = some a248 ∧
 H.wr h247 (Addr.add a248 5) ([(Value.slice x246.a x246.len x246.cap)]) fun h249 =>
 (∃ h250, Gh h249 h250 ∧ R147 h250)) ∧
 (
 ∃ x251 : Int, H.rd h4 (Addr.add (Addr.add b239 ((x224).toNat * 3)) 0) (Value.int .i64 x251) ∧
 ∃ x252 : Int, H.rd h4 (Addr.add (Addr.add b239 ((x224).toNat * 3)) 1) (Value.int .i64 x252) ∧
 ∃ x253 : SV, H.rd h4 (Addr.add (Addr.add b239 ((x224).toNat * 3)) 2) (Value.slice x253.a x253.len x253.cap) ∧
 (
 ∃ x254 : SV, H.rd h4 (Addr.add (Addr.add a148 5) 0) (Value.slice x254.a x254.len x254.cap) ∧
 H.new h4 [(Value.int .i64 x251), (Value.int .i64 x252), (Value.slice x253.a x253.len x253.cap)] fun r255 h256 =>
 appVC Go.Proofs.Tryd.prog 100 (Value.slice x254.a x254.len x254.cap) (Value.slice (some (Addr.mk r255 0 none)) 1 1) h256 fun x257 h258 =>
 ∃ a259 : Addr, (some (Addr.add b8 ((p1_p).toNat * 7))) = some a259 ∧
 H.wr h258 (Addr.add a259 5) ([(Value.slice x257.a x257.len x257.cap)]) fun h260 =>
 (∃ h261, Gh h260 h261 ∧ R147 h261)) ∧
 (
 H.new h4 [(Value.int .i64 x251), (Value.int .i64 x252), (Value.slice x253.a x253.len x253.cap)] fun r262 h263 =>
 ∃ x264 : SV, H.rd h263 (Addr.add (Addr.add a148 5) 0) (Value.slice x264.a x264.len x264.cap) ∧
 appVC Go.Proofs.Tryd.prog 100 (Value.slice x264.a x264.len x264.cap) (Value.slice (some (Addr.mk r262 0 none)) 1 1) h263 fun x265 h266 =>
 ∃ a267 : Addr, (some (Addr.add b8 ((p1_p).toNat * 7))) = some a267 ∧
 H.wr h266 (Addr.add a267 5) ([(Value.slice x265.a x265.len x265.cap)]) fun h268 =>
 (∃ h269, Gh h268 h269 ∧ R147 h269))))))) ∧
 ∀ (_ : F) (h270 : H), R147 h270 →
 f32_J2 p0_b p1_p post b8 h270) (
 VIf (x10 == (3 : Int)) (
 ∃ a296 : Addr, p0_b = some a296 ∧
 ∃ x297 : SV, H.rd h4 (Addr.add (Addr.add a296 0) 0) (Value.slice x297.a x297.len x297.cap) ∧
 ∃ a298 : Addr, (some (Addr.add b8 ((p1_p).toNat * 7))) = some a298 ∧
 ∃ x299 : Int, H.rd h4 (Addr.add (Addr.add a298 3) 0) (Value.int .i64 x299) ∧
 ∃ a300 : Addr, p0_b = some a300 ∧
 ∃ x301 : SV, H.rd h4 (Addr.add (Addr.add a300 0) 0) (Value.slice x301.a x301.len x301.cap) ∧
 ∃ b302 : Addr, x301.a = some b302 ∧ 0 ≤ p1_p ∧ p1_p < ((x301.len : Nat) : Int) ∧
 ∃ x303 : Int, H.rd h4 (Addr.add (Addr.add (Addr.add b302 ((p1_p).toNat * 3)) 1) 0) (Value.int .i64 x303) ∧
 In64 (x303 + (1 : Int)) ∧
 ∃ a304 : Addr, (some (Addr.add b8 ((p1_p).toNat * 7))) = some a304 ∧
 ∃ x305 : SV, H.rd h4 (Addr.add (Addr.add a304 6) 0) (Value.slice x305.a x305.len x305.cap) ∧
 ∃ b306 : Addr, x297.a = some b306 ∧ 0 ≤ p1_p ∧ p1_p < ((x297.len : Nat) : Int) ∧
 ([(Value.int .i64 x299), (Value.int .i64 (x303 + (1 : Int))), (Value.slice x305.a x305.len x305.cap)]).length = 3 ∧ (Program.underlying Go.Proofs.Tryd.prog 105).isSome = true ∧
 H.wr h4 (Addr.add b306 ((p1_p).toNat * 3)) ([(Value.int .i64 x299), (Value.int .i64 (x303 + (1 : Int))), (Value.slice x305.a x305.len x305.cap)]) fun h307 =>
 ∃ a308 : Addr, (some (Addr.add b8 ((p1_p).toNat * 7))) = some a308 ∧
 ([(Value.int .i64 0), (Value.int .i64 0), (Value.bool false), (Value.int .i64 0), (Value.slice none 0 0), (Value.slice none 0 0), (Value.slice none 0 0)]).length = 7 ∧ (Program.underlying Go.Proofs.Tryd.prog 110).isSome = true ∧
 H.wr h307 a308 ([(Value.int .i64 0), (Value.int .i64 0), (Value.bool false), (Value.int .i64 0), (Value.slice none 0 0), (Value.slice none 0 0), (Value.slice none 0 0)]) fun h309 =>
 VRet h309 (Value.tuple (List.toArray [(Value.bool true), (Value.slice none 0 0), Value.nilIface])) post) (
 VRet h4 (Value.tuple (List.toArray [(Value.bool false), (Value.slice none 0 0), Value.nilIface])) post)))))

def f32_hint : Hint := (.node .leaf (.node .leaf (.node .leaf (.node (.node .leaf (.node (.node .leaf (.node .leaf (.node .leaf (.node (.node (.join [] .any) .leaf) (.node .leaf (.node (.node (.join [] .any) .leaf) (.node .leaf (.node (.node (.tail 24) .leaf) .leaf)))))))) .leaf)) .leaf))))

theorem f32_eq (p0_b : Option Addr) (p1_p : Int) (h0 : H) (post : Value → H → Prop) : exec Tryd.prog (bodyOf Tryd.f32) f32_hint (retQ Tryd.prog Tryd.f32 post) (F0 [(Value.pointer p0_b), (Value.int .i64 p1_p)]) h0 = f32_sem p0_b p1_p h0 post := by kernel_rfl

set_option maxRecDepth 20000 in
theorem f32_call (p0_b : Option Addr) (p1_p : Int) (h0 : H) (post : Value → H → Prop) (hx : f32_sem p0_b p1_p h0 post) : SemCall Tryd.prog 32 (List.toArray [(Value.pointer p0_b), (Value.int .i64 p1_p)]) h0 post :=
 sem_of_exec (g := f32_hint) mixed Tryd.func32 (bodyOf_eq (by kernel_rfl)) (by kernel_rfl) ((f32_eq p0_b p1_p h0 post).mpr hx)

/- (*latchgarth/snap.Board).Values -/
def f33_L1 (x2 : SV) (R3 : SV → H → Prop) (I4 : Nat → SV → Int → H → Prop) (n5 : Nat) (x8_out : SV) (x9 : Int) (h10 : H) : Prop :=
 VIf (decide (x9 < ((x2.len : Nat) : Int))) (
 ∃ b11 : Addr, x2.a = some b11 ∧ 0 ≤ x9 ∧ x9 < ((x2.len : Nat) : Int) ∧
 ∃ x12 : Int, H.rd h10 (Addr.add (Addr.add b11 ((x9).toNat * 3)) 0) (Value.int .i64 x12) ∧
 ∃ x13 : Int, H.rd h10 (Addr.add (Addr.add b11 ((x9).toNat * 3)) 1) (Value.int .i64 x13) ∧
 ∃ x14 : SV, H.rd h10 (Addr.add (Addr.add b11 ((x9).toNat * 3)) 2) (Value.slice x14.a x14.len x14.cap) ∧
 H.new h10 [(Value.int .i64 0), (Value.int .i64 0), (Value.slice none 0 0)] fun r15 h16 =>
 ([(Value.int .i64 x12), (Value.int .i64 x13), (Value.slice x14.a x14.len x14.cap)]).length = 3 ∧ (Program.underlying Go.Proofs.Tryd.prog 105).isSome = true ∧
 H.wr h16 (Addr.mk r15 0 none) ([(Value.int .i64 x12), (Value.int .i64 x13), (Value.slice x14.a x14.len x14.cap)]) fun h17 =>
 ∃ x18 : Int, H.rd h17 (Addr.add (Addr.add (Addr.mk r15 0 none) 0) 0) (Value.int .i64 x18) ∧
 H.new h17 [(Value.int .i64 x18)] fun r19 h20 =>
 appVC Go.Proofs.Tryd.prog 22 (Value.slice x8_out.a x8_out.len x8_out.cap) (Value.slice (some (Addr.mk r19 0 none)) 1 1) h20 fun x21 h22 =>
 In64 (x9 + (1 : Int)) ∧
 ∃ m6, m6 < n5 ∧ (∃ h23, Gh h22 h23 ∧ I4 m6 x21 (x9 + (1 : Int)) h23)) (
 (∃ h24, Gh h10 h24 ∧ R3 x8_out h24))

def f33_sem (p0_b : Option Addr) (h0 : H) (post : Value → H → Prop) : Prop :=
 ∃ a1 : Addr, p0_b = some a1 ∧
 ∃ x2 : SV, H.rd h0 (Addr.add (Addr.add a1 0) 0) (Value.slice x2.a x2.len x2.cap) ∧
 ∃ R3 : SV → H → Prop, (
 ∃ I4 : Nat → SV → Int → H → Prop, (∃ n5, (∃ h7, Gh h0 h7 ∧ I4 n5 (SV.mk none 0 0) (0 : Int) h7)) ∧
 ∀ (n5 : Nat) (_ : F) (x8_out : SV) (x9 : Int) (h10 : H), I4 n5 x8_out x9 h10 →
 f33_L1 x2 R3 I4 n5 x8_out x9 h10) ∧
 ∀ (_ : F) (x25_out : SV) (h26 : H), R3 x25_out h26 →
 VRet h26 (Value.slice x25_out.a x25_out.len x25_out.cap) post

def f33_hint : Hint := (.node .leaf (.node .leaf (.node (.node .leaf (.join [(3, .sl)] (.node (.loop [(3, .sl), (11, .int)] .leaf) .leaf))) .leaf)))

theorem f33_eq (p0_b : Option Addr) (h0 : H) (post : Value → H → Prop) : exec Tryd.prog (bodyOf Tryd.f33) f33_hint (retQ Tryd.prog Tryd.f33 post) (F0 [(Value.pointer p0_b)]) h0 = f33_sem p0_b h0 post := by kernel_rfl

set_option maxRecDepth 20000 in
theorem f33_call (p0_b : Option Addr) (h0 : H) (post : Value → H → Prop) (hx : f33_sem p0_b h0 post) : SemCall Tryd.prog 33 (List.toArray [(Value.pointer p0_b)]) h0 post :=
 sem_of_exec (g := f33_hint) mixed Tryd.func33 (bodyOf_eq (by kernel_rfl)) (by kernel_rfl) ((f33_eq p0_b h0 post).mpr hx)

/- (*latchgarth/snap.Board).At -/
def f34_sem (p0_b : Option Addr) (p1_p : Int) (h0 : H) (post : Value → H → Prop) : Prop :=
 ∃ a1 : Addr, p0_b = some a1 ∧
 ∃ x2 : SV, H.rd h0 (Addr.add (Addr.add a1 1) 0) (Value.slice x2.a x2.len x2.cap) ∧
 In64 (((x2.len : Nat) : Int) - (1 : Int)) ∧
 SemCall Go.Proofs.Tryd.prog 35 (List.toArray [(Value.int .i64 p1_p), (Value.int .i64 0), (Value.int .i64 (((x2.len : Nat) : Int) - (1 : Int)))]) h0 fun v3 h4 =>
 ∃ x5 : Bool, v3 = (Value.bool x5) ∧
 VIf (!x5) (
 VRet h4 (Value.int .i64 0) post) (
 ∃ a6 : Addr, p0_b = some a6 ∧
 ∃ x7 : SV, H.rd h4 (Addr.add (Addr.add a6 1) 0) (Value.slice x7.a x7.len x7.cap) ∧
 ∃ b8 : Addr, x7.a = some b8 ∧ 0 ≤ p1_p ∧ p1_p < ((x7.len : Nat) : Int) ∧
 ∃ x9 : Int, H.rd h4 (Addr.add (Addr.add (Addr.add b8 ((p1_p).toNat * 7)) 0) 0) (Value.int .i64 x9) ∧
 VRet h4 (Value.int .i64 x9) post)

def f34_hint : Hint := .leaf

theorem f34_eq (p0_b : Option Addr) (p1_p : Int) (h0 : H) (post : Value → H → Prop) : exec Tryd.prog (bodyOf Tryd.f34) f34_hint (retQ Tryd.prog Tryd.f34 post) (F0 [(Value.pointer p0_b), (Value.int .i64 p1_p)]) h0 = f34_sem p0_b p1_p h0 post := by kernel_rfl

set_option maxRecDepth 20000 in
theorem f34_call (p0_b : Option Addr) (p1_p : Int) (h0 : H) (post : Value → H → Prop) (hx : f34_sem p0_b p1_p h0 post) : SemCall Tryd.prog 34 (List.toArray [(Value.pointer p0_b), (Value.int .i64 p1_p)]) h0 post :=
 sem_of_exec (g := f34_hint) mixed Tryd.func34 (bodyOf_eq (by kernel_rfl)) (by kernel_rfl) ((f34_eq p0_b p1_p h0 post).mpr hx)

/- latchgarth/core.Within -/
def f35_sem (p0_n : Int) (p1_low : Int) (p2_high : Int) (h0 : H) (post : Value → H → Prop) : Prop :=
 ∃ R1 : Bool → H → Prop, (
 VIf (decide (p0_n ≥ p1_low)) (
 (∃ h2, Gh h0 h2 ∧ R1 (decide (p0_n ≤ p2_high)) h2)) (
 (∃ h3, Gh h0 h3 ∧ R1 false h3))) ∧
 ∀ (_ : F) (x4 : Bool) (h5 : H), R1 x4 h5 →
 VRet h5 (Value.bool x4) post

def f35_hint : Hint := (.node .leaf (.node (.join [(6, .bool)] .leaf) .leaf))

theorem f35_eq (p0_n : Int) (p1_low : Int) (p2_high : Int) (h0 : H) (post : Value → H → Prop) : exec Tryd.prog (bodyOf Tryd.f35) f35_hint (retQ Tryd.prog Tryd.f35 post) (F0 [(Value.int .i64 p0_n), (Value.int .i64 p1_low), (Value.int .i64 p2_high)]) h0 = f35_sem p0_n p1_low p2_high h0 post := by kernel_rfl

set_option maxRecDepth 20000 in
theorem f35_call (p0_n : Int) (p1_low : Int) (p2_high : Int) (h0 : H) (post : Value → H → Prop) (hx : f35_sem p0_n p1_low p2_high h0 post) : SemCall Tryd.prog 35 (List.toArray [(Value.int .i64 p0_n), (Value.int .i64 p1_low), (Value.int .i64 p2_high)]) h0 post :=
 sem_of_exec (g := f35_hint) mixed Tryd.func35 (bodyOf_eq (by kernel_rfl)) (by kernel_rfl) ((f35_eq p0_n p1_low p2_high h0 post).mpr hx)

/- latchgarth/plain.Told -/
def f36_sem (p0_err : Option (TypeId × Value)) (h0 : H) (post : Value → H → Prop) : Prop :=
 isIfaceV (errV p0_err) = true ∧
 VIf (isNilV (errV p0_err)) (
 VRet h0 (Value.int .i64 0) post) (
 H.new h0 [(Value.int .i64 0)] fun r1 h2 =>
 SemCall Go.Proofs.Tryd.prog 50 (List.toArray [(errV p0_err), (Value.iface 117 (Value.pointer (some (Addr.mk r1 0 none))))]) h2 fun v3 h4 =>
 ∃ x5 : Bool, v3 = (Value.bool x5) ∧
 VIf x5 (
 ∃ x6 : Int, H.rd h4 (Addr.add (Addr.mk r1 0 none) 0) (Value.int .i64 x6) ∧
 VRet h4 (Value.int .i64 x6) post) (
 VRet h4 (Value.int .i64 (-1 : Int)) post))

def f36_hint : Hint := .leaf

theorem f36_eq (p0_err : Option (TypeId × Value)) (h0 : H) (post : Value → H → Prop) : exec Tryd.prog (bodyOf Tryd.f36) f36_hint (retQ Tryd.prog Tryd.f36 post) (F0 [(errV p0_err)]) h0 = f36_sem p0_err h0 post := by kernel_rfl

set_option maxRecDepth 20000 in
theorem f36_call (p0_err : Option (TypeId × Value)) (h0 : H) (post : Value → H → Prop) (hx : f36_sem p0_err h0 post) : SemCall Tryd.prog 36 (List.toArray [(errV p0_err)]) h0 post :=
 sem_of_exec (g := f36_hint) mixed Tryd.func36 (bodyOf_eq (by kernel_rfl)) (by kernel_rfl) ((f36_eq p0_err h0 post).mpr hx)

/- latchgarth/latchgarthref3.set -/
def f37_sem (p0_l : SV) (p1_i : Int) (p2_n : Int) (h0 : H) (post : Value → H → Prop) : Prop :=
 appVC Go.Proofs.Tryd.prog 22 (Value.slice none 0 0) (Value.slice p0_l.a p0_l.len p0_l.cap) h0 fun x1 h2 =>
 ∃ b3 : Addr, x1.a = some b3 ∧ 0 ≤ p1_i ∧ p1_i < ((x1.len : Nat) : Int) ∧
 H.wr h2 (Addr.add b3 ((p1_i).toNat * 1)) ([(Value.int .i64 p2_n)]) fun h4 =>
 VRet h4 (Value.slice x1.a x1.len x1.cap) post

def f37_hint : Hint := .leaf

theorem f37_eq (p0_l : SV) (p1_i : Int) (p2_n : Int) (h0 : H) (post : Value → H → Prop) : exec Tryd.prog (bodyOf Tryd.f37) f37_hint (retQ Tryd.prog Tryd.f37 post) (F0 [(Value.slice p0_l.a p0_l.len p0_l.cap), (Value.int .i64 p1_i), (Value.int .i64 p2_n)]) h0 = f37_sem p0_l p1_i p2_n h0 post := by kernel_rfl

set_option maxRecDepth 20000 in
theorem f37_call (p0_l : SV) (p1_i : Int) (p2_n : Int) (h0 : H) (post : Value → H → Prop) (hx : f37_sem p0_l p1_i p2_n h0 post) : SemCall Tryd.prog 37 (List.toArray [(Value.slice p0_l.a p0_l.len p0_l.cap), (Value.int .i64 p1_i), (Value.int .i64 p2_n)]) h0 post :=
 sem_of_exec (g := f37_hint) mixed Tryd.func37 (bodyOf_eq (by kernel_rfl)) (by kernel_rfl) ((f37_eq p0_l p1_i p2_n h0 post).mpr hx)

/- slices.Clone[[]int,int] -/
def f38_sem (p0_s : SV) (h0 : H) (post : Value → H → Prop) : Prop :=
 VIf (Option.isNone p0_s.a) (
 VRet h0 (Value.slice none 0 0) post) (
 H.new h0 [] fun r1 h2 =>
 appVC Go.Proofs.Tryd.prog 22 (Value.slice (some (Addr.mk r1 0 none)) 0 0) (Value.slice p0_s.a p0_s.len p0_s.cap) h2 fun x3 h4 =>
 VRet h4 (Value.slice x3.a x3.len x3.cap) post)

def f38_hint : Hint := .leaf

theorem f38_eq (p0_s : SV) (h0 : H) (post : Value → H → Prop) : exec Tryd.prog (bodyOf Tryd.f38) f38_hint (retQ Tryd.prog Tryd.f38 post) (F0 [(Value.slice p0_s.a p0_s.len p0_s.cap)]) h0 = f38_sem p0_s h0 post := by kernel_rfl

set_option maxRecDepth 20000 in
theorem f38_call (p0_s : SV) (h0 : H) (post : Value → H → Prop) (hx : f38_sem p0_s h0 post) : SemCall Tryd.prog 38 (List.toArray [(Value.slice p0_s.a p0_s.len p0_s.cap)]) h0 post :=
 sem_of_exec (g := f38_hint) mixed Tryd.func38 (bodyOf_eq (by kernel_rfl)) (by kernel_rfl) ((f38_eq p0_s h0 post).mpr hx)

/- latchgarth/core.Hands -/
def f39_sem (p0_n : Int) (h0 : H) (post : Value → H → Prop) : Prop :=
 SemCall Go.Proofs.Tryd.prog 35 (List.toArray [(Value.int .i64 p0_n), (Value.int .i64 (1 : Int)), (Value.int .i64 (4 : Int))]) h0 fun v1 h2 =>
 ∃ x3 : Bool, v1 = (Value.bool x3) ∧
 VIf (!x3) (
 VRet h2 (Value.iface 79 (Value.int .i64 (1 : Int))) post) (
 VRet h2 Value.nilIface post)

def f39_hint : Hint := .leaf

theorem f39_eq (p0_n : Int) (h0 : H) (post : Value → H → Prop) : exec Tryd.prog (bodyOf Tryd.f39) f39_hint (retQ Tryd.prog Tryd.f39 post) (F0 [(Value.int .i64 p0_n)]) h0 = f39_sem p0_n h0 post := by kernel_rfl

set_option maxRecDepth 20000 in
theorem f39_call (p0_n : Int) (h0 : H) (post : Value → H → Prop) (hx : f39_sem p0_n h0 post) : SemCall Tryd.prog 39 (List.toArray [(Value.int .i64 p0_n)]) h0 post :=
 sem_of_exec (g := f39_hint) mixed Tryd.func39 (bodyOf_eq (by kernel_rfl)) (by kernel_rfl) ((f39_eq p0_n h0 post).mpr hx)

/- latchgarth/latchgarthref3.in -/
def f40_sem (p0_n : Int) (p1_low : Int) (p2_high : Int) (h0 : H) (post : Value → H → Prop) : Prop :=
 ∃ R1 : Bool → H → Prop, (
 VIf (decide (p0_n ≥ p1_low)) (
 (∃ h2, Gh h0 h2 ∧ R1 (decide (p0_n ≤ p2_high)) h2)) (
 (∃ h3, Gh h0 h3 ∧ R1 false h3))) ∧
 ∀ (_ : F) (x4 : Bool) (h5 : H), R1 x4 h5 →
 VRet h5 (Value.bool x4) post

def f40_hint : Hint := (.node .leaf (.node (.join [(6, .bool)] .leaf) .leaf))

theorem f40_eq (p0_n : Int) (p1_low : Int) (p2_high : Int) (h0 : H) (post : Value → H → Prop) : exec Tryd.prog (bodyOf Tryd.f40) f40_hint (retQ Tryd.prog Tryd.f40 post) (F0 [(Value.int .i64 p0_n), (Value.int .i64 p1_low), (Value.int .i64 p2_high)]) h0 = f40_sem p0_n p1_low p2_high h0 post := by kernel_rfl

set_option maxRecDepth 20000 in
theorem f40_call (p0_n : Int) (p1_low : Int) (p2_high : Int) (h0 : H) (post : Value → H → Prop) (hx : f40_sem p0_n p1_low p2_high h0 post) : SemCall Tryd.prog 40 (List.toArray [(Value.int .i64 p0_n), (Value.int .i64 p1_low), (Value.int .i64 p2_high)]) h0 post :=
 sem_of_exec (g := f40_hint) mixed Tryd.func40 (bodyOf_eq (by kernel_rfl)) (by kernel_rfl) ((f40_eq p0_n p1_low p2_high h0 post).mpr hx)

/- latchgarth/latchgarthref3.more -/
def f41_sem (p0_l : SV) (p1_n : Int) (h0 : H) (post : Value → H → Prop) : Prop :=
 appVC Go.Proofs.Tryd.prog 22 (Value.slice none 0 0) (Value.slice p0_l.a p0_l.len p0_l.cap) h0 fun x1 h2 =>
 H.new h2 [(Value.int .i64 p1_n)] fun r3 h4 =>
 appVC Go.Proofs.Tryd.prog 22 (Value.slice x1.a x1.len x1.cap) (Value.slice (some (Addr.mk r3 0 none)) 1 1) h4 fun x5 h6 =>
 VRet h6 (Value.slice x5.a x5.len x5.cap) post

def f41_hint : Hint := .leaf

theorem f41_eq (p0_l : SV) (p1_n : Int) (h0 : H) (post : Value → H → Prop) : exec Tryd.prog (bodyOf Tryd.f41) f41_hint (retQ Tryd.prog Tryd.f41 post) (F0 [(Value.slice p0_l.a p0_l.len p0_l.cap), (Value.int .i64 p1_n)]) h0 = f41_sem p0_l p1_n h0 post := by kernel_rfl

set_option maxRecDepth 20000 in
theorem f41_call (p0_l : SV) (p1_n : Int) (h0 : H) (post : Value → H → Prop) (hx : f41_sem p0_l p1_n h0 post) : SemCall Tryd.prog 41 (List.toArray [(Value.slice p0_l.a p0_l.len p0_l.cap), (Value.int .i64 p1_n)]) h0 post :=
 sem_of_exec (g := f41_hint) mixed Tryd.func41 (bodyOf_eq (by kernel_rfl)) (by kernel_rfl) ((f41_eq p0_l p1_n h0 post).mpr hx)

/- latchgarth/core.Cas[int] -/
def f43_sem (p0_word : Option Addr) (p1_old : Int) (p2_new : Int) (h0 : H) (post : Value → H → Prop) : Prop :=
 ∃ a1 : Addr, p0_word = some a1 ∧
 ∃ x2 : Int, H.rd h0 (Addr.add a1 0) (Value.int .i64 x2) ∧
 VIf (x2 != p1_old) (
 VRet h0 (Value.bool false) post) (
 ∃ a3 : Addr, p0_word = some a3 ∧
 H.wr h0 a3 ([(Value.int .i64 p2_new)]) fun h4 =>
 VRet h4 (Value.bool true) post)

def f43_hint : Hint := .leaf

theorem f43_eq (p0_word : Option Addr) (p1_old : Int) (p2_new : Int) (h0 : H) (post : Value → H → Prop) : exec Tryd.prog (bodyOf Tryd.f43) f43_hint (retQ Tryd.prog Tryd.f43 post) (F0 [(Value.pointer p0_word), (Value.int .i64 p1_old), (Value.int .i64 p2_new)]) h0 = f43_sem p0_word p1_old p2_new h0 post := by kernel_rfl

set_option maxRecDepth 20000 in
theorem f43_call (p0_word : Option Addr) (p1_old : Int) (p2_new : Int) (h0 : H) (post : Value → H → Prop) (hx : f43_sem p0_word p1_old p2_new h0 post) : SemCall Tryd.prog 43 (List.toArray [(Value.pointer p0_word), (Value.int .i64 p1_old), (Value.int .i64 p2_new)]) h0 post :=
 sem_of_exec (g := f43_hint) mixed Tryd.func43 (bodyOf_eq (by kernel_rfl)) (by kernel_rfl) ((f43_eq p0_word p1_old p2_new h0 post).mpr hx)

/- latchgarth/latchgarthref3.reads -/
def f44_sem (p0_l : SV) (p1_i : Int) (p2_x : SV) (h0 : H) (post : Value → H → Prop) : Prop :=
 appVC Go.Proofs.Tryd.prog 67 (Value.slice none 0 0) (Value.slice p0_l.a p0_l.len p0_l.cap) h0 fun x1 h2 =>
 ∃ b3 : Addr, x1.a = some b3 ∧ 0 ≤ p1_i ∧ p1_i < ((x1.len : Nat) : Int) ∧
 H.wr h2 (Addr.add b3 ((p1_i).toNat * 1)) ([(Value.slice p2_x.a p2_x.len p2_x.cap)]) fun h4 =>
 VRet h4 (Value.slice x1.a x1.len x1.cap) post

def f44_hint : Hint := .leaf

theorem f44_eq (p0_l : SV) (p1_i : Int) (p2_x : SV) (h0 : H) (post : Value → H → Prop) : exec Tryd.prog (bodyOf Tryd.f44) f44_hint (retQ Tryd.prog Tryd.f44 post) (F0 [(Value.slice p0_l.a p0_l.len p0_l.cap), (Value.int .i64 p1_i), (Value.slice p2_x.a p2_x.len p2_x.cap)]) h0 = f44_sem p0_l p1_i p2_x h0 post := by kernel_rfl

set_option maxRecDepth 20000 in
theorem f44_call (p0_l : SV) (p1_i : Int) (p2_x : SV) (h0 : H) (post : Value → H → Prop) (hx : f44_sem p0_l p1_i p2_x h0 post) : SemCall Tryd.prog 44 (List.toArray [(Value.slice p0_l.a p0_l.len p0_l.cap), (Value.int .i64 p1_i), (Value.slice p2_x.a p2_x.len p2_x.cap)]) h0 post :=
 sem_of_exec (g := f44_hint) mixed Tryd.func44 (bodyOf_eq (by kernel_rfl)) (by kernel_rfl) ((f44_eq p0_l p1_i p2_x h0 post).mpr hx)

/- latchgarth/latchgarthref3.rows -/
def f45_sem (p0_l : SV) (p1_i : Int) (p2_x : SV) (h0 : H) (post : Value → H → Prop) : Prop :=
 appVC Go.Proofs.Tryd.prog 47 (Value.slice none 0 0) (Value.slice p0_l.a p0_l.len p0_l.cap) h0 fun x1 h2 =>
 ∃ b3 : Addr, x1.a = some b3 ∧ 0 ≤ p1_i ∧ p1_i < ((x1.len : Nat) : Int) ∧
 H.wr h2 (Addr.add b3 ((p1_i).toNat * 1)) ([(Value.slice p2_x.a p2_x.len p2_x.cap)]) fun h4 =>
 VRet h4 (Value.slice x1.a x1.len x1.cap) post

def f45_hint : Hint := .leaf

theorem f45_eq (p0_l : SV) (p1_i : Int) (p2_x : SV) (h0 : H) (post : Value → H → Prop) : exec Tryd.prog (bodyOf Tryd.f45) f45_hint (retQ Tryd.prog Tryd.f45 post) (F0 [(Value.slice p0_l.a p0_l.len p0_l.cap), (Value.int .i64 p1_i), (Value.slice p2_x.a p2_x.len p2_x.cap)]) h0 = f45_sem p0_l p1_i p2_x h0 post := by kernel_rfl

set_option maxRecDepth 20000 in
theorem f45_call (p0_l : SV) (p1_i : Int) (p2_x : SV) (h0 : H) (post : Value → H → Prop) (hx : f45_sem p0_l p1_i p2_x h0 post) : SemCall Tryd.prog 45 (List.toArray [(Value.slice p0_l.a p0_l.len p0_l.cap), (Value.int .i64 p1_i), (Value.slice p2_x.a p2_x.len p2_x.cap)]) h0 post :=
 sem_of_exec (g := f45_hint) mixed Tryd.func45 (bodyOf_eq (by kernel_rfl)) (by kernel_rfl) ((f45_eq p0_l p1_i p2_x h0 post).mpr hx)

/- (*latchgarth/snap.Board).begin -/
def f46_J1 (p0_b : Option Addr) (p1_p : Int) (post : Value → H → Prop) (r1 : Nat) (x15 : Bool) (h16 : H) : Prop :=
 VIf x15 (
 VRet h16 (Value.iface 79 (Value.int .i64 (1 : Int))) post) (
 ∃ a17 : Addr, p0_b = some a17 ∧
 ∃ x18 : SV, H.rd h16 (Addr.add (Addr.add a17 1) 0) (Value.slice x18.a x18.len x18.cap) ∧
 ∃ b19 : Addr, x18.a = some b19 ∧ 0 ≤ p1_p ∧ p1_p < ((x18.len : Nat) : Int) ∧
 ∃ x20 : Int, H.rd h16 (Addr.add (Addr.add (Addr.add b19 ((p1_p).toNat * 7)) 0) 0) (Value.int .i64 x20) ∧
 VIf (x20 != (0 : Int)) (
 VRet h16 (Value.iface 79 (Value.int .i64 (7 : Int))) post) (
 H.wr h16 (Addr.add (Addr.mk r1 0 none) 0) ([(Value.int .i64 (1 : Int))]) fun h21 =>
 ∃ a22 : Addr, p0_b = some a22 ∧
 ∃ x23 : SV, H.rd h21 (Addr.add (Addr.add a22 1) 0) (Value.slice x23.a x23.len x23.cap) ∧
 0 ≤ ((x23.len : Nat) : Int) ∧ ((x23.len : Nat) : Int) ≤ ((x23.len : Nat) : Int) ∧ ((8 : Nat) : Int) * ((x23.len : Nat) : Int) ≤ 140737488355328 ∧ ((x23.len : Nat) : Int) ≤ 1000000000 ∧
 H.new h21 (repl (((x23.len : Nat) : Int)).toNat [(Value.int .i64 0)]) fun r24 h25 =>
 H.wr h25 (Addr.add (Addr.mk r1 0 none) 6) ([(Value.slice (some (Addr.mk r24 0 none)) ((((x23.len : Nat) : Int)).toNat) ((((x23.len : Nat) : Int)).toNat))]) fun h26 =>
 ∃ a27 : Addr, p0_b = some a27 ∧
 ∃ x28 : SV, H.rd h26 (Addr.add (Addr.add a27 1) 0) (Value.slice x28.a x28.len x28.cap) ∧
 ∃ x29 : Int, H.rd h26 (Addr.add (Addr.mk r1 0 none) 0) (Value.int .i64 x29) ∧
 ∃ x30 : Int, H.rd h26 (Addr.add (Addr.mk r1 0 none) 1) (Value.int .i64 x30) ∧
 ∃ x31 : Bool, H.rd h26 (Addr.add (Addr.mk r1 0 none) 2) (Value.bool x31) ∧
 ∃ x32 : Int, H.rd h26 (Addr.add (Addr.mk r1 0 none) 3) (Value.int .i64 x32) ∧
 ∃ x33 : SV, H.rd h26 (Addr.add (Addr.mk r1 0 none) 4) (Value.slice x33.a x33.len x33.cap) ∧
 ∃ x34 : SV, H.rd h26 (Addr.add (Addr.mk r1 0 none) 5) (Value.slice x34.a x34.len x34.cap) ∧
 ∃ x35 : SV, H.rd h26 (Addr.add (Addr.mk r1 0 none) 6) (Value.slice x35.a x35.len x35.cap) ∧
 ∃ b36 : Addr, x28.a = some b36 ∧ 0 ≤ p1_p ∧ p1_p < ((x28.len : Nat) : Int) ∧
 ([(Value.int .i64 x29), (Value.int .i64 x30), (Value.bool x31), (Value.int .i64 x32), (Value.slice x33.a x33.len x33.cap), (Value.slice x34.a x34.len x34.cap), (Value.slice x35.a x35.len x35.cap)]).length = 7 ∧ (Program.underlying Go.Proofs.Tryd.prog 110).isSome = true ∧
 H.wr h26 (Addr.add b36 ((p1_p).toNat * 7)) ([(Value.int .i64 x29), (Value.int .i64 x30), (Value.bool x31), (Value.int .i64 x32), (Value.slice x33.a x33.len x33.cap), (Value.slice x34.a x34.len x34.cap), (Value.slice x35.a x35.len x35.cap)]) fun h37 =>
 VRet h37 Value.nilIface post))

def f46_sem (p0_b : Option Addr) (p1_p : Int) (p2_0_h : Int) (p2_1_h : Int) (p2_2_h : Bool) (p2_3_h : Int) (p2_4_h : SV) (p2_5_h : SV) (p2_6_h : SV) (h0 : H) (post : Value → H → Prop) : Prop :=
 H.new h0 [(Value.int .i64 p2_0_h), (Value.int .i64 p2_1_h), (Value.bool p2_2_h), (Value.int .i64 p2_3_h), (Value.slice p2_4_h.a p2_4_h.len p2_4_h.cap), (Value.slice p2_5_h.a p2_5_h.len p2_5_h.cap), (Value.slice p2_6_h.a p2_6_h.len p2_6_h.cap)] fun r1 h2 =>
 ∃ R3 : Bool → H → Prop, (
 ∃ a4 : Addr, p0_b = some a4 ∧
 ∃ x5 : SV, H.rd h2 (Addr.add (Addr.add a4 1) 0) (Value.slice x5.a x5.len x5.cap) ∧
 In64 (((x5.len : Nat) : Int) - (1 : Int)) ∧
 SemCall Go.Proofs.Tryd.prog 35 (List.toArray [(Value.int .i64 p1_p), (Value.int .i64 0), (Value.int .i64 (((x5.len : Nat) : Int) - (1 : Int)))]) h2 fun v6 h7 =>
 ∃ x8 : Bool, v6 = (Value.bool x8) ∧
 VIf (!x8) (
 (∃ h9, Gh h7 h9 ∧ R3 true h9)) (
 ∃ x10 : Int, H.rd h7 (Addr.add (Addr.add (Addr.mk r1 0 none) 3) 0) (Value.int .i64 x10) ∧
 SemCall Go.Proofs.Tryd.prog 35 (List.toArray [(Value.int .i64 x10), (Value.int .i64 0), (Value.int .i64 (1000 : Int))]) h7 fun v11 h12 =>
 ∃ x13 : Bool, v11 = (Value.bool x13) ∧
 (∃ h14, Gh h12 h14 ∧ R3 (!x13) h14))) ∧
 ∀ (_ : F) (x15 : Bool) (h16 : H), R3 x15 h16 →
 f46_J1 p0_b p1_p post r1 x15 h16

def f46_hint : Hint := (.node .leaf (.node (.node (.join [(21, .bool)] .leaf) .leaf) (.node .leaf (.node .leaf (.node .leaf (.node (.tail 7) .leaf))))))

theorem f46_eq (p0_b : Option Addr) (p1_p : Int) (p2_0_h : Int) (p2_1_h : Int) (p2_2_h : Bool) (p2_3_h : Int) (p2_4_h : SV) (p2_5_h : SV) (p2_6_h : SV) (h0 : H) (post : Value → H → Prop) : exec Tryd.prog (bodyOf Tryd.f46) f46_hint (retQ Tryd.prog Tryd.f46 post) (F0 [(Value.pointer p0_b), (Value.int .i64 p1_p), (Value.agg (List.toArray [(Value.int .i64 p2_0_h), (Value.int .i64 p2_1_h), (Value.bool p2_2_h), (Value.int .i64 p2_3_h), (Value.slice p2_4_h.a p2_4_h.len p2_4_h.cap), (Value.slice p2_5_h.a p2_5_h.len p2_5_h.cap), (Value.slice p2_6_h.a p2_6_h.len p2_6_h.cap)]))]) h0 = f46_sem p0_b p1_p p2_0_h p2_1_h p2_2_h p2_3_h p2_4_h p2_5_h p2_6_h h0 post := by kernel_rfl

set_option maxRecDepth 20000 in
theorem f46_call (p0_b : Option Addr) (p1_p : Int) (p2_0_h : Int) (p2_1_h : Int) (p2_2_h : Bool) (p2_3_h : Int) (p2_4_h : SV) (p2_5_h : SV) (p2_6_h : SV) (h0 : H) (post : Value → H → Prop) (hx : f46_sem p0_b p1_p p2_0_h p2_1_h p2_2_h p2_3_h p2_4_h p2_5_h p2_6_h h0 post) : SemCall Tryd.prog 46 (List.toArray [(Value.pointer p0_b), (Value.int .i64 p1_p), (Value.agg (List.toArray [(Value.int .i64 p2_0_h), (Value.int .i64 p2_1_h), (Value.bool p2_2_h), (Value.int .i64 p2_3_h), (Value.slice p2_4_h.a p2_4_h.len p2_4_h.cap), (Value.slice p2_5_h.a p2_5_h.len p2_5_h.cap), (Value.slice p2_6_h.a p2_6_h.len p2_6_h.cap)]))]) h0 post :=
 sem_of_exec (g := f46_hint) mixed Tryd.func46 (bodyOf_eq (by kernel_rfl)) (by kernel_rfl) ((f46_eq p0_b p1_p p2_0_h p2_1_h p2_2_h p2_3_h p2_4_h p2_5_h p2_6_h h0 post).mpr hx)

/- latchgarth/latchgarthref3.behind -/
def f47_sem (p0_l : SV) (p1_0_w : Int) (p1_1_w : Int) (p1_2_w : SV) (h0 : H) (post : Value → H → Prop) : Prop :=
 H.new h0 [(Value.int .i64 p1_0_w), (Value.int .i64 p1_1_w), (Value.slice p1_2_w.a p1_2_w.len p1_2_w.cap)] fun r1 h2 =>
 appVC Go.Proofs.Tryd.prog 65 (Value.slice none 0 0) (Value.slice p0_l.a p0_l.len p0_l.cap) h2 fun x3 h4 =>
 ∃ x5 : Int, H.rd h4 (Addr.add (Addr.mk r1 0 none) 0) (Value.int .i64 x5) ∧
 ∃ x6 : Int, H.rd h4 (Addr.add (Addr.mk r1 0 none) 1) (Value.int .i64 x6) ∧
 ∃ x7 : SV, H.rd h4 (Addr.add (Addr.mk r1 0 none) 2) (Value.slice x7.a x7.len x7.cap) ∧
 H.new h4 [(Value.int .i64 x5), (Value.int .i64 x6), (Value.slice x7.a x7.len x7.cap)] fun r8 h9 =>
 appVC Go.Proofs.Tryd.prog 65 (Value.slice x3.a x3.len x3.cap) (Value.slice (some (Addr.mk r8 0 none)) 1 1) h9 fun x10 h11 =>
 VRet h11 (Value.slice x10.a x10.len x10.cap) post

def f47_hint : Hint := .leaf

theorem f47_eq (p0_l : SV) (p1_0_w : Int) (p1_1_w : Int) (p1_2_w : SV) (h0 : H) (post : Value → H → Prop) : exec Tryd.prog (bodyOf Tryd.f47) f47_hint (retQ Tryd.prog Tryd.f47 post) (F0 [(Value.slice p0_l.a p0_l.len p0_l.cap), (Value.agg (List.toArray [(Value.int .i64 p1_0_w), (Value.int .i64 p1_1_w), (Value.slice p1_2_w.a p1_2_w.len p1_2_w.cap)]))]) h0 = f47_sem p0_l p1_0_w p1_1_w p1_2_w h0 post := by kernel_rfl

set_option maxRecDepth 20000 in
theorem f47_call (p0_l : SV) (p1_0_w : Int) (p1_1_w : Int) (p1_2_w : SV) (h0 : H) (post : Value → H → Prop) (hx : f47_sem p0_l p1_0_w p1_1_w p1_2_w h0 post) : SemCall Tryd.prog 47 (List.toArray [(Value.slice p0_l.a p0_l.len p0_l.cap), (Value.agg (List.toArray [(Value.int .i64 p1_0_w), (Value.int .i64 p1_1_w), (Value.slice p1_2_w.a p1_2_w.len p1_2_w.cap)]))]) h0 post :=
 sem_of_exec (g := f47_hint) mixed Tryd.func47 (bodyOf_eq (by kernel_rfl)) (by kernel_rfl) ((f47_eq p0_l p1_0_w p1_1_w p1_2_w h0 post).mpr hx)

/- (*latchgarth/snap.hand).sees -/
def f48_L1 (p0_h : Option Addr) (post : Value → H → Prop) (x2 : SV) (R3 : SV → Bool → H → Prop) (I4 : Nat → SV → Bool → Int → H → Prop) (n5 : Nat) (x8_out : SV) (x9_same : Bool) (x10 : Int) (h11 : H) : Prop :=
 VIf (decide (x10 < ((x2.len : Nat) : Int))) (
 ∃ a12 : Addr, p0_h = some a12 ∧
 ∃ x13 : SV, H.rd h11 (Addr.add (Addr.add a12 5) 0) (Value.slice x13.a x13.len x13.cap) ∧
 ∃ b14 : Addr, x13.a = some b14 ∧ 0 ≤ x10 ∧ x10 < ((x13.len : Nat) : Int) ∧
 ∃ x15 : Int, H.rd h11 (Addr.add (Addr.add (Addr.add b14 ((x10).toNat * 3)) 0) 0) (Value.int .i64 x15) ∧
 H.new h11 [(Value.int .i64 x15)] fun r16 h17 =>
 appVC Go.Proofs.Tryd.prog 22 (Value.slice x8_out.a x8_out.len x8_out.cap) (Value.slice (some (Addr.mk r16 0 none)) 1 1) h17 fun x18 h19 =>
 ∃ a20 : Addr, p0_h = some a20 ∧
 ∃ x21 : SV, H.rd h19 (Addr.add (Addr.add a20 4) 0) (Value.slice x21.a x21.len x21.cap) ∧
 ∃ b22 : Addr, x21.a = some b22 ∧ 0 ≤ x10 ∧ x10 < ((x21.len : Nat) : Int) ∧
 ∃ x23 : Int, H.rd h19 (Addr.add (Addr.add (Addr.add b22 ((x10).toNat * 3)) 1) 0) (Value.int .i64 x23) ∧
 ∃ a24 : Addr, p0_h = some a24 ∧
 ∃ x25 : SV, H.rd h19 (Addr.add (Addr.add a24 5) 0) (Value.slice x25.a x25.len x25.cap) ∧
 ∃ b26 : Addr, x25.a = some b26 ∧ 0 ≤ x10 ∧ x10 < ((x25.len : Nat) : Int) ∧
 ∃ x27 : Int, H.rd h19 (Addr.add (Addr.add (Addr.add b26 ((x10).toNat * 3)) 1) 0) (Value.int .i64 x27) ∧
 VIf (x23 != x27) (
 ∃ a28 : Addr, p0_h = some a28 ∧
 ∃ x29 : SV, H.rd h19 (Addr.add (Addr.add a28 6) 0) (Value.slice x29.a x29.len x29.cap) ∧
 ∃ b30 : Addr, x29.a = some b30 ∧ 0 ≤ x10 ∧ x10 < ((x29.len : Nat) : Int) ∧
 ∃ x31 : Int, H.rd h19 (Addr.add (Addr.add b30 ((x10).toNat * 1)) 0) (Value.int .i64 x31) ∧
 In64 (x31 + (1 : Int)) ∧
 ∃ b32 : Addr, x29.a = some b32 ∧ 0 ≤ x10 ∧ x10 < ((x29.len : Nat) : Int) ∧
 H.wr h19 (Addr.add b32 ((x10).toNat * 1)) ([(Value.int .i64 (x31 + (1 : Int)))]) fun h33 =>
 ∃ a34 : Addr, p0_h = some a34 ∧
 ∃ x35 : SV, H.rd h33 (Addr.add (Addr.add a34 6) 0) (Value.slice x35.a x35.len x35.cap) ∧
 ∃ b36 : Addr, x35.a = some b36 ∧ 0 ≤ x10 ∧ x10 < ((x35.len : Nat) : Int) ∧
 ∃ x37 : Int, H.rd h33 (Addr.add (Addr.add b36 ((x10).toNat * 1)) 0) (Value.int .i64 x37) ∧
 VIf (x37 == (2 : Int)) (
 ∃ a38 : Addr, p0_h = some a38 ∧
 ∃ x39 : SV, H.rd h33 (Addr.add (Addr.add a38 5) 0) (Value.slice x39.a x39.len x39.cap) ∧
 ∃ b40 : Addr, x39.a = some b40 ∧ 0 ≤ x10 ∧ x10 < ((x39.len : Nat) : Int) ∧
 ∃ x41 : SV, H.rd h33 (Addr.add (Addr.add (Addr.add b40 ((x10).toNat * 3)) 2) 0) (Value.slice x41.a x41.len x41.cap) ∧
 VRet h33 (Value.tuple (List.toArray [(Value.slice x41.a x41.len x41.cap), (Value.bool true)])) post) (
 In64 (x10 + (1 : Int)) ∧
 ∃ m6, m6 < n5 ∧ (∃ h42, Gh h33 h42 ∧ I4 m6 x18 false (x10 + (1 : Int)) h42))) (
 In64 (x10 + (1 : Int)) ∧
 ∃ m6, m6 < n5 ∧ (∃ h43, Gh h19 h43 ∧ I4 m6 x18 x9_same (x10 + (1 : Int)) h43))) (
 (∃ h44, Gh h11 h44 ∧ R3 x8_out x9_same h44))

def f48_sem (p0_h : Option Addr) (h0 : H) (post : Value → H → Prop) : Prop :=
 ∃ a1 : Addr, p0_h = some a1 ∧
 ∃ x2 : SV, H.rd h0 (Addr.add (Addr.add a1 4) 0) (Value.slice x2.a x2.len x2.cap) ∧
 ∃ R3 : SV → Bool → H → Prop, (
 ∃ I4 : Nat → SV → Bool → Int → H → Prop, (∃ n5, (∃ h7, Gh h0 h7 ∧ I4 n5 (SV.mk none 0 0) true (0 : Int) h7)) ∧
 ∀ (n5 : Nat) (_ : F) (x8_out : SV) (x9_same : Bool) (x10 : Int) (h11 : H), I4 n5 x8_out x9_same x10 h11 →
 f48_L1 p0_h post x2 R3 I4 n5 x8_out x9_same x10 h11) ∧
 ∀ (_ : F) (x45_out : SV) (x46_same : Bool) (h47 : H), R3 x45_out x46_same h47 →
 VRet h47 (Value.tuple (List.toArray [(Value.slice x45_out.a x45_out.len x45_out.cap), (Value.bool x46_same)])) post

def f48_hint : Hint := (.node .leaf (.node .leaf (.node .leaf (.node (.node .leaf (.join [(4, .sl), (5, .bool)] (.node (.loop [(4, .sl), (5, .bool), (12, .int)] .leaf) .leaf))) .leaf))))

theorem f48_eq (p0_h : Option Addr) (h0 : H) (post : Value → H → Prop) : exec Tryd.prog (bodyOf Tryd.f48) f48_hint (retQ Tryd.prog Tryd.f48 post) (F0 [(Value.pointer p0_h)]) h0 = f48_sem p0_h h0 post := by kernel_rfl

set_option maxRecDepth 20000 in
theorem f48_call (p0_h : Option Addr) (h0 : H) (post : Value → H → Prop) (hx : f48_sem p0_h h0 post) : SemCall Tryd.prog 48 (List.toArray [(Value.pointer p0_h)]) h0 post :=
 sem_of_exec (g := f48_hint) mixed Tryd.func48 (bodyOf_eq (by kernel_rfl)) (by kernel_rfl) ((f48_eq p0_h h0 post).mpr hx)

/- (*latchgarth/snap.Board).saw -/
def f49_sem (p0_b : Option Addr) (p1_p : Int) (p2_seen : SV) (h0 : H) (post : Value → H → Prop) : Prop :=
 ∃ a1 : Addr, p0_b = some a1 ∧
 ∃ x2 : SV, H.rd h0 (Addr.add (Addr.add a1 1) 0) (Value.slice x2.a x2.len x2.cap) ∧
 ∃ b3 : Addr, x2.a = some b3 ∧ 0 ≤ p1_p ∧ p1_p < ((x2.len : Nat) : Int) ∧
 ∃ a4 : Addr, (some (Addr.add b3 ((p1_p).toNat * 7))) = some a4 ∧
 ∃ x5 : Bool, H.rd h0 (Addr.add (Addr.add a4 2) 0) (Value.bool x5) ∧
 VIf x5 (
 SemCall Go.Proofs.Tryd.prog 38 (List.toArray [(Value.slice p2_seen.a p2_seen.len p2_seen.cap)]) h0 fun v6 h7 =>
 ∃ x8 : SV, v6 = (Value.slice x8.a x8.len x8.cap) ∧
 ∃ a9 : Addr, (some (Addr.add b3 ((p1_p).toNat * 7))) = some a9 ∧
 H.wr h7 (Addr.add a9 0) ([(Value.int .i64 (3 : Int))]) fun h10 =>
 ∃ a11 : Addr, (some (Addr.add b3 ((p1_p).toNat * 7))) = some a11 ∧
 H.wr h10 (Addr.add a11 6) ([(Value.slice x8.a x8.len x8.cap)]) fun h12 =>
 VRet h12 (Value.tuple (List.toArray [(Value.bool false), (Value.slice none 0 0), Value.nilIface])) post) (
 ∃ a13 : Addr, (some (Addr.add b3 ((p1_p).toNat * 7))) = some a13 ∧
 ([(Value.int .i64 0), (Value.int .i64 0), (Value.bool false), (Value.int .i64 0), (Value.slice none 0 0), (Value.slice none 0 0), (Value.slice none 0 0)]).length = 7 ∧ (Program.underlying Go.Proofs.Tryd.prog 110).isSome = true ∧
 H.wr h0 a13 ([(Value.int .i64 0), (Value.int .i64 0), (Value.bool false), (Value.int .i64 0), (Value.slice none 0 0), (Value.slice none 0 0), (Value.slice none 0 0)]) fun h14 =>
 SemCall Go.Proofs.Tryd.prog 38 (List.toArray [(Value.slice p2_seen.a p2_seen.len p2_seen.cap)]) h14 fun v15 h16 =>
 ∃ x17 : SV, v15 = (Value.slice x17.a x17.len x17.cap) ∧
 VRet h16 (Value.tuple (List.toArray [(Value.bool true), (Value.slice x17.a x17.len x17.cap), Value.nilIface])) post)

def f49_hint : Hint := .leaf

theorem f49_eq (p0_b : Option Addr) (p1_p : Int) (p2_seen : SV) (h0 : H) (post : Value → H → Prop) : exec Tryd.prog (bodyOf Tryd.f49) f49_hint (retQ Tryd.prog Tryd.f49 post) (F0 [(Value.pointer p0_b), (Value.int .i64 p1_p), (Value.slice p2_seen.a p2_seen.len p2_seen.cap)]) h0 = f49_sem p0_b p1_p p2_seen h0 post := by kernel_rfl

set_option maxRecDepth 20000 in
theorem f49_call (p0_b : Option Addr) (p1_p : Int) (p2_seen : SV) (h0 : H) (post : Value → H → Prop) (hx : f49_sem p0_b p1_p p2_seen h0 post) : SemCall Tryd.prog 49 (List.toArray [(Value.pointer p0_b), (Value.int .i64 p1_p), (Value.slice p2_seen.a p2_seen.len p2_seen.cap)]) h0 post :=
 sem_of_exec (g := f49_hint) mixed Tryd.func49 (bodyOf_eq (by kernel_rfl)) (by kernel_rfl) ((f49_eq p0_b p1_p p2_seen h0 post).mpr hx)

end Go.Proofs.YtnecppjgcbhnaaaDoor
