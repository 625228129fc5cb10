import Derived.Test.YtogbkgimpkaemaaDoorEngG
import Derived.Test.YtogbkgimpkaemaaDoorRows
import Derived.Test.YtogbkgimpkaemaaDoorT
namespace Go.Proofs.YtogbkgimpkaemaaDoor
open Go.Eng
/- latchgarth/latchgarthref3.BeginStack -/
def f9_L1 (r1 : Nat) (R86 : Int → H → Prop) (I87 : Nat → Int → H → Prop) (n88 : Nat) (x91_k : Int) (h92 : H) : Prop :=
 ∃ R93 : Bool → H → Prop, (
 VIf (decide (x91_k < (4 : Int))) (
 ∃ x94 : SV, H.rd h92 (Addr.add (Addr.add (Addr.mk r1 0 none) 5) 0) (Value.slice x94.a x94.len x94.cap) ∧
 ∃ b95 : Addr, x94.a = some b95 ∧ 0 ≤ x91_k ∧ x91_k < ((x94.len : Nat) : Int) ∧
 ∃ x96 : Bool, H.rd h92 (Addr.add (Addr.add b95 ((x91_k).toNat * 1)) 0) (Value.bool x96) ∧
 (∃ h97, Gh h92 h97 ∧ R93 x96 h97)) (
 (∃ h98, Gh h92 h98 ∧ R93 false h98))) ∧
 ∀ (_ : F) (x99 : Bool) (h100 : H), R93 x99 h100 →
 VIf x99 (
 In64 (x91_k + (1 : Int)) ∧
 ∃ m89, m89 < n88 ∧ (∃ h101, Gh h100 h101 ∧ I87 m89 (x91_k + (1 : Int)) h101)) (
 (∃ h102, Gh h100 h102 ∧ R86 x91_k h102))

def f9_J2 (p1_p : Int) (p2_value : Int) (post : Value → H → Prop) (r1 : Nat) (r3 : Nat) (x103_k : Int) (h104 : H) : Prop :=
 VIf (x103_k == (4 : Int)) (
 ∃ x105 : Bool, H.rd h104 (Addr.add (Addr.mk r1 0 none) 0) (Value.bool x105) ∧
 ∃ x106 : Int, H.rd h104 (Addr.add (Addr.mk r1 0 none) 1) (Value.int .i64 x106) ∧
 ∃ x107 : Int, H.rd h104 (Addr.add (Addr.mk r1 0 none) 2) (Value.int .i64 x107) ∧
 ∃ x108 : SV, H.rd h104 (Addr.add (Addr.mk r1 0 none) 3) (Value.slice x108.a x108.len x108.cap) ∧
 ∃ x109 : SV, H.rd h104 (Addr.add (Addr.mk r1 0 none) 4) (Value.slice x109.a x109.len x109.cap) ∧
 ∃ x110 : SV, H.rd h104 (Addr.add (Addr.mk r1 0 none) 5) (Value.slice x110.a x110.len x110.cap) ∧
 ∃ x111 : SV, H.rd h104 (Addr.add (Addr.mk r1 0 none) 6) (Value.slice x111.a x111.len x111.cap) ∧
 ∃ x112 : SV, H.rd h104 (Addr.add (Addr.mk r1 0 none) 7) (Value.slice x112.a x112.len x112.cap) ∧
 ∃ x113 : SV, H.rd h104 (Addr.add (Addr.mk r1 0 none) 8) (Value.slice x113.a x113.len x113.cap) ∧
 ∃ x114 : SV, H.rd h104 (Addr.add (Addr.mk r1 0 none) 9) (Value.slice x114.a x114.len x114.cap) ∧
 ∃ x115 : SV, H.rd h104 (Addr.add (Addr.mk r1 0 none) 10) (Value.slice x115.a x115.len x115.cap) ∧
 ([(Value.bool x105), (Value.int .i64 x106), (Value.int .i64 x107), (Value.slice x108.a x108.len x108.cap), (Value.slice x109.a x109.len x109.cap), (Value.slice x110.a x110.len x110.cap), (Value.slice x111.a x111.len x111.cap), (Value.slice x112.a x112.len x112.cap), (Value.slice x113.a x113.len x113.cap), (Value.slice x114.a x114.len x114.cap), (Value.slice x115.a x115.len x115.cap)]).length = 11 ∧ (Program.underlying Go.Proofs.Tryd.prog 32).isSome = true ∧
 H.wr h104 (Addr.mk r3 0 none) ([(Value.bool x105), (Value.int .i64 x106), (Value.int .i64 x107), (Value.slice x108.a x108.len x108.cap), (Value.slice x109.a x109.len x109.cap), (Value.slice x110.a x110.len x110.cap), (Value.slice x111.a x111.len x111.cap), (Value.slice x112.a x112.len x112.cap), (Value.slice x113.a x113.len x113.cap), (Value.slice x114.a x114.len x114.cap), (Value.slice x115.a x115.len x115.cap)]) fun h116 =>
 ∃ x117 : Bool, H.rd h116 (Addr.add (Addr.mk r3 0 none) 0) (Value.bool x117) ∧
 ∃ x118 : Int, H.rd h116 (Addr.add (Addr.mk r3 0 none) 1) (Value.int .i64 x118) ∧
 ∃ x119 : Int, H.rd h116 (Addr.add (Addr.mk r3 0 none) 2) (Value.int .i64 x119) ∧
 ∃ x120 : SV, H.rd h116 (Addr.add (Addr.mk r3 0 none) 3) (Value.slice x120.a x120.len x120.cap) ∧
 ∃ x121 : SV, H.rd h116 (Addr.add (Addr.mk r3 0 none) 4) (Value.slice x121.a x121.len x121.cap) ∧
 ∃ x122 : SV, H.rd h116 (Addr.add (Addr.mk r3 0 none) 5) (Value.slice x122.a x122.len x122.cap) ∧
 ∃ x123 : SV, H.rd h116 (Addr.add (Addr.mk r3 0 none) 6) (Value.slice x123.a x123.len x123.cap) ∧
 ∃ x124 : SV, H.rd h116 (Addr.add (Addr.mk r3 0 none) 7) (Value.slice x124.a x124.len x124.cap) ∧
 ∃ x125 : SV, H.rd h116 (Addr.add (Addr.mk r3 0 none) 8) (Value.slice x125.a x125.len x125.cap) ∧
 ∃ x126 : SV, H.rd h116 (Addr.add (Addr.mk r3 0 none) 9) (Value.slice x126.a x126.len x126.cap) ∧
 ∃ x127 : SV, H.rd h116 (Addr.add (Addr.mk r3 0 none) 10) (Value.slice x127.a x127.len x127.cap) ∧
 VRet h116 (Value.tuple (List.toArray [(Value.agg (List.toArray [(Value.bool x117), (Value.int .i64 x118), (Value.int .i64 x119), (Value.slice x120.a x120.len x120.cap), (Value.slice x121.a x121.len x121.cap), (Value.slice x122.a x122.len x122.cap), (Value.slice x123.a x123.len x123.cap), (Value.slice x124.a x124.len x124.cap), (Value.slice x125.a x125.len x125.cap), (Value.slice x126.a x126.len x126.cap), (Value.slice x127.a x127.len x127.cap)])), (Value.int .i64 (4 : Int))])) post) (
 ∃ x128 : SV, H.rd h104 (Addr.add (Addr.add (Addr.mk r1 0 none) 5) 0) (Value.slice x128.a x128.len x128.cap) ∧
 SemCall Go.Proofs.Tryd.prog 32 (List.toArray [(Value.slice x128.a x128.len x128.cap), (Value.int .i64 x103_k), (Value.bool true)]) h104 fun v129 h130 =>
 ∃ x131 : SV, v129 = (Value.slice x131.a x131.len x131.cap) ∧
 H.wr h130 (Addr.add (Addr.mk r1 0 none) 5) ([(Value.slice x131.a x131.len x131.cap)]) fun h132 =>
 ∃ x133 : SV, H.rd h132 (Addr.add (Addr.add (Addr.mk r1 0 none) 3) 0) (Value.slice x133.a x133.len x133.cap) ∧
 SemCall Go.Proofs.Tryd.prog 31 (List.toArray [(Value.slice x133.a x133.len x133.cap), (Value.int .i64 x103_k), (Value.int .i64 p2_value)]) h132 fun v134 h135 =>
 ∃ x136 : SV, v134 = (Value.slice x136.a x136.len x136.cap) ∧
 H.wr h135 (Addr.add (Addr.mk r1 0 none) 3) ([(Value.slice x136.a x136.len x136.cap)]) fun h137 =>
 ∃ x138 : SV, H.rd h137 (Addr.add (Addr.add (Addr.mk r1 0 none) 7) 0) (Value.slice x138.a x138.len x138.cap) ∧
 SemCall Go.Proofs.Tryd.prog 31 (List.toArray [(Value.slice x138.a x138.len x138.cap), (Value.int .i64 p1_p), (Value.int .i64 x103_k)]) h137 fun v139 h140 =>
 ∃ x141 : SV, v139 = (Value.slice x141.a x141.len x141.cap) ∧
 H.wr h140 (Addr.add (Addr.mk r1 0 none) 7) ([(Value.slice x141.a x141.len x141.cap)]) fun h142 =>
 ∃ x143 : SV, H.rd h142 (Addr.add (Addr.add (Addr.mk r1 0 none) 6) 0) (Value.slice x143.a x143.len x143.cap) ∧
 SemCall Go.Proofs.Tryd.prog 31 (List.toArray [(Value.slice x143.a x143.len x143.cap), (Value.int .i64 p1_p), (Value.int .i64 (1 : Int))]) h142 fun v144 h145 =>
 ∃ x146 : SV, v144 = (Value.slice x146.a x146.len x146.cap) ∧
 H.wr h145 (Addr.add (Addr.mk r1 0 none) 6) ([(Value.slice x146.a x146.len x146.cap)]) fun h147 =>
 ∃ x148 : Bool, H.rd h147 (Addr.add (Addr.mk r1 0 none) 0) (Value.bool x148) ∧
 ∃ x149 : Int, H.rd h147 (Addr.add (Addr.mk r1 0 none) 1) (Value.int .i64 x149) ∧
 ∃ x150 : Int, H.rd h147 (Addr.add (Addr.mk r1 0 none) 2) (Value.int .i64 x150) ∧
 ∃ x151 : SV, H.rd h147 (Addr.add (Addr.mk r1 0 none) 3) (Value.slice x151.a x151.len x151.cap) ∧
 ∃ x152 : SV, H.rd h147 (Addr.add (Addr.mk r1 0 none) 4) (Value.slice x152.a x152.len x152.cap) ∧
 ∃ x153 : SV, H.rd h147 (Addr.add (Addr.mk r1 0 none) 5) (Value.slice x153.a x153.len x153.cap) ∧
 ∃ x154 : SV, H.rd h147 (Addr.add (Addr.mk r1 0 none) 6) (Value.slice x154.a x154.len x154.cap) ∧
 ∃ x155 : SV, H.rd h147 (Addr.add (Addr.mk r1 0 none) 7) (Value.slice x155.a x155.len x155.cap) ∧
 ∃ x156 : SV, H.rd h147 (Addr.add (Addr.mk r1 0 none) 8) (Value.slice x156.a x156.len x156.cap) ∧
 ∃ x157 : SV, H.rd h147 (Addr.add (Addr.mk r1 0 none) 9) (Value.slice x157.a x157.len x157.cap) ∧
 ∃ x158 : SV, H.rd h147 (Addr.add (Addr.mk r1 0 none) 10) (Value.slice x158.a x158.len x158.cap) ∧
 ([(Value.bool x148), (Value.int .i64 x149), (Value.int .i64 x150), (Value.slice x151.a x151.len x151.cap), (Value.slice x152.a x152.len x152.cap), (Value.slice x153.a x153.len x153.cap), (Value.slice x154.a x154.len x154.cap), (Value.slice x155.a x155.len x155.cap), (Value.slice x156.a x156.len x156.cap), (Value.slice x157.a x157.len x157.cap), (Value.slice x158.a x158.len x158.cap)]).length = 11 ∧ (Program.underlying Go.Proofs.Tryd.prog 32).isSome = true ∧
 H.wr h147 (Addr.mk r3 0 none) ([(Value.bool x148), (Value.int .i64 x149), (Value.int .i64 x150), (Value.slice x151.a x151.len x151.cap), (Value.slice x152.a x152.len x152.cap), (Value.slice x153.a x153.len x153.cap), (Value.slice x154.a x154.len x154.cap), (Value.slice x155.a x155.len x155.cap), (Value.slice x156.a x156.len x156.cap), (Value.slice x157.a x157.len x157.cap), (Value.slice x158.a x158.len x158.cap)]) fun h159 =>
 ∃ x160 : Bool, H.rd h159 (Addr.add (Addr.mk r3 0 none) 0) (Value.bool x160) ∧
 ∃ x161 : Int, H.rd h159 (Addr.add (Addr.mk r3 0 none) 1) (Value.int .i64 x161) ∧
 ∃ x162 : Int, H.rd h159 (Addr.add (Addr.mk r3 0 none) 2) (Value.int .i64 x162) ∧
 ∃ x163 : SV, H.rd h159 (Addr.add (Addr.mk r3 0 none) 3) (Value.slice x163.a x163.len x163.cap) ∧
 ∃ x164 : SV, H.rd h159 (Addr.add (Addr.mk r3 0 none) 4) (Value.slice x164.a x164.len x164.cap) ∧
 ∃ x165 : SV, H.rd h159 (Addr.add (Addr.mk r3 0 none) 5) (Value.slice x165.a x165.len x165.cap) ∧
 ∃ x166 : SV, H.rd h159 (Addr.add (Addr.mk r3 0 none) 6) (Value.slice x166.a x166.len x166.cap) ∧
 ∃ x167 : SV, H.rd h159 (Addr.add (Addr.mk r3 0 none) 7) (Value.slice x167.a x167.len x167.cap) ∧
 ∃ x168 : SV, H.rd h159 (Addr.add (Addr.mk r3 0 none) 8) (Value.slice x168.a x168.len x168.cap) ∧
 ∃ x169 : SV, H.rd h159 (Addr.add (Addr.mk r3 0 none) 9) (Value.slice x169.a x169.len x169.cap) ∧
 ∃ x170 : SV, H.rd h159 (Addr.add (Addr.mk r3 0 none) 10) (Value.slice x170.a x170.len x170.cap) ∧
 VRet h159 (Value.tuple (List.toArray [(Value.agg (List.toArray [(Value.bool x160), (Value.int .i64 x161), (Value.int .i64 x162), (Value.slice x163.a x163.len x163.cap), (Value.slice x164.a x164.len x164.cap), (Value.slice x165.a x165.len x165.cap), (Value.slice x166.a x166.len x166.cap), (Value.slice x167.a x167.len x167.cap), (Value.slice x168.a x168.len x168.cap), (Value.slice x169.a x169.len x169.cap), (Value.slice x170.a x170.len x170.cap)])), (Value.int .i64 0)])) post)

def f9_sem (p0_0_s : Bool) (p0_1_s : Int) (p0_2_s : Int) (p0_3_s : SV) (p0_4_s : SV) (p0_5_s : SV) (p0_6_s : SV) (p0_7_s : SV) (p0_8_s : SV) (p0_9_s : SV) (p0_10_s : SV) (p1_p : Int) (p2_value : Int) (h0 : H) (post : Value → H → Prop) : Prop :=
 H.new h0 [(Value.bool p0_0_s), (Value.int .i64 p0_1_s), (Value.int .i64 p0_2_s), (Value.slice p0_3_s.a p0_3_s.len p0_3_s.cap), (Value.slice p0_4_s.a p0_4_s.len p0_4_s.cap), (Value.slice p0_5_s.a p0_5_s.len p0_5_s.cap), (Value.slice p0_6_s.a p0_6_s.len p0_6_s.cap), (Value.slice p0_7_s.a p0_7_s.len p0_7_s.cap), (Value.slice p0_8_s.a p0_8_s.len p0_8_s.cap), (Value.slice p0_9_s.a p0_9_s.len p0_9_s.cap), (Value.slice p0_10_s.a p0_10_s.len p0_10_s.cap)] fun r1 h2 =>
 H.new h2 [(Value.bool false), (Value.int .i64 0), (Value.int .i64 0), (Value.slice none 0 0), (Value.slice none 0 0), (Value.slice none 0 0), (Value.slice none 0 0), (Value.slice none 0 0), (Value.slice none 0 0), (Value.slice none 0 0), (Value.slice none 0 0)] fun r3 h4 =>
 ∃ x5 : SV, H.rd h4 (Addr.add (Addr.add (Addr.mk r1 0 none) 6) 0) (Value.slice x5.a x5.len x5.cap) ∧
 In64 (((x5.len : Nat) : Int) - (1 : Int)) ∧
 SemCall Go.Proofs.Tryd.prog 30 (List.toArray [(Value.int .i64 p1_p), (Value.int .i64 0), (Value.int .i64 (((x5.len : Nat) : Int) - (1 : Int)))]) h4 fun v6 h7 =>
 ∃ x8 : Bool, v6 = (Value.bool x8) ∧
 VIf (!x8) (
 ∃ x9 : Bool, H.rd h7 (Addr.add (Addr.mk r1 0 none) 0) (Value.bool x9) ∧
 ∃ x10 : Int, H.rd h7 (Addr.add (Addr.mk r1 0 none) 1) (Value.int .i64 x10) ∧
 ∃ x11 : Int, H.rd h7 (Addr.add (Addr.mk r1 0 none) 2) (Value.int .i64 x11) ∧
 ∃ x12 : SV, H.rd h7 (Addr.add (Addr.mk r1 0 none) 3) (Value.slice x12.a x12.len x12.cap) ∧
 ∃ x13 : SV, H.rd h7 (Addr.add (Addr.mk r1 0 none) 4) (Value.slice x13.a x13.len x13.cap) ∧
 ∃ x14 : SV, H.rd h7 (Addr.add (Addr.mk r1 0 none) 5) (Value.slice x14.a x14.len x14.cap) ∧
 ∃ x15 : SV, H.rd h7 (Addr.add (Addr.mk r1 0 none) 6) (Value.slice x15.a x15.len x15.cap) ∧
 ∃ x16 : SV, H.rd h7 (Addr.add (Addr.mk r1 0 none) 7) (Value.slice x16.a x16.len x16.cap) ∧
 ∃ x17 : SV, H.rd h7 (Addr.add (Addr.mk r1 0 none) 8) (Value.slice x17.a x17.len x17.cap) ∧
 ∃ x18 : SV, H.rd h7 (Addr.add (Addr.mk r1 0 none) 9) (Value.slice x18.a x18.len x18.cap) ∧
 ∃ x19 : SV, H.rd h7 (Addr.add (Addr.mk r1 0 none) 10) (Value.slice x19.a x19.len x19.cap) ∧
 ([(Value.bool x9), (Value.int .i64 x10), (Value.int .i64 x11), (Value.slice x12.a x12.len x12.cap), (Value.slice x13.a x13.len x13.cap), (Value.slice x14.a x14.len x14.cap), (Value.slice x15.a x15.len x15.cap), (Value.slice x16.a x16.len x16.cap), (Value.slice x17.a x17.len x17.cap), (Value.slice x18.a x18.len x18.cap), (Value.slice x19.a x19.len x19.cap)]).length = 11 ∧ (Program.underlying Go.Proofs.Tryd.prog 32).isSome = true ∧
 H.wr h7 (Addr.mk r3 0 none) ([(Value.bool x9), (Value.int .i64 x10), (Value.int .i64 x11), (Value.slice x12.a x12.len x12.cap), (Value.slice x13.a x13.len x13.cap), (Value.slice x14.a x14.len x14.cap), (Value.slice x15.a x15.len x15.cap), (Value.slice x16.a x16.len x16.cap), (Value.slice x17.a x17.len x17.cap), (Value.slice x18.a x18.len x18.cap), (Value.slice x19.a x19.len x19.cap)]) fun h20 =>
 ∃ x21 : Bool, H.rd h20 (Addr.add (Addr.mk r3 0 none) 0) (Value.bool x21) ∧
 ∃ x22 : Int, H.rd h20 (Addr.add (Addr.mk r3 0 none) 1) (Value.int .i64 x22) ∧
 ∃ x23 : Int, H.rd h20 (Addr.add (Addr.mk r3 0 none) 2) (Value.int .i64 x23) ∧
 ∃ x24 : SV, H.rd h20 (Addr.add (Addr.mk r3 0 none) 3) (Value.slice x24.a x24.len x24.cap) ∧
 ∃ x25 : SV, H.rd h20 (Addr.add (Addr.mk r3 0 none) 4) (Value.slice x25.a x25.len x25.cap) ∧
 ∃ x26 : SV, H.rd h20 (Addr.add (Addr.mk r3 0 none) 5) (Value.slice x26.a x26.len x26.cap) ∧
 ∃ x27 : SV, H.rd h20 (Addr.add (Addr.mk r3 0 none) 6) (Value.slice x27.a x27.len x27.cap) ∧
 ∃ x28 : SV, H.rd h20 (Addr.add (Addr.mk r3 0 none) 7) (Value.slice x28.a x28.len x28.cap) ∧
 ∃ x29 : SV, H.rd h20 (Addr.add (Addr.mk r3 0 none) 8) (Value.slice x29.a x29.len x29.cap) ∧
 ∃ x30 : SV, H.rd h20 (Addr.add (Addr.mk r3 0 none) 9) (Value.slice x30.a x30.len x30.cap) ∧
 ∃ x31 : SV, H.rd h20 (Addr.add (Addr.mk r3 0 none) 10) (Value.slice x31.a x31.len x31.cap) ∧
 VRet h20 (Value.tuple (List.toArray [(Value.agg (List.toArray [(Value.bool x21), (Value.int .i64 x22), (Value.int .i64 x23), (Value.slice x24.a x24.len x24.cap), (Value.slice x25.a x25.len x25.cap), (Value.slice x26.a x26.len x26.cap), (Value.slice x27.a x27.len x27.cap), (Value.slice x28.a x28.len x28.cap), (Value.slice x29.a x29.len x29.cap), (Value.slice x30.a x30.len x30.cap), (Value.slice x31.a x31.len x31.cap)])), (Value.int .i64 (1 : Int))])) post) (
 ∃ x32 : SV, H.rd h7 (Addr.add (Addr.add (Addr.mk r1 0 none) 6) 0) (Value.slice x32.a x32.len x32.cap) ∧
 ∃ b33 : Addr, x32.a = some b33 ∧ 0 ≤ p1_p ∧ p1_p < ((x32.len : Nat) : Int) ∧
 ∃ x34 : Int, H.rd h7 (Addr.add (Addr.add b33 ((p1_p).toNat * 1)) 0) (Value.int .i64 x34) ∧
 VIf (x34 != (0 : Int)) (
 ∃ x35 : Bool, H.rd h7 (Addr.add (Addr.mk r1 0 none) 0) (Value.bool x35) ∧
 ∃ x36 : Int, H.rd h7 (Addr.add (Addr.mk r1 0 none) 1) (Value.int .i64 x36) ∧
 ∃ x37 : Int, H.rd h7 (Addr.add (Addr.mk r1 0 none) 2) (Value.int .i64 x37) ∧
 ∃ x38 : SV, H.rd h7 (Addr.add (Addr.mk r1 0 none) 3) (Value.slice x38.a x38.len x38.cap) ∧
 ∃ x39 : SV, H.rd h7 (Addr.add (Addr.mk r1 0 none) 4) (Value.slice x39.a x39.len x39.cap) ∧
 ∃ x40 : SV, H.rd h7 (Addr.add (Addr.mk r1 0 none) 5) (Value.slice x40.a x40.len x40.cap) ∧
 ∃ x41 : SV, H.rd h7 (Addr.add (Addr.mk r1 0 none) 6) (Value.slice x41.a x41.len x41.cap) ∧
 ∃ x42 : SV, H.rd h7 (Addr.add (Addr.mk r1 0 none) 7) (Value.slice x42.a x42.len x42.cap) ∧
 ∃ x43 : SV, H.rd h7 (Addr.add (Addr.mk r1 0 none) 8) (Value.slice x43.a x43.len x43.cap) ∧
 ∃ x44 : SV, H.rd h7 (Addr.add (Addr.mk r1 0 none) 9) (Value.slice x44.a x44.len x44.cap) ∧
 ∃ x45 : SV, H.rd h7 (Addr.add (Addr.mk r1 0 none) 10) (Value.slice x45.a x45.len x45.cap) ∧
 ([(Value.bool x35), (Value.int .i64 x36), (Value.int .i64 x37), (Value.slice x38.a x38.len x38.cap), (Value.slice x39.a x39.len x39.cap), (Value.slice x40.a x40.len x40.cap), (Value.slice x41.a x41.len x41.cap), (Value.slice x42.a x42.len x42.cap), (Value.slice x43.a x43.len x43.cap), (Value.slice x44.a x44.len x44.cap), (Value.slice x45.a x45.len x45.cap)]).length = 11 ∧ (Program.underlying Go.Proofs.Tryd.prog 32).isSome = true ∧
 H.wr h7 (Addr.mk r3 0 none) ([(Value.bool x35), (Value.int .i64 x36), (Value.int .i64 x37), (Value.slice x38.a x38.len x38.cap), (Value.slice x39.a x39.len x39.cap), (Value.slice x40.a x40.len x40.cap), (Value.slice x41.a x41.len x41.cap), (Value.slice x42.a x42.len x42.cap), (Value.slice x43.a x43.len x43.cap), (Value.slice x44.a x44.len x44.cap), (Value.slice x45.a x45.len x45.cap)]) fun h46 =>
 ∃ x47 : Bool, H.rd h46 (Addr.add (Addr.mk r3 0 none) 0) (Value.bool x47) ∧
 ∃ x48 : Int, H.rd h46 (Addr.add (Addr.mk r3 0 none) 1) (Value.int .i64 x48) ∧
 ∃ x49 : Int, H.rd h46 (Addr.add (Addr.mk r3 0 none) 2) (Value.int .i64 x49) ∧
 ∃ x50 : SV, H.rd h46 (Addr.add (Addr.mk r3 0 none) 3) (Value.slice x50.a x50.len x50.cap) ∧
 ∃ x51 : SV, H.rd h46 (Addr.add (Addr.mk r3 0 none) 4) (Value.slice x51.a x51.len x51.cap) ∧
 ∃ x52 : SV, H.rd h46 (Addr.add (Addr.mk r3 0 none) 5) (Value.slice x52.a x52.len x52.cap) ∧
 ∃ x53 : SV, H.rd h46 (Addr.add (Addr.mk r3 0 none) 6) (Value.slice x53.a x53.len x53.cap) ∧
 ∃ x54 : SV, H.rd h46 (Addr.add (Addr.mk r3 0 none) 7) (Value.slice x54.a x54.len x54.cap) ∧
 ∃ x55 : SV, H.rd h46 (Addr.add (Addr.mk r3 0 none) 8) (Value.slice x55.a x55.len x55.cap) ∧
 ∃ x56 : SV, H.rd h46 (Addr.add (Addr.mk r3 0 none) 9) (Value.slice x56.a x56.len x56.cap) ∧
 ∃ x57 : SV, H.rd h46 (Addr.add (Addr.mk r3 0 none) 10) (Value.slice x57.a x57.len x57.cap) ∧
 VRet h46 (Value.tuple (List.toArray [(Value.agg (List.toArray [(Value.bool x47), (Value.int .i64 x48), (Value.int .i64 x49), (Value.slice x50.a x50.len x50.cap), (Value.slice x51.a x51.len x51.cap), (Value.slice x52.a x52.len x52.cap), (Value.slice x53.a x53.len x53.cap), (Value.slice x54.a x54.len x54.cap), (Value.slice x55.a x55.len x55.cap), (Value.slice x56.a x56.len x56.cap), (Value.slice x57.a x57.len x57.cap)])), (Value.int .i64 (7 : Int))])) post) (
 VIf (decide (p2_value < (0 : Int))) (
 ∃ x58 : SV, H.rd h7 (Addr.add (Addr.add (Addr.mk r1 0 none) 6) 0) (Value.slice x58.a x58.len x58.cap) ∧
 SemCall Go.Proofs.Tryd.prog 31 (List.toArray [(Value.slice x58.a x58.len x58.cap), (Value.int .i64 p1_p), (Value.int .i64 (3 : Int))]) h7 fun v59 h60 =>
 ∃ x61 : SV, v59 = (Value.slice x61.a x61.len x61.cap) ∧
 H.wr h60 (Addr.add (Addr.mk r1 0 none) 6) ([(Value.slice x61.a x61.len x61.cap)]) fun h62 =>
 ∃ x63 : Bool, H.rd h62 (Addr.add (Addr.mk r1 0 none) 0) (Value.bool x63) ∧
 ∃ x64 : Int, H.rd h62 (Addr.add (Addr.mk r1 0 none) 1) (Value.int .i64 x64) ∧
 ∃ x65 : Int, H.rd h62 (Addr.add (Addr.mk r1 0 none) 2) (Value.int .i64 x65) ∧
 ∃ x66 : SV, H.rd h62 (Addr.add (Addr.mk r1 0 none) 3) (Value.slice x66.a x66.len x66.cap) ∧
 ∃ x67 : SV, H.rd h62 (Addr.add (Addr.mk r1 0 none) 4) (Value.slice x67.a x67.len x67.cap) ∧
 ∃ x68 : SV, H.rd h62 (Addr.add (Addr.mk r1 0 none) 5) (Value.slice x68.a x68.len x68.cap) ∧
 ∃ x69 : SV, H.rd h62 (Addr.add (Addr.mk r1 0 none) 6) (Value.slice x69.a x69.len x69.cap) ∧
 ∃ x70 : SV, H.rd h62 (Addr.add (Addr.mk r1 0 none) 7) (Value.slice x70.a x70.len x70.cap) ∧
 ∃ x71 : SV, H.rd h62 (Addr.add (Addr.mk r1 0 none) 8) (Value.slice x71.a x71.len x71.cap) ∧
 ∃ x72 : SV, H.rd h62 (Addr.add (Addr.mk r1 0 none) 9) (Value.slice x72.a x72.len x72.cap) ∧
 ∃ x73 : SV, H.rd h62 (Addr.add (Addr.mk r1 0 none) 10) (Value.slice x73.a x73.len x73.cap) ∧
 ([(Value.bool x63), (Value.int .i64 x64), (Value.int .i64 x65), (Value.slice x66.a x66.len x66.cap), (Value.slice x67.a x67.len x67.cap), (Value.slice x68.a x68.len x68.cap), (Value.slice x69.a x69.len x69.cap), (Value.slice x70.a x70.len x70.cap), (Value.slice x71.a x71.len x71.cap), (Value.slice x72.a x72.len x72.cap), (Value.slice x73.a x73.len x73.cap)]).length = 11 ∧ (Program.underlying Go.Proofs.Tryd.prog 32).isSome = true ∧
 H.wr h62 (Addr.mk r3 0 none) ([(Value.bool x63), (Value.int .i64 x64), (Value.int .i64 x65), (Value.slice x66.a x66.len x66.cap), (Value.slice x67.a x67.len x67.cap), (Value.slice x68.a x68.len x68.cap), (Value.slice x69.a x69.len x69.cap), (Value.slice x70.a x70.len x70.cap), (Value.slice x71.a x71.len x71.cap), (Value.slice x72.a x72.len x72.cap), (Value.slice x73.a x73.len x73.cap)]) fun h74 =>
 ∃ x75 : Bool, H.rd h74 (Addr.add (Addr.mk r3 0 none) 0) (Value.bool x75) ∧
 ∃ x76 : Int, H.rd h74 (Addr.add (Addr.mk r3 0 none) 1) (Value.int .i64 x76) ∧
 ∃ x77 : Int, H.rd h74 (Addr.add (Addr.mk r3 0 none) 2) (Value.int .i64 x77) ∧
 ∃ x78 : SV, H.rd h74 (Addr.add (Addr.mk r3 0 none) 3) (Value.slice x78.a x78.len x78.cap) ∧
 ∃ x79 : SV, H.rd h74 (Addr.add (Addr.mk r3 0 none) 4) (Value.slice x79.a x79.len x79.cap) ∧
 ∃ x80 : SV, H.rd h74 (Addr.add (Addr.mk r3 0 none) 5) (Value.slice x80.a x80.len x80.cap) ∧
 ∃ x81 : SV, H.rd h74 (Addr.add (Addr.mk r3 0 none) 6) (Value.slice x81.a x81.len x81.cap) ∧
 ∃ x82 : SV, H.rd h74 (Addr.add (Addr.mk r3 0 none) 7) (Value.slice x82.a x82.len x82.cap) ∧
 ∃ x83 : SV, H.rd h74 (Addr.add (Addr.mk r3 0 none) 8) (Value.slice x83.a x83.len x83.cap) ∧
 ∃ x84 : SV, H.rd h74 (Addr.add (Addr.mk r3 0 none) 9) (Value.slice x84.a x84.len x84.cap) ∧
 ∃ x85 : SV, H.rd h74 (Addr.add (Addr.mk r3 0 none) 10) (Value.slice x85.a x85.len x85.cap) ∧
 VRet h74 (Value.tuple (List.toArray [(Value.agg (List.toArray [(Value.bool x75), (Value.int .i64 x76), (Value.int .i64 x77), (Value.slice x78.a x78.len x78.cap), (Value.slice x79.a x79.len x79.cap), (Value.slice x80.a x80.len x80.cap), (Value.slice x81.a x81.len x81.cap), (Value.slice x82.a x82.len x82.cap), (Value.slice x83.a x83.len x83.cap), (Value.slice x84.a x84.len x84.cap), (Value.slice x85.a x85.len x85.cap)])), (Value.int .i64 0)])) post) (
 ∃ R86 : Int → H → Prop, (
 ∃ I87 : Nat → Int → H → Prop, (∃ n88, (∃ h90, Gh h7 h90 ∧ I87 n88 (0 : Int) h90)) ∧
 ∀ (n88 : Nat) (_ : F) (x91_k : Int) (h92 : H), I87 n88 x91_k h92 →
 f9_L1 r1 R86 I87 n88 x91_k h92) ∧
 ∀ (_ : F) (x103_k : Int) (h104 : H), R86 x103_k h104 →
 f9_J2 p1_p p2_value post r1 r3 x103_k h104)))

def f9_hint : Hint := (.node .leaf (.node .leaf (.node .leaf (.node .leaf (.node .leaf (.node (.join [(8, .int)] (.node (.loop [(8, .int)] (.node (.node (.join [(40, .bool)] .leaf) .leaf) .leaf)) .leaf)) .leaf))))))

theorem f9_eq (p0_0_s : Bool) (p0_1_s : Int) (p0_2_s : Int) (p0_3_s : SV) (p0_4_s : SV) (p0_5_s : SV) (p0_6_s : SV) (p0_7_s : SV) (p0_8_s : SV) (p0_9_s : SV) (p0_10_s : SV) (p1_p : Int) (p2_value : Int) (h0 : H) (post : Value → H → Prop) : exec Tryd.prog (bodyOf Tryd.f9) f9_hint (retQ Tryd.prog Tryd.f9 post) (F0 [(Value.agg (List.toArray [(Value.bool p0_0_s), (Value.int .i64 p0_1_s), (Value.int .i64 p0_2_s), (Value.slice p0_3_s.a p0_3_s.len p0_3_s.cap), (Value.slice p0_4_s.a p0_4_s.len p0_4_s.cap), (Value.slice p0_5_s.a p0_5_s.len p0_5_s.cap), (Value.slice p0_6_s.a p0_6_s.len p0_6_s.cap), (Value.slice p0_7_s.a p0_7_s.len p0_7_s.cap), (Value.slice p0_8_s.a p0_8_s.len p0_8_s.cap), (Value.slice p0_9_s.a p0_9_s.len p0_9_s.cap), (Value.slice p0_10_s.a p0_10_s.len p0_10_s.cap)])), (Value.int .i64 p1_p), (Value.int .i64 p2_value)]) h0 = f9_sem p0_0_s p0_1_s p0_2_s p0_3_s p0_4_s p0_5_s p0_6_s p0_7_s p0_8_s p0_9_s p0_10_s p1_p p2_value h0 post := by kernel_rfl

set_option maxRecDepth 20000 in
theorem f9_call (p0_0_s : Bool) (p0_1_s : Int) (p0_2_s : Int) (p0_3_s : SV) (p0_4_s : SV) (p0_5_s : SV) (p0_6_s : SV) (p0_7_s : SV) (p0_8_s : SV) (p0_9_s : SV) (p0_10_s : SV) (p1_p : Int) (p2_value : Int) (h0 : H) (post : Value → H → Prop) (hx : f9_sem p0_0_s p0_1_s p0_2_s p0_3_s p0_4_s p0_5_s p0_6_s p0_7_s p0_8_s p0_9_s p0_10_s p1_p p2_value h0 post) : SemCall Tryd.prog 9 (List.toArray [(Value.agg (List.toArray [(Value.bool p0_0_s), (Value.int .i64 p0_1_s), (Value.int .i64 p0_2_s), (Value.slice p0_3_s.a p0_3_s.len p0_3_s.cap), (Value.slice p0_4_s.a p0_4_s.len p0_4_s.cap), (Value.slice p0_5_s.a p0_5_s.len p0_5_s.cap), (Value.slice p0_6_s.a p0_6_s.len p0_6_s.cap), (Value.slice p0_7_s.a p0_7_s.len p0_7_s.cap), (Value.slice p0_8_s.a p0_8_s.len p0_8_s.cap), (Value.slice p0_9_s.a p0_9_s.len p0_9_s.cap), (Value.slice p0_10_s.a p0_10_s.len p0_10_s.cap)])), (Value.int .i64 p1_p), (Value.int .i64 p2_value)]) h0 post :=
 sem_of_exec (g := f9_hint) mixed Tryd.func9 (bodyOf_eq (by kernel_rfl)) (by kernel_rfl) ((f9_eq p0_0_s p0_1_s p0_2_s p0_3_s p0_4_s p0_5_s p0_6_s p0_7_s p0_8_s p0_9_s p0_10_s p1_p p2_value h0 post).mpr hx)

/- latchgarth/latchgarthref3.StepStack -/
def f11_J1 (p1_p : Int) (post : Value → H → Prop) (r1 : Nat) (r3 : Nat) (x34 : Int) (h155 : H) : Prop :=
 ∃ x156 : SV, H.rd h155 (Addr.add (Addr.add (Addr.mk r1 0 none) 6) 0) (Value.slice x156.a x156.len x156.cap) ∧
 In64 (x34 + (1 : Int)) ∧
 SemCall Go.Proofs.Tryd.prog 31 (List.toArray [(Value.slice x156.a x156.len x156.cap), (Value.int .i64 p1_p), (Value.int .i64 (x34 + (1 : Int)))]) h155 fun v157 h158 =>
 ∃ x159 : SV, v157 = (Value.slice x159.a x159.len x159.cap) ∧
 H.wr h158 (Addr.add (Addr.mk r1 0 none) 6) ([(Value.slice x159.a x159.len x159.cap)]) fun h160 =>
 ∃ x161 : Bool, H.rd h160 (Addr.add (Addr.mk r1 0 none) 0) (Value.bool x161) ∧
 ∃ x162 : Int, H.rd h160 (Addr.add (Addr.mk r1 0 none) 1) (Value.int .i64 x162) ∧
 ∃ x163 : Int, H.rd h160 (Addr.add (Addr.mk r1 0 none) 2) (Value.int .i64 x163) ∧
 ∃ x164 : SV, H.rd h160 (Addr.add (Addr.mk r1 0 none) 3) (Value.slice x164.a x164.len x164.cap) ∧
 ∃ x165 : SV, H.rd h160 (Addr.add (Addr.mk r1 0 none) 4) (Value.slice x165.a x165.len x165.cap) ∧
 ∃ x166 : SV, H.rd h160 (Addr.add (Addr.mk r1 0 none) 5) (Value.slice x166.a x166.len x166.cap) ∧
 ∃ x167 : SV, H.rd h160 (Addr.add (Addr.mk r1 0 none) 6) (Value.slice x167.a x167.len x167.cap) ∧
 ∃ x168 : SV, H.rd h160 (Addr.add (Addr.mk r1 0 none) 7) (Value.slice x168.a x168.len x168.cap) ∧
 ∃ x169 : SV, H.rd h160 (Addr.add (Addr.mk r1 0 none) 8) (Value.slice x169.a x169.len x169.cap) ∧
 ∃ x170 : SV, H.rd h160 (Addr.add (Addr.mk r1 0 none) 9) (Value.slice x170.a x170.len x170.cap) ∧
 ∃ x171 : SV, H.rd h160 (Addr.add (Addr.mk r1 0 none) 10) (Value.slice x171.a x171.len x171.cap) ∧
 ([(Value.bool x161), (Value.int .i64 x162), (Value.int .i64 x163), (Value.slice x164.a x164.len x164.cap), (Value.slice x165.a x165.len x165.cap), (Value.slice x166.a x166.len x166.cap), (Value.slice x167.a x167.len x167.cap), (Value.slice x168.a x168.len x168.cap), (Value.slice x169.a x169.len x169.cap), (Value.slice x170.a x170.len x170.cap), (Value.slice x171.a x171.len x171.cap)]).length = 11 ∧ (Program.underlying Go.Proofs.Tryd.prog 32).isSome = true ∧
 H.wr h160 (Addr.mk r3 0 none) ([(Value.bool x161), (Value.int .i64 x162), (Value.int .i64 x163), (Value.slice x164.a x164.len x164.cap), (Value.slice x165.a x165.len x165.cap), (Value.slice x166.a x166.len x166.cap), (Value.slice x167.a x167.len x167.cap), (Value.slice x168.a x168.len x168.cap), (Value.slice x169.a x169.len x169.cap), (Value.slice x170.a x170.len x170.cap), (Value.slice x171.a x171.len x171.cap)]) fun h172 =>
 ∃ x173 : Bool, H.rd h172 (Addr.add (Addr.mk r3 0 none) 0) (Value.bool x173) ∧
 ∃ x174 : Int, H.rd h172 (Addr.add (Addr.mk r3 0 none) 1) (Value.int .i64 x174) ∧
 ∃ x175 : Int, H.rd h172 (Addr.add (Addr.mk r3 0 none) 2) (Value.int .i64 x175) ∧
 ∃ x176 : SV, H.rd h172 (Addr.add (Addr.mk r3 0 none) 3) (Value.slice x176.a x176.len x176.cap) ∧
 ∃ x177 : SV, H.rd h172 (Addr.add (Addr.mk r3 0 none) 4) (Value.slice x177.a x177.len x177.cap) ∧
 ∃ x178 : SV, H.rd h172 (Addr.add (Addr.mk r3 0 none) 5) (Value.slice x178.a x178.len x178.cap) ∧
 ∃ x179 : SV, H.rd h172 (Addr.add (Addr.mk r3 0 none) 6) (Value.slice x179.a x179.len x179.cap) ∧
 ∃ x180 : SV, H.rd h172 (Addr.add (Addr.mk r3 0 none) 7) (Value.slice x180.a x180.len x180.cap) ∧
 ∃ x181 : SV, H.rd h172 (Addr.add (Addr.mk r3 0 none) 8) (Value.slice x181.a x181.len x181.cap) ∧
 ∃ x182 : SV, H.rd h172 (Addr.add (Addr.mk r3 0 none) 9) (Value.slice x182.a x182.len x182.cap) ∧
 ∃ x183 : SV, H.rd h172 (Addr.add (Addr.mk r3 0 none) 10) (Value.slice x183.a x183.len x183.cap) ∧
 VRet h172 (Value.tuple (List.toArray [(Value.agg (List.toArray [(Value.bool x173), (Value.int .i64 x174), (Value.int .i64 x175), (Value.slice x176.a x176.len x176.cap), (Value.slice x177.a x177.len x177.cap), (Value.slice x178.a x178.len x178.cap), (Value.slice x179.a x179.len x179.cap), (Value.slice x180.a x180.len x180.cap), (Value.slice x181.a x181.len x181.cap), (Value.slice x182.a x182.len x182.cap), (Value.slice x183.a x183.len x183.cap)])), (Value.bool false), (Value.int .i64 0), (Value.int .i64 0)])) post

def f11_J2 (p1_p : Int) (post : Value → H → Prop) (r1 : Nat) (r3 : Nat) (x200_back : Int) (h201 : H) : Prop :=
 ∃ x202 : SV, H.rd h201 (Addr.add (Addr.add (Addr.mk r1 0 none) 6) 0) (Value.slice x202.a x202.len x202.cap) ∧
 SemCall Go.Proofs.Tryd.prog 31 (List.toArray [(Value.slice x202.a x202.len x202.cap), (Value.int .i64 p1_p), (Value.int .i64 x200_back)]) h201 fun v203 h204 =>
 ∃ x205 : SV, v203 = (Value.slice x205.a x205.len x205.cap) ∧
 H.wr h204 (Addr.add (Addr.mk r1 0 none) 6) ([(Value.slice x205.a x205.len x205.cap)]) fun h206 =>
 ∃ x207 : Bool, H.rd h206 (Addr.add (Addr.mk r1 0 none) 0) (Value.bool x207) ∧
 ∃ x208 : Int, H.rd h206 (Addr.add (Addr.mk r1 0 none) 1) (Value.int .i64 x208) ∧
 ∃ x209 : Int, H.rd h206 (Addr.add (Addr.mk r1 0 none) 2) (Value.int .i64 x209) ∧
 ∃ x210 : SV, H.rd h206 (Addr.add (Addr.mk r1 0 none) 3) (Value.slice x210.a x210.len x210.cap) ∧
 ∃ x211 : SV, H.rd h206 (Addr.add (Addr.mk r1 0 none) 4) (Value.slice x211.a x211.len x211.cap) ∧
 ∃ x212 : SV, H.rd h206 (Addr.add (Addr.mk r1 0 none) 5) (Value.slice x212.a x212.len x212.cap) ∧
 ∃ x213 : SV, H.rd h206 (Addr.add (Addr.mk r1 0 none) 6) (Value.slice x213.a x213.len x213.cap) ∧
 ∃ x214 : SV, H.rd h206 (Addr.add (Addr.mk r1 0 none) 7) (Value.slice x214.a x214.len x214.cap) ∧
 ∃ x215 : SV, H.rd h206 (Addr.add (Addr.mk r1 0 none) 8) (Value.slice x215.a x215.len x215.cap) ∧
 ∃ x216 : SV, H.rd h206 (Addr.add (Addr.mk r1 0 none) 9) (Value.slice x216.a x216.len x216.cap) ∧
 ∃ x217 : SV, H.rd h206 (Addr.add (Addr.mk r1 0 none) 10) (Value.slice x217.a x217.len x217.cap) ∧
 ([(Value.bool x207), (Value.int .i64 x208), (Value.int .i64 x209), (Value.slice x210.a x210.len x210.cap), (Value.slice x211.a x211.len x211.cap), (Value.slice x212.a x212.len x212.cap), (Value.slice x213.a x213.len x213.cap), (Value.slice x214.a x214.len x214.cap), (Value.slice x215.a x215.len x215.cap), (Value.slice x216.a x216.len x216.cap), (Value.slice x217.a x217.len x217.cap)]).length = 11 ∧ (Program.underlying Go.Proofs.Tryd.prog 32).isSome = true ∧
 H.wr h206 (Addr.mk r3 0 none) ([(Value.bool x207), (Value.int .i64 x208), (Value.int .i64 x209), (Value.slice x210.a x210.len x210.cap), (Value.slice x211.a x211.len x211.cap), (Value.slice x212.a x212.len x212.cap), (Value.slice x213.a x213.len x213.cap), (Value.slice x214.a x214.len x214.cap), (Value.slice x215.a x215.len x215.cap), (Value.slice x216.a x216.len x216.cap), (Value.slice x217.a x217.len x217.cap)]) fun h218 =>
 ∃ x219 : Bool, H.rd h218 (Addr.add (Addr.mk r3 0 none) 0) (Value.bool x219) ∧
 ∃ x220 : Int, H.rd h218 (Addr.add (Addr.mk r3 0 none) 1) (Value.int .i64 x220) ∧
 ∃ x221 : Int, H.rd h218 (Addr.add (Addr.mk r3 0 none) 2) (Value.int .i64 x221) ∧
 ∃ x222 : SV, H.rd h218 (Addr.add (Addr.mk r3 0 none) 3) (Value.slice x222.a x222.len x222.cap) ∧
 ∃ x223 : SV, H.rd h218 (Addr.add (Addr.mk r3 0 none) 4) (Value.slice x223.a x223.len x223.cap) ∧
 ∃ x224 : SV, H.rd h218 (Addr.add (Addr.mk r3 0 none) 5) (Value.slice x224.a x224.len x224.cap) ∧
 ∃ x225 : SV, H.rd h218 (Addr.add (Addr.mk r3 0 none) 6) (Value.slice x225.a x225.len x225.cap) ∧
 ∃ x226 : SV, H.rd h218 (Addr.add (Addr.mk r3 0 none) 7) (Value.slice x226.a x226.len x226.cap) ∧
 ∃ x227 : SV, H.rd h218 (Addr.add (Addr.mk r3 0 none) 8) (Value.slice x227.a x227.len x227.cap) ∧
 ∃ x228 : SV, H.rd h218 (Addr.add (Addr.mk r3 0 none) 9) (Value.slice x228.a x228.len x228.cap) ∧
 ∃ x229 : SV, H.rd h218 (Addr.add (Addr.mk r3 0 none) 10) (Value.slice x229.a x229.len x229.cap) ∧
 VRet h218 (Value.tuple (List.toArray [(Value.agg (List.toArray [(Value.bool x219), (Value.int .i64 x220), (Value.int .i64 x221), (Value.slice x222.a x222.len x222.cap), (Value.slice x223.a x223.len x223.cap), (Value.slice x224.a x224.len x224.cap), (Value.slice x225.a x225.len x225.cap), (Value.slice x226.a x226.len x226.cap), (Value.slice x227.a x227.len x227.cap), (Value.slice x228.a x228.len x228.cap), (Value.slice x229.a x229.len x229.cap)])), (Value.bool false), (Value.int .i64 0), (Value.int .i64 0)])) post

def f11_J3 (p1_p : Int) (post : Value → H → Prop) (r1 : Nat) (r3 : Nat) (x34 : Int) (h236 : H) : Prop :=
 ∃ x237 : SV, H.rd h236 (Addr.add (Addr.add (Addr.mk r1 0 none) 6) 0) (Value.slice x237.a x237.len x237.cap) ∧
 SemCall Go.Proofs.Tryd.prog 31 (List.toArray [(Value.slice x237.a x237.len x237.cap), (Value.int .i64 p1_p), (Value.int .i64 0)]) h236 fun v238 h239 =>
 ∃ x240 : SV, v238 = (Value.slice x240.a x240.len x240.cap) ∧
 H.wr h239 (Addr.add (Addr.mk r1 0 none) 6) ([(Value.slice x240.a x240.len x240.cap)]) fun h241 =>
 VIf (x34 == (2 : Int)) (
 ∃ x242 : SV, H.rd h241 (Addr.add (Addr.add (Addr.mk r1 0 none) 7) 0) (Value.slice x242.a x242.len x242.cap) ∧
 ∃ b243 : Addr, x242.a = some b243 ∧ 0 ≤ p1_p ∧ p1_p < ((x242.len : Nat) : Int) ∧
 ∃ x244 : Int, H.rd h241 (Addr.add (Addr.add b243 ((p1_p).toNat * 1)) 0) (Value.int .i64 x244) ∧
 H.wr h241 (Addr.add (Addr.mk r1 0 none) 1) ([(Value.int .i64 x244)]) fun h245 =>
 ∃ x246 : Bool, H.rd h245 (Addr.add (Addr.mk r1 0 none) 0) (Value.bool x246) ∧
 ∃ x247 : Int, H.rd h245 (Addr.add (Addr.mk r1 0 none) 1) (Value.int .i64 x247) ∧
 ∃ x248 : Int, H.rd h245 (Addr.add (Addr.mk r1 0 none) 2) (Value.int .i64 x248) ∧
 ∃ x249 : SV, H.rd h245 (Addr.add (Addr.mk r1 0 none) 3) (Value.slice x249.a x249.len x249.cap) ∧
 ∃ x250 : SV, H.rd h245 (Addr.add (Addr.mk r1 0 none) 4) (Value.slice x250.a x250.len x250.cap) ∧
 ∃ x251 : SV, H.rd h245 (Addr.add (Addr.mk r1 0 none) 5) (Value.slice x251.a x251.len x251.cap) ∧
 ∃ x252 : SV, H.rd h245 (Addr.add (Addr.mk r1 0 none) 6) (Value.slice x252.a x252.len x252.cap) ∧
 ∃ x253 : SV, H.rd h245 (Addr.add (Addr.mk r1 0 none) 7) (Value.slice x253.a x253.len x253.cap) ∧
 ∃ x254 : SV, H.rd h245 (Addr.add (Addr.mk r1 0 none) 8) (Value.slice x254.a x254.len x254.cap) ∧
 ∃ x255 : SV, H.rd h245 (Addr.add (Addr.mk r1 0 none) 9) (Value.slice x255.a x255.len x255.cap) ∧
 ∃ x256 : SV, H.rd h245 (Addr.add (Addr.mk r1 0 none) 10) (Value.slice x256.a x256.len x256.cap) ∧
 ([(Value.bool x246), (Value.int .i64 x247), (Value.int .i64 x248), (Value.slice x249.a x249.len x249.cap), (Value.slice x250.a x250.len x250.cap), (Value.slice x251.a x251.len x251.cap), (Value.slice x252.a x252.len x252.cap), (Value.slice x253.a x253.len x253.cap), (Value.slice x254.a x254.len x254.cap), (Value.slice x255.a x255.len x255.cap), (Value.slice x256.a x256.len x256.cap)]).length = 11 ∧ (Program.underlying Go.Proofs.Tryd.prog 32).isSome = true ∧
 H.wr h245 (Addr.mk r3 0 none) ([(Value.bool x246), (Value.int .i64 x247), (Value.int .i64 x248), (Value.slice x249.a x249.len x249.cap), (Value.slice x250.a x250.len x250.cap), (Value.slice x251.a x251.len x251.cap), (Value.slice x252.a x252.len x252.cap), (Value.slice x253.a x253.len x253.cap), (Value.slice x254.a x254.len x254.cap), (Value.slice x255.a x255.len x255.cap), (Value.slice x256.a x256.len x256.cap)]) fun h257 =>
 ∃ x258 : Bool, H.rd h257 (Addr.add (Addr.mk r3 0 none) 0) (Value.bool x258) ∧
 ∃ x259 : Int, H.rd h257 (Addr.add (Addr.mk r3 0 none) 1) (Value.int .i64 x259) ∧
 ∃ x260 : Int, H.rd h257 (Addr.add (Addr.mk r3 0 none) 2) (Value.int .i64 x260) ∧
 ∃ x261 : SV, H.rd h257 (Addr.add (Addr.mk r3 0 none) 3) (Value.slice x261.a x261.len x261.cap) ∧
 ∃ x262 : SV, H.rd h257 (Addr.add (Addr.mk r3 0 none) 4) (Value.slice x262.a x262.len x262.cap) ∧
 ∃ x263 : SV, H.rd h257 (Addr.add (Addr.mk r3 0 none) 5) (Value.slice x263.a x263.len x263.cap) ∧
 ∃ x264 : SV, H.rd h257 (Addr.add (Addr.mk r3 0 none) 6) (Value.slice x264.a x264.len x264.cap) ∧
 ∃ x265 : SV, H.rd h257 (Addr.add (Addr.mk r3 0 none) 7) (Value.slice x265.a x265.len x265.cap) ∧
 ∃ x266 : SV, H.rd h257 (Addr.add (Addr.mk r3 0 none) 8) (Value.slice x266.a x266.len x266.cap) ∧
 ∃ x267 : SV, H.rd h257 (Addr.add (Addr.mk r3 0 none) 9) (Value.slice x267.a x267.len x267.cap) ∧
 ∃ x268 : SV, H.rd h257 (Addr.add (Addr.mk r3 0 none) 10) (Value.slice x268.a x268.len x268.cap) ∧
 VRet h257 (Value.tuple (List.toArray [(Value.agg (List.toArray [(Value.bool x258), (Value.int .i64 x259), (Value.int .i64 x260), (Value.slice x261.a x261.len x261.cap), (Value.slice x262.a x262.len x262.cap), (Value.slice x263.a x263.len x263.cap), (Value.slice x264.a x264.len x264.cap), (Value.slice x265.a x265.len x265.cap), (Value.slice x266.a x266.len x266.cap), (Value.slice x267.a x267.len x267.cap), (Value.slice x268.a x268.len x268.cap)])), (Value.bool true), (Value.int .i64 (-1 : Int)), (Value.int .i64 0)])) post) (
 ∃ x269 : SV, H.rd h241 (Addr.add (Addr.add (Addr.mk r1 0 none) 10) 0) (Value.slice x269.a x269.len x269.cap) ∧
 ∃ b270 : Addr, x269.a = some b270 ∧ 0 ≤ p1_p ∧ p1_p < ((x269.len : Nat) : Int) ∧
 ∃ x271 : Int, H.rd h241 (Addr.add (Addr.add b270 ((p1_p).toNat * 1)) 0) (Value.int .i64 x271) ∧
 H.wr h241 (Addr.add (Addr.mk r1 0 none) 1) ([(Value.int .i64 x271)]) fun h272 =>
 ∃ x273 : SV, H.rd h272 (Addr.add (Addr.add (Addr.mk r1 0 none) 5) 0) (Value.slice x273.a x273.len x273.cap) ∧
 ∃ x274 : SV, H.rd h272 (Addr.add (Addr.add (Addr.mk r1 0 none) 8) 0) (Value.slice x274.a x274.len x274.cap) ∧
 ∃ b275 : Addr, x274.a = some b275 ∧ 0 ≤ p1_p ∧ p1_p < ((x274.len : Nat) : Int) ∧
 ∃ x276 : Int, H.rd h272 (Addr.add (Addr.add b275 ((p1_p).toNat * 1)) 0) (Value.int .i64 x276) ∧
 SemCall Go.Proofs.Tryd.prog 32 (List.toArray [(Value.slice x273.a x273.len x273.cap), (Value.int .i64 x276), (Value.bool false)]) h272 fun v277 h278 =>
 ∃ x279 : SV, v277 = (Value.slice x279.a x279.len x279.cap) ∧
 H.wr h278 (Addr.add (Addr.mk r1 0 none) 5) ([(Value.slice x279.a x279.len x279.cap)]) fun h280 =>
 (
 ∃ x281 : Bool, H.rd h280 (Addr.add (Addr.mk r1 0 none) 0) (Value.bool x281) ∧
 ∃ x282 : Int, H.rd h280 (Addr.add (Addr.mk r1 0 none) 1) (Value.int .i64 x282) ∧
 ∃ x283 : Int, H.rd h280 (Addr.add (Addr.mk r1 0 none) 2) (Value.int .i64 x283) ∧
 ∃ x284 : SV, H.rd h280 (Addr.add (Addr.mk r1 0 none) 3) (Value.slice x284.a x284.len x284.cap) ∧
 ∃ x285 : SV, H.rd h280 (Addr.add (Addr.mk r1 0 none) 4) (Value.slice x285.a x285.len x285.cap) ∧
 ∃ x286 : SV, H.rd h280 (Addr.add (Addr.mk r1 0 none) 5) (Value.slice x286.a x286.len x286.cap) ∧
 ∃ x287 : SV, H.rd h280 (Addr.add (Addr.mk r1 0 none) 6) (Value.slice x287.a x287.len x287.cap) ∧
 ∃ x288 : SV, H.rd h280 (Addr.add (Addr.mk r1 0 none) 7) (Value.slice x288.a x288.len x288.cap) ∧
 ∃ x289 : SV, H.rd h280 (Addr.add (Addr.mk r1 0 none) 8) (Value.slice x289.a x289.len x289.cap) ∧
 ∃ x290 : SV, H.rd h280 (Addr.add (Addr.mk r1 0 none) 9) (Value.slice x290.a x290.len x290.cap) ∧
 ∃ x291 : SV, H.rd h280 (Addr.add (Addr.mk r1 0 none) 10) (Value.slice x291.a x291.len x291.cap) ∧
 (
 ∃ x292 : SV, H.rd h280 (Addr.add (Addr.add (Addr.mk r1 0 none) 3) 0) (Value.slice x292.a x292.len x292.cap) ∧
 (
 ∃ x293 : SV, H.rd h280 (Addr.add (Addr.add (Addr.mk r1 0 none) 8) 0) (Value.slice x293.a x293.len x293.cap) ∧
 ∃ b294 : Addr, x293.a = some b294 ∧ 0 ≤ p1_p ∧ p1_p < ((x293.len : Nat) : Int) ∧
 (
 ∃ x295 : Int, H.rd h280 (Addr.add (Addr.add b294 ((p1_p).toNat * 1)) 0) (Value.int .i64 x295) ∧
 ∃ b296 : Addr, x292.a = some b296 ∧ 0 ≤ x295 ∧ x295 < ((x292.len : Nat) : Int) ∧
 (
 ∃ x297 : Int, H.rd h280 (Addr.add (Addr.add b296 ((x295).toNat * 1)) 0) (Value.int .i64 x297) ∧
 ([(Value.bool x281), (Value.int .i64 x282), (Value.int .i64 x283), (Value.slice x284.a x284.len x284.cap), (Value.slice x285.a x285.len x285.cap), (Value.slice x286.a x286.len x286.cap), (Value.slice x287.a x287.len x287.cap), (Value.slice x288.a x288.len x288.cap), (Value.slice x289.a x289.len x289.cap), (Value.slice x290.a x290.len x290.cap), (Value.slice x291.a x291.len x291.cap)]).length = 11 ∧ (Program.underlying Go.Proofs.Tryd.prog 32).isSome = true ∧
 H.wr h280 (Addr.mk r3 0 none) ([(Value.bool x281), (Value.int .i64 x282), (Value.int .i64 x283), (Value.slice x284.a x284.len x284.cap), (Value.slice x285.a x285.len x285.cap), (Value.slice x286.a x286.len x286.cap), (Value.slice x287.a x287.len x287.cap), (Value.slice x288.a x288.len x288.cap), (Value.slice x289.a x289.len x289.cap), (Value.slice x290.a x290.len x290.cap), (Value.slice x291.a x291.len x291.cap)]) fun h298 =>
 ∃ x299 : Bool, H.rd h298 (Addr.add (Addr.mk r3 0 none) 0) (Value.bool x299) ∧
 ∃ x300 : Int, H.rd h298 (Addr.add (Addr.mk r3 0 none) 1) (Value.int .i64 x300) ∧
 ∃ x301 : Int, H.rd h298 (Addr.add (Addr.mk r3 0 none) 2) (Value.int .i64 x301) ∧
 ∃ x302 : SV, H.rd h298 (Addr.add (Addr.mk r3 0 none) 3) (Value.slice x302.a x302.len x302.cap) ∧
 ∃ x303 : SV, H.rd h298 (Addr.add (Addr.mk r3 0 none) 4) (Value.slice x303.a x303.len x303.cap) ∧
 ∃ x304 : SV, H.rd h298 (Addr.add (Addr.mk r3 0 none) 5) (Value.slice x304.a x304.len x304.cap) ∧
 ∃ x305 : SV, H.rd h298 (Addr.add (Addr.mk r3 0 none) 6) (Value.slice x305.a x305.len x305.cap) ∧
 ∃ x306 : SV, H.rd h298 (Addr.add (Addr.mk r3 0 none) 7) (Value.slice x306.a x306.len x306.cap) ∧
 ∃ x307 : SV, H.rd h298 (Addr.add (Addr.mk r3 0 none) 8) (Value.slice x307.a x307.len x307.cap) ∧
 ∃ x308 : SV, H.rd h298 (Addr.add (Addr.mk r3 0 none) 9) (Value.slice x308.a x308.len x308.cap) ∧
 ∃ x309 : SV, H.rd h298 (Addr.add (Addr.mk r3 0 none) 10) (Value.slice x309.a x309.len x309.cap) ∧
 VRet h298 (Value.tuple (List.toArray [(Value.agg (List.toArray [(Value.bool x299), (Value.int .i64 x300), (Value.int .i64 x301), (Value.slice x302.a x302.len x302.cap), (Value.slice x303.a x303.len x303.cap), (Value.slice x304.a x304.len x304.cap), (Value.slice x305.a x305.len x305.cap), (Value.slice x306.a x306.len x306.cap), (Value.slice x307.a x307.len x307.cap), (Value.slice x308.a x308.len x308.cap), (Value.slice x309.a x309.len x309.cap)])), (Value.bool true), (Value.int .i64 x297), (Value.int .i64 0)])) post) ∧
 (
 ([(Value.bool x281), (Value.int .i64 x282), (Value.int .i64 x283), (Value.slice x284.a x284.len x284.cap), (Value.slice x285.a x285.len x285.cap), (Value.slice x286.a x286.len x286.cap), (Value.slice x287.a x287.len x287.cap), (Value.slice x288.a x288.len x288.cap), (Value.slice x289.a x289.len x289.cap), (Value.slice x290.a x290.len x290.cap), (Value.slice x291.a x291.len x291.cap)]).length = 11 ∧ (Program.underlying Go.Proofs.Tryd.prog 32).isSome = true ∧
 H.wr h280 (Addr.mk r3 0 none) ([(Value.bool x281), (Value.int .i64 x282), (Value.int .i64 x283), (Value.slice x284.a x284.len x284.cap), (Value.slice x285.a x285.len x285.cap), (Value.slice x286.a x286.len x286.cap), (Value.slice x287.a x287.len x287.cap), (Value.slice x288.a x288.len x288.cap), (Value.slice x289.a x289.len x289.cap), (Value.slice x290.a x290.len x290.cap), (Value.slice x291.a x291.len x291.cap)]) fun h310 =>
 ∃ x311 : Int, H.rd h310 (Addr.add (Addr.add b296 ((x295).toNat * 1)) 0) (Value.int .i64 x311) ∧
 ∃ x312 : Bool, H.rd h310 (Addr.add (Addr.mk r3 0 none) 0) (Value.bool x312) ∧
 ∃ x313 : Int, H.rd h310 (Addr.add (Addr.mk r3 0 none) 1) (Value.int .i64 x313) ∧
 ∃ x314 : Int, H.rd h310 (Addr.add (Addr.mk r3 0 none) 2) (Value.int .i64 x314) ∧
 ∃ x315 : SV, H.rd h310 (Addr.add (Addr.mk r3 0 none) 3) (Value.slice x315.a x315.len x315.cap) ∧
 ∃ x316 : SV, H.rd h310 (Addr.add (Addr.mk r3 0 none) 4) (Value.slice x316.a x316.len x316.cap) ∧
 ∃ x317 : SV, H.rd h310 (Addr.add (Addr.mk r3 0 none) 5) (Value.slice x317.a x317.len x317.cap) ∧
 ∃ x318 : SV, H.rd h310 (Addr.add (Addr.mk r3 0 none) 6) (Value.slice x318.a x318.len x318.cap) ∧
 ∃ x319 : SV, H.rd h310 (Addr.add (Addr.mk r3 0 none) 7) (Value.slice x319.a x319.len x319.cap) ∧
 ∃ x320 : SV, H.rd h310 (Addr.add (Addr.mk r3 0 none) 8) (Value.slice x320.a x320.len x320.cap) ∧
 ∃ x321 : SV, H.rd h310 (Addr.add (Addr.mk r3 0 none) 9) (Value.slice x321.a x321.len x321.cap) ∧
 ∃ x322 : SV, H.rd h310 (Addr.add (Addr.mk r3 0 none) 10) (Value.slice x322.a x322.len x322.cap) ∧
 VRet h310 (Value.tuple (List.toArray [(Value.agg (List.toArray [(Value.bool x312), (Value.int .i64 x313), (Value.int .i64 x314), (Value.slice x315.a x315.len x315.cap), (Value.slice x316.a x316.len x316.cap), (Value.slice x317.a x317.len x317.cap), (Value.slice x318.a x318.len x318.cap), (Value.slice x319.a x319.len x319.cap), (Value.slice x320.a x320.len x320.cap), (Value.slice x321.a x321.len x321.cap), (Value.slice x322.a x322.len x322.cap)])), (Value.bool true), (Value.int .i64 x311), (Value.int .i64 0)])) post)) ∧
 (
 ([(Value.bool x281), (Value.int .i64 x282), (Value.int .i64 x283), (Value.slice x284.a x284.len x284.cap), (Value.slice x285.a x285.len x285.cap), (Value.slice x286.a x286.len x286.cap), (Value.slice x287.a x287.len x287.cap), (Value.slice x288.a x288.len x288.cap), (Value.slice x289.a x289.len x289.cap), (Value.slice x290.a x290.len x290.cap), (Value.slice x291.a x291.len x291.cap)]).length = 11 ∧ (Program.underlying Go.Proofs.Tryd.prog 32).isSome = true ∧
 H.wr h280 (Addr.mk r3 0 none) ([(Value.bool x281), (Value.int .i64 x282), (Value.int .i64 x283), (Value.slice x284.a x284.len x284.cap), (Value.slice x285.a x285.len x285.cap), (Value.slice x286.a x286.len x286.cap), (Value.slice x287.a x287.len x287.cap), (Value.slice x288.a x288.len x288.cap), (Value.slice x289.a x289.len x289.cap), (Value.slice x290.a x290.len x290.cap), (Value.slice x291.a x291.len x291.cap)]) fun h323 =>
 ∃ x324 : Int, H.rd h323 (Addr.add (Addr.add b294 ((p1_p).toNat * 1)) 0) (Value.int .i64 x324) ∧
 ∃ b325 : Addr, x292.a = some b325 ∧ 0 ≤ x324 ∧ x324 < ((x292.len : Nat) : Int) ∧
 ∃ x326 : Int, H.rd h323 (Addr.add (Addr.add b325 ((x324).toNat * 1)) 0) (Value.int .i64 x326) ∧
 ∃ x327 : Bool, H.rd h323 (Addr.add (Addr.mk r3 0 none) 0) (Value.bool x327) ∧
 ∃ x328 : Int, H.rd h323 (Addr.add (Addr.mk r3 0 none) 1) (Value.int .i64 x328) ∧
 ∃ x329 : Int, H.rd h323 (Addr.add (Addr.mk r3 0 none) 2) (Value.int .i64 x329) ∧
 ∃ x330 : SV, H.rd h323 (Addr.add (Addr.mk r3 0 none) 3) (Value.slice x330.a x330.len x330.cap) ∧
 ∃ x331 : SV, H.rd h323 (Addr.add (Addr.mk r3 0 none) 4) (Value.slice x331.a x331.len x331.cap) ∧
 ∃ x332 : SV, H.rd h323 (Addr.add (Addr.mk r3 0 none) 5) (Value.slice x332.a x332.len x332.cap) ∧
 ∃ x333 : SV, H.rd h323 (Addr.add (Addr.mk r3 0 none) 6) (Value.slice x333.a x333.len x333.cap) ∧
 ∃ x334 : SV, H.rd h323 (Addr.add (Addr.mk r3 0 none) 7) (Value.slice x334.a x334.len x334.cap) ∧
 ∃ x335 : SV, H.rd h323 (Addr.add (Addr.mk r3 0 none) 8) (Value.slice x335.a x335.len x335.cap) ∧
 ∃ x336 : SV, H.rd h323 (Addr.add (Addr.mk r3 0 none) 9) (Value.slice x336.a x336.len x336.cap) ∧
 ∃ x337 : SV, H.rd h323 (Addr.add (Addr.mk r3 0 none) 10) (Value.slice x337.a x337.len x337.cap) ∧
 VRet h323 (Value.tuple (List.toArray [(Value.agg (List.toArray [(Value.bool x327), (Value.int .i64 x328), (Value.int .i64 x329), (Value.slice x330.a x330.len x330.cap), (Value.slice x331.a x331.len x331.cap), (Value.slice x332.a x332.len x332.cap), (Value.slice x333.a x333.len x333.cap), (Value.slice x334.a x334.len x334.cap), (Value.slice x335.a x335.len x335.cap), (Value.slice x336.a x336.len x336.cap), (Value.slice x337.a x337.len x337.cap)])), (Value.bool true), (Value.int .i64 x326), (Value.int .i64 0)])) post)) ∧
 (
 ([(Value.bool x281), (Value.int .i64 x282), (Value.int .i64 x283), (Value.slice x284.a x284.len x284.cap), (Value.slice x285.a x285.len x285.cap), (Value.slice x286.a x286.len x286.cap), (Value.slice x287.a x287.len x287.cap), (Value.slice x288.a x288.len x288.cap), (Value.slice x289.a x289.len x289.cap), (Value.slice x290.a x290.len x290.cap), (Value.slice x291.a x291.len x291.cap)]).length = 11 ∧ (Program.underlying Go.Proofs.Tryd.prog 32).isSome = true ∧
 H.wr h280 (Addr.mk r3 0 none) ([(Value.bool x281), (Value.int .i64 x282), (Value.int .i64 x283), (Value.slice x284.a x284.len x284.cap), (Value.slice x285.a x285.len x285.cap), (Value.slice x286.a x286.len x286.cap), (Value.slice x287.a x287.len x287.cap), (Value.slice x288.a x288.len x288.cap), (Value.slice x289.a x289.len x289.cap), (Value.slice x290.a x290.len x290.cap), (Value.slice x291.a x291.len x291.cap)]) fun h338 =>
 ∃ x339 : SV, H.rd h338 (Addr.add (Addr.add (Addr.mk r1 0 none) 8) 0) (Value.slice x339.a x339.len x339.cap) ∧
 ∃ b340 : Addr, x339.a = some b340 ∧ 0 ≤ p1_p ∧ p1_p < ((x339.len : Nat) : Int) ∧
 ∃ x341 : Int, H.rd h338 (Addr.add (Addr.add b340 ((p1_p).toNat * 1)) 0) (Value.int .i64 x341) ∧
 ∃ b342 : Addr, x292.a = some b342 ∧ 0 ≤ x341 ∧ x341 < ((x292.len : Nat) : Int) ∧
 ∃ x343 : Int, H.rd h338 (Addr.add (Addr.add b342 ((x341).toNat * 1)) 0) (Value.int .i64 x343) ∧
 ∃ x344 : Bool, H.rd h338 (Addr.add (Addr.mk r3 0 none) 0) (Value.bool x344) ∧
 ∃ x345 : Int, H.rd h338 (Addr.add (Addr.mk r3 0 none) 1) (Value.int .i64 x345) ∧
 ∃ x346 : Int, H.rd h338 (Addr.add (Addr.mk r3 0 none) 2) (Value.int .i64 x346) ∧
 ∃ x347 : SV, H.rd h338 (Addr.add (Addr.mk r3 0 none) 3) (Value.slice x347.a x347.len x347.cap) ∧
 ∃ x348 : SV, H.rd h338 (Addr.add (Addr.mk r3 0 none) 4) (Value.slice x348.a x348.len x348.cap) ∧
 ∃ x349 : SV, H.rd h338 (Addr.add (Addr.mk r3 0 none) 5) (Value.slice x349.a x349.len x349.cap) ∧
 ∃ x350 : SV, H.rd h338 (Addr.add (Addr.mk r3 0 none) 6) (Value.slice x350.a x350.len x350.cap) ∧
 ∃ x351 : SV, H.rd h338 (Addr.add (Addr.mk r3 0 none) 7) (Value.slice x351.a x351.len x351.cap) ∧
 ∃ x352 : SV, H.rd h338 (Addr.add (Addr.mk r3 0 none) 8) (Value.slice x352.a x352.len x352.cap) ∧
 ∃ x353 : SV, H.rd h338 (Addr.add (Addr.mk r3 0 none) 9) (Value.slice x353.a x353.len x353.cap) ∧
 ∃ x354 : SV, H.rd h338 (Addr.add (Addr.mk r3 0 none) 10) (Value.slice x354.a x354.len x354.cap) ∧
 VRet h338 (Value.tuple (List.toArray [(Value.agg (List.toArray [(Value.bool x344), (Value.int .i64 x345), (Value.int .i64 x346), (Value.slice x347.a x347.len x347.cap), (Value.slice x348.a x348.len x348.cap), (Value.slice x349.a x349.len x349.cap), (Value.slice x350.a x350.len x350.cap), (Value.slice x351.a x351.len x351.cap), (Value.slice x352.a x352.len x352.cap), (Value.slice x353.a x353.len x353.cap), (Value.slice x354.a x354.len x354.cap)])), (Value.bool true), (Value.int .i64 x343), (Value.int .i64 0)])) post)) ∧
 (
 (
 ∃ x355 : SV, H.rd h280 (Addr.add (Addr.add (Addr.mk r1 0 none) 8) 0) (Value.slice x355.a x355.len x355.cap) ∧
 ∃ b356 : Addr, x355.a = some b356 ∧ 0 ≤ p1_p ∧ p1_p < ((x355.len : Nat) : Int) ∧
 (
 ∃ x357 : SV, H.rd h280 (Addr.add (Addr.add (Addr.mk r1 0 none) 3) 0) (Value.slice x357.a x357.len x357.cap) ∧
 (
 ∃ x358 : Int, H.rd h280 (Addr.add (Addr.add b356 ((p1_p).toNat * 1)) 0) (Value.int .i64 x358) ∧
 ∃ b359 : Addr, x357.a = some b359 ∧ 0 ≤ x358 ∧ x358 < ((x357.len : Nat) : Int) ∧
 (
 ∃ x360 : Int, H.rd h280 (Addr.add (Addr.add b359 ((x358).toNat * 1)) 0) (Value.int .i64 x360) ∧
 ([(Value.bool x281), (Value.int .i64 x282), (Value.int .i64 x283), (Value.slice x284.a x284.len x284.cap), (Value.slice x285.a x285.len x285.cap), (Value.slice x286.a x286.len x286.cap), (Value.slice x287.a x287.len x287.cap), (Value.slice x288.a x288.len x288.cap), (Value.slice x289.a x289.len x289.cap), (Value.slice x290.a x290.len x290.cap), (Value.slice x291.a x291.len x291.cap)]).length = 11 ∧ (Program.underlying Go.Proofs.Tryd.prog 32).isSome = true ∧
 H.wr h280 (Addr.mk r3 0 none) ([(Value.bool x281), (Value.int .i64 x282), (Value.int .i64 x283), (Value.slice x284.a x284.len x284.cap), (Value.slice x285.a x285.len x285.cap), (Value.slice x286.a x286.len x286.cap), (Value.slice x287.a x287.len x287.cap), (Value.slice x288.a x288.len x288.cap), (Value.slice x289.a x289.len x289.cap), (Value.slice x290.a x290.len x290.cap), (Value.slice x291.a x291.len x291.cap)]) fun h361 =>
 ∃ x362 : Bool, H.rd h361 (Addr.add (Addr.mk r3 0 none) 0) (Value.bool x362) ∧
 ∃ x363 : Int, H.rd h361 (Addr.add (Addr.mk r3 0 none) 1) (Value.int .i64 x363) ∧
 ∃ x364 : Int, H.rd h361 (Addr.add (Addr.mk r3 0 none) 2) (Value.int .i64 x364) ∧
 ∃ x365 : SV, H.rd h361 (Addr.add (Addr.mk r3 0 none) 3) (Value.slice x365.a x365.len x365.cap) ∧
 ∃ x366 : SV, H.rd h361 (Addr.add (Addr.mk r3 0 none) 4) (Value.slice x366.a x366.len x366.cap) ∧
 ∃ x367 : SV, H.rd h361 (Addr.add (Addr.mk r3 0 none) 5) (Value.slice x367.a x367.len x367.cap) ∧
 ∃ x368 : SV, H.rd h361 (Addr.add (Addr.mk r3 0 none) 6) (Value.slice x368.a x368.len x368.cap) ∧
 ∃ x369 : SV, H.rd h361 (Addr.add (Addr.mk r3 0 none) 7) (Value.slice x369.a x369.len x369.cap) ∧
 ∃ x370 : SV, H.rd h361 (Addr.add (Addr.mk r3 0 none) 8) (Value.slice x370.a x370.len x370.cap) ∧
 ∃ x371 : SV, H.rd h361 (Addr.add (Addr.mk r3 0 none) 9) (Value.slice x371.a x371.len x371.cap) ∧
 ∃ x372 : SV, H.rd h361 (Addr.add (Addr.mk r3 0 none) 10) (Value.slice x372.a x372.len x372.cap) ∧
 VRet h361 (Value.tuple (List.toArray [(Value.agg (List.toArray [(Value.bool x362), (Value.int .i64 x363), (Value.int .i64 x364), (Value.slice x365.a x365.len x365.cap), (Value.slice x366.a x366.len x366.cap), (Value.slice x367.a x367.len x367.cap), (Value.slice x368.a x368.len x368.cap), (Value.slice x369.a x369.len x369.cap), (Value.slice x370.a x370.len x370.cap), (Value.slice x371.a x371.len x371.cap), (Value.slice x372.a x372.len x372.cap)])), (Value.bool true), (Value.int .i64 x360), (Value.int .i64 0)])) post) ∧
 (
 ([(Value.bool x281), (Value.int .i64 x282), (Value.int .i64 x283), (Value.slice x284.a x284.len x284.cap), (Value.slice x285.a x285.len x285.cap), (Value.slice x286.a x286.len x286.cap), (Value.slice x287.a x287.len x287.cap), (Value.slice x288.a x288.len x288.cap), (Value.slice x289.a x289.len x289.cap), (Value.slice x290.a x290.len x290.cap), (Value.slice x291.a x291.len x291.cap)]).length = 11 ∧ (Program.underlying Go.Proofs.Tryd.prog 32).isSome = true ∧
 H.wr h280 (Addr.mk r3 0 none) ([(Value.bool x281), (Value.int .i64 x282), (Value.int .i64 x283), (Value.slice x284.a x284.len x284.cap), (Value.slice x285.a x285.len x285.cap), (Value.slice x286.a x286.len x286.cap), (Value.slice x287.a x287.len x287.cap), (Value.slice x288.a x288.len x288.cap), (Value.slice x289.a x289.len x289.cap), (Value.slice x290.a x290.len x290.cap), (Value.slice x291.a x291.len x291.cap)]) fun h373 =>
 ∃ x374 : Int, H.rd h373 (Addr.add (Addr.add b359 ((x358).toNat * 1)) 0) (Value.int .i64 x374) ∧
 ∃ x375 : Bool, H.rd h373 (Addr.add (Addr.mk r3 0 none) 0) (Value.bool x375) ∧
 ∃ x376 : Int, H.rd h373 (Addr.add (Addr.mk r3 0 none) 1) (Value.int .i64 x376) ∧
 ∃ x377 : Int, H.rd h373 (Addr.add (Addr.mk r3 0 none) 2) (Value.int .i64 x377) ∧
 ∃ x378 : SV, H.rd h373 (Addr.add (Addr.mk r3 0 none) 3) (Value.slice x378.a x378.len x378.cap) ∧
 ∃ x379 : SV, H.rd h373 (Addr.add (Addr.mk r3 0 none) 4) (Value.slice x379.a x379.len x379.cap) ∧
 ∃ x380 : SV, H.rd h373 (Addr.add (Addr.mk r3 0 none) 5) (Value.slice x380.a x380.len x380.cap) ∧
 ∃ x381 : SV, H.rd h373 (Addr.add (Addr.mk r3 0 none) 6) (Value.slice x381.a x381.len x381.cap) ∧
 ∃ x382 : SV, H.rd h373 (Addr.add (Addr.mk r3 0 none) 7) (Value.slice x382.a x382.len x382.cap) ∧
 ∃ x383 : SV, H.rd h373 (Addr.add (Addr.mk r3 0 none) 8) (Value.slice x383.a x383.len x383.cap) ∧
 ∃ x384 : SV, H.rd h373 (Addr.add (Addr.mk r3 0 none) 9) (Value.slice x384.a x384.len x384.cap) ∧
 ∃ x385 : SV, H.rd h373 (Addr.add (Addr.mk r3 0 none) 10) (Value.slice x385.a x385.len x385.cap) ∧
 VRet h373 (Value.tuple (List.toArray [(Value.agg (List.toArray [(Value.bool x375), (Value.int .i64 x376), (Value.int .i64 x377), (Value.slice x378.a x378.len x378.cap), (Value.slice x379.a x379.len x379.cap), (Value.slice x380.a x380.len x380.cap), (Value.slice x381.a x381.len x381.cap), (Value.slice x382.a x382.len x382.cap), (Value.slice x383.a x383.len x383.cap), (Value.slice x384.a x384.len x384.cap), (Value.slice x385.a x385.len x385.cap)])), (Value.bool true), (Value.int .i64 x374), (Value.int .i64 0)])) post)) ∧
 (
 ([(Value.bool x281), (Value.int .i64 x282), (Value.int .i64 x283), (Value.slice x284.a x284.len x284.cap), (Value.slice x285.a x285.len x285.cap), (Value.slice x286.a x286.len x286.cap), (Value.slice x287.a x287.len x287.cap), (Value.slice x288.a x288.len x288.cap), (Value.slice x289.a x289.len x289.cap), (Value.slice x290.a x290.len x290.cap), (Value.slice x291.a x291.len x291.cap)]).length = 11 ∧ (Program.underlying Go.Proofs.Tryd.prog 32).isSome = true ∧
 H.wr h280 (Addr.mk r3 0 none) ([(Value.bool x281), (Value.int .i64 x282), (Value.int .i64 x283), (Value.slice x284.a x284.len x284.cap), (Value.slice x285.a x285.len x285.cap), (Value.slice x286.a x286.len x286.cap), (Value.slice x287.a x287.len x287.cap), (Value.slice x288.a x288.len x288.cap), (Value.slice x289.a x289.len x289.cap), (Value.slice x290.a x290.len x290.cap), (Value.slice x291.a x291.len x291.cap)]) fun h386 =>
 ∃ x387 : Int, H.rd h386 (Addr.add (Addr.add b356 ((p1_p).toNat * 1)) 0) (Value.int .i64 x387) ∧
 ∃ b388 : Addr, x357.a = some b388 ∧ 0 ≤ x387 ∧ x387 < ((x357.len : Nat) : Int) ∧
 ∃ x389 : Int, H.rd h386 (Addr.add (Addr.add b388 ((x387).toNat * 1)) 0) (Value.int .i64 x389) ∧
 ∃ x390 : Bool, H.rd h386 (Addr.add (Addr.mk r3 0 none) 0) (Value.bool x390) ∧
 ∃ x391 : Int, H.rd h386 (Addr.add (Addr.mk r3 0 none) 1) (Value.int .i64 x391) ∧
 ∃ x392 : Int, H.rd h386 (Addr.add (Addr.mk r3 0 none) 2) (Value.int .i64 x392) ∧
 ∃ x393 : SV, H.rd h386 (Addr.add (Addr.mk r3 0 none) 3) (Value.slice x393.a x393.len x393.cap) ∧
 ∃ x394 : SV, H.rd h386 (Addr.add (Addr.mk r3 0 none) 4) (Value.slice x394.a x394.len x394.cap) ∧
 ∃ x395 : SV, H.rd h386 (Addr.add (Addr.mk r3 0 none) 5) (Value.slice x395.a x395.len x395.cap) ∧
 ∃ x396 : SV, H.rd h386 (Addr.add (Addr.mk r3 0 none) 6) (Value.slice x396.a x396.len x396.cap) ∧
 ∃ x397 : SV, H.rd h386 (Addr.add (Addr.mk r3 0 none) 7) (Value.slice x397.a x397.len x397.cap) ∧
 ∃ x398 : SV, H.rd h386 (Addr.add (Addr.mk r3 0 none) 8) (Value.slice x398.a x398.len x398.cap) ∧
 ∃ x399 : SV, H.rd h386 (Addr.add (Addr.mk r3 0 none) 9) (Value.slice x399.a x399.len x399.cap) ∧
 ∃ x400 : SV, H.rd h386 (Addr.add (Addr.mk r3 0 none) 10) (Value.slice x400.a x400.len x400.cap) ∧
 VRet h386 (Value.tuple (List.toArray [(Value.agg (List.toArray [(Value.bool x390), (Value.int .i64 x391), (Value.int .i64 x392), (Value.slice x393.a x393.len x393.cap), (Value.slice x394.a x394.len x394.cap), (Value.slice x395.a x395.len x395.cap), (Value.slice x396.a x396.len x396.cap), (Value.slice x397.a x397.len x397.cap), (Value.slice x398.a x398.len x398.cap), (Value.slice x399.a x399.len x399.cap), (Value.slice x400.a x400.len x400.cap)])), (Value.bool true), (Value.int .i64 x389), (Value.int .i64 0)])) post)) ∧
 (
 (
 ∃ x401 : Int, H.rd h280 (Addr.add (Addr.add b356 ((p1_p).toNat * 1)) 0) (Value.int .i64 x401) ∧
 (
 ∃ x402 : SV, H.rd h280 (Addr.add (Addr.add (Addr.mk r1 0 none) 3) 0) (Value.slice x402.a x402.len x402.cap) ∧
 ∃ b403 : Addr, x402.a = some b403 ∧ 0 ≤ x401 ∧ x401 < ((x402.len : Nat) : Int) ∧
 (
 ∃ x404 : Int, H.rd h280 (Addr.add (Addr.add b403 ((x401).toNat * 1)) 0) (Value.int .i64 x404) ∧
 ([(Value.bool x281), (Value.int .i64 x282), (Value.int .i64 x283), (Value.slice x284.a x284.len x284.cap), (Value.slice x285.a x285.len x285.cap), (Value.slice x286.a x286.len x286.cap), (Value.slice x287.a x287.len x287.cap), (Value.slice x288.a x288.len x288.cap), (Value.slice x289.a x289.len x289.cap), (Value.slice x290.a x290.len x290.cap), (Value.slice x291.a x291.len x291.cap)]).length = 11 ∧ (Program.underlying Go.Proofs.Tryd.prog 32).isSome = true ∧
 H.wr h280 (Addr.mk r3 0 none) ([(Value.bool x281), (Value.int .i64 x282), (Value.int .i64 x283), (Value.slice x284.a x284.len x284.cap), (Value.slice x285.a x285.len x285.cap), (Value.slice x286.a x286.len x286.cap), (Value.slice x287.a x287.len x287.cap), (Value.slice x288.a x288.len x288.cap), (Value.slice x289.a x289.len x289.cap), (Value.slice x290.a x290.len x290.cap), (Value.slice x291.a x291.len x291.cap)]) fun h405 =>
 ∃ x406 : Bool, H.rd h405 (Addr.add (Addr.mk r3 0 none) 0) (Value.bool x406) ∧
 ∃ x407 : Int, H.rd h405 (Addr.add (Addr.mk r3 0 none) 1) (Value.int .i64 x407) ∧
 ∃ x408 : Int, H.rd h405 (Addr.add (Addr.mk r3 0 none) 2) (Value.int .i64 x408) ∧
 ∃ x409 : SV, H.rd h405 (Addr.add (Addr.mk r3 0 none) 3) (Value.slice x409.a x409.len x409.cap) ∧
 ∃ x410 : SV, H.rd h405 (Addr.add (Addr.mk r3 0 none) 4) (Value.slice x410.a x410.len x410.cap) ∧
 ∃ x411 : SV, H.rd h405 (Addr.add (Addr.mk r3 0 none) 5) (Value.slice x411.a x411.len x411.cap) ∧
 ∃ x412 : SV, H.rd h405 (Addr.add (Addr.mk r3 0 none) 6) (Value.slice x412.a x412.len x412.cap) ∧
 ∃ x413 : SV, H.rd h405 (Addr.add (Addr.mk r3 0 none) 7) (Value.slice x413.a x413.len x413.cap) ∧
 ∃ x414 : SV, H.rd h405 (Addr.add (Addr.mk r3 0 none) 8) (Value.slice x414.a x414.len x414.cap) ∧
 ∃ x415 : SV, H.rd h405 (Addr.add (Addr.mk r3 0 none) 9) (Value.slice x415.a x415.len x415.cap) ∧
 ∃ x416 : SV, H.rd h405 (Addr.add (Addr.mk r3 0 none) 10) (Value.slice x416.a x416.len x416.cap) ∧
 VRet h405 (Value.tuple (List.toArray [(Value.agg (List.toArray [(Value.bool x406), (Value.int .i64 x407), (Value.int .i64 x408), (Value.slice x409.a x409.len x409.cap), (Value.slice x410.a x410.len x410.cap), (Value.slice x411.a x411.len x411.cap), (Value.slice x412.a x412.len x412.cap), (Value.slice x413.a x413.len x413.cap), (Value.slice x414.a x414.len x414.cap), (Value.slice x415.a x415.len x415.cap), (Value.slice x416.a x416.len x416.cap)])), (Value.bool true), (Value.int .i64 x404), (Value.int .i64 0)])) post) ∧
 (
 ([(Value.bool x281), (Value.int .i64 x282), (Value.int .i64 x283), (Value.slice x284.a x284.len x284.cap), (Value.slice x285.a x285.len x285.cap), (Value.slice x286.a x286.len x286.cap), (Value.slice x287.a x287.len x287.cap), (Value.slice x288.a x288.len x288.cap), (Value.slice x289.a x289.len x289.cap), (Value.slice x290.a x290.len x290.cap), (Value.slice x291.a x291.len x291.cap)]).length = 11 ∧ (Program.underlying Go.Proofs.Tryd.prog 32).isSome = true ∧
 H.wr h280 (Addr.mk r3 0 none) ([(Value.bool x281), (Value.int .i64 x282), (Value.int .i64 x283), (Value.slice x284.a x284.len x284.cap), (Value.slice x285.a x285.len x285.cap), (Value.slice x286.a x286.len x286.cap), (Value.slice x287.a x287.len x287.cap), (Value.slice x288.a x288.len x288.cap), (Value.slice x289.a x289.len x289.cap), (Value.slice x290.a x290.len x290.cap), (Value.slice x291.a x291.len x291.cap)]) fun h417 =>
 ∃ x418 : Int, H.rd h417 (Addr.add (Addr.add b403 ((x401).toNat * 1)) 0) (Value.int .i64 x418) ∧
 ∃ x419 : Bool, H.rd h417 (Addr.add (Addr.mk r3 0 none) 0) (Value.bool x419) ∧
 ∃ x420 : Int, H.rd h417 (Addr.add (Addr.mk r3 0 none) 1) (Value.int .i64 x420) ∧
 ∃ x421 : Int, H.rd h417 (Addr.add (Addr.mk r3 0 none) 2) (Value.int .i64 x421) ∧
 ∃ x422 : SV, H.rd h417 (Addr.add (Addr.mk r3 0 none) 3) (Value.slice x422.a x422.len x422.cap) ∧
 ∃ x423 : SV, H.rd h417 (Addr.add (Addr.mk r3 0 none) 4) (Value.slice x423.a x423.len x423.cap) ∧
 ∃ x424 : SV, H.rd h417 (Addr.add (Addr.mk r3 0 none) 5) (Value.slice x424.a x424.len x424.cap) ∧
 ∃ x425 : SV, H.rd h417 (Addr.add (Addr.mk r3 0 none) 6) (Value.slice x425.a x425.len x425.cap) ∧
 ∃ x426 : SV, H.rd h417 (Addr.add (Addr.mk r3 0 none) 7) (Value.slice x426.a x426.len x426.cap) ∧
 ∃ x427 : SV, H.rd h417 (Addr.add (Addr.mk r3 0 none) 8) (Value.slice x427.a x427.len x427.cap) ∧
 ∃ x428 : SV, H.rd h417 (Addr.add (Addr.mk r3 0 none) 9) (Value.slice x428.a x428.len x428.cap) ∧
 ∃ x429 : SV, H.rd h417 (Addr.add (Addr.mk r3 0 none) 10) (Value.slice x429.a x429.len x429.cap) ∧
 VRet h417 (Value.tuple (List.toArray [(Value.agg (List.toArray [(Value.bool x419), (Value.int .i64 x420), (Value.int .i64 x421), (Value.slice x422.a x422.len x422.cap), (Value.slice x423.a x423.len x423.cap), (Value.slice x424.a x424.len x424.cap), (Value.slice x425.a x425.len x425.cap), (Value.slice x426.a x426.len x426.cap), (Value.slice x427.a x427.len x427.cap), (Value.slice x428.a x428.len x428.cap), (Value.slice x429.a x429.len x429.cap)])), (Value.bool true), (Value.int .i64 x418), (Value.int .i64 0)])) post)) ∧
 (
 ([(Value.bool x281), (Value.int .i64 x282), (Value.int .i64 x283), (Value.slice x284.a x284.len x284.cap), (Value.slice x285.a x285.len x285.cap), (Value.slice x286.a x286.len x286.cap), (Value.slice x287.a x287.len x287.cap), (Value.slice x288.a x288.len x288.cap), (Value.slice x289.a x289.len x289.cap), (Value.slice x290.a x290.len x290.cap), (Value.slice x291.a x291.len x291.cap)]).length = 11 ∧ (Program.underlying Go.Proofs.Tryd.prog 32).isSome = true ∧
 H.wr h280 (Addr.mk r3 0 none) ([(Value.bool x281), (Value.int .i64 x282), (Value.int .i64 x283), (Value.slice x284.a x284.len x284.cap), (Value.slice x285.a x285.len x285.cap), (Value.slice x286.a x286.len x286.cap), (Value.slice x287.a x287.len x287.cap), (Value.slice x288.a x288.len x288.cap), (Value.slice x289.a x289.len x289.cap), (Value.slice x290.a x290.len x290.cap), (Value.slice x291.a x291.len x291.cap)]) fun h430 =>
 ∃ x431 : SV, H.rd h430 (Addr.add (Addr.add (Addr.mk r1 0 none) 3) 0) (Value.slice x431.a x431.len x431.cap) ∧
 ∃ b432 : Addr, x431.a = some b432 ∧ 0 ≤ x401 ∧ x401 < ((x431.len : Nat) : Int) ∧
 ∃ x433 : Int, H.rd h430 (Addr.add (Addr.add b432 ((x401).toNat * 1)) 0) (Value.int .i64 x433) ∧
 ∃ x434 : Bool, H.rd h430 (Addr.add (Addr.mk r3 0 none) 0) (Value.bool x434) ∧
 ∃ x435 : Int, H.rd h430 (Addr.add (Addr.mk r3 0 none) 1) (Value.int .i64 x435) ∧
 ∃ x436 : Int, H.rd h430 (Addr.add (Addr.mk r3 0 none) 2) (Value.int .i64 x436) ∧
 ∃ x437 : SV, H.rd h430 (Addr.add (Addr.mk r3 0 none) 3) (Value.slice x437.a x437.len x437.cap) ∧
 ∃ x438 : SV, H.rd h430 (Addr.add (Addr.mk r3 0 none) 4) (Value.slice x438.a x438.len x438.cap) ∧
 ∃ x439 : SV, H.rd h430 (Addr.add (Addr.mk r3 0 none) 5) (Value.slice x439.a x439.len x439.cap) ∧
 ∃ x440 : SV, H.rd h430 (Addr.add (Addr.mk r3 0 none) 6) (Value.slice x440.a x440.len x440.cap) ∧
 ∃ x441 : SV, H.rd h430 (Addr.add (Addr.mk r3 0 none) 7) (Value.slice x441.a x441.len x441.cap) ∧
 ∃ x442 : SV, H.rd h430 (Addr.add (Addr.mk r3 0 none) 8) (Value.slice x442.a x442.len x442.cap) ∧
 ∃ x443 : SV, H.rd h430 (Addr.add (Addr.mk r3 0 none) 9) (Value.slice x443.a x443.len x443.cap) ∧
 ∃ x444 : SV, H.rd h430 (Addr.add (Addr.mk r3 0 none) 10) (Value.slice x444.a x444.len x444.cap) ∧
 VRet h430 (Value.tuple (List.toArray [(Value.agg (List.toArray [(Value.bool x434), (Value.int .i64 x435), (Value.int .i64 x436), (Value.slice x437.a x437.len x437.cap), (Value.slice x438.a x438.len x438.cap), (Value.slice x439.a x439.len x439.cap), (Value.slice x440.a x440.len x440.cap), (Value.slice x441.a x441.len x441.cap), (Value.slice x442.a x442.len x442.cap), (Value.slice x443.a x443.len x443.cap), (Value.slice x444.a x444.len x444.cap)])), (Value.bool true), (Value.int .i64 x433), (Value.int .i64 0)])) post)) ∧
 (
 ([(Value.bool x281), (Value.int .i64 x282), (Value.int .i64 x283), (Value.slice x284.a x284.len x284.cap), (Value.slice x285.a x285.len x285.cap), (Value.slice x286.a x286.len x286.cap), (Value.slice x287.a x287.len x287.cap), (Value.slice x288.a x288.len x288.cap), (Value.slice x289.a x289.len x289.cap), (Value.slice x290.a x290.len x290.cap), (Value.slice x291.a x291.len x291.cap)]).length = 11 ∧ (Program.underlying Go.Proofs.Tryd.prog 32).isSome = true ∧
 H.wr h280 (Addr.mk r3 0 none) ([(Value.bool x281), (Value.int .i64 x282), (Value.int .i64 x283), (Value.slice x284.a x284.len x284.cap), (Value.slice x285.a x285.len x285.cap), (Value.slice x286.a x286.len x286.cap), (Value.slice x287.a x287.len x287.cap), (Value.slice x288.a x288.len x288.cap), (Value.slice x289.a x289.len x289.cap), (Value.slice x290.a x290.len x290.cap), (Value.slice x291.a x291.len x291.cap)]) fun h445 =>
 (
 ∃ x446 : SV, H.rd h445 (Addr.add (Addr.add (Addr.mk r1 0 none) 3) 0) (Value.slice x446.a x446.len x446.cap) ∧
 ∃ x447 : Int, H.rd h445 (Addr.add (Addr.add b356 ((p1_p).toNat * 1)) 0) (Value.int .i64 x447) ∧
 ∃ b448 : Addr, x446.a = some b448 ∧ 0 ≤ x447 ∧ x447 < ((x446.len : Nat) : Int) ∧
 ∃ x449 : Int, H.rd h445 (Addr.add (Addr.add b448 ((x447).toNat * 1)) 0) (Value.int .i64 x449) ∧
 ∃ x450 : Bool, H.rd h445 (Addr.add (Addr.mk r3 0 none) 0) (Value.bool x450) ∧
 ∃ x451 : Int, H.rd h445 (Addr.add (Addr.mk r3 0 none) 1) (Value.int .i64 x451) ∧
 ∃ x452 : Int, H.rd h445 (Addr.add (Addr.mk r3 0 none) 2) (Value.int .i64 x452) ∧
 ∃ x453 : SV, H.rd h445 (Addr.add (Addr.mk r3 0 none) 3) (Value.slice x453.a x453.len x453.cap) ∧
 ∃ x454 : SV, H.rd h445 (Addr.add (Addr.mk r3 0 none) 4) (Value.slice x454.a x454.len x454.cap) ∧
 ∃ x455 : SV, H.rd h445 (Addr.add (Addr.mk r3 0 none) 5) (Value.slice x455.a x455.len x455.cap) ∧
 ∃ x456 : SV, H.rd h445 (Addr.add (Addr.mk r3 0 none) 6) (Value.slice x456.a x456.len x456.cap) ∧
 ∃ x457 : SV, H.rd h445 (Addr.add (Addr.mk r3 0 none) 7) (Value.slice x457.a x457.len x457.cap) ∧
 ∃ x458 : SV, H.rd h445 (Addr.add (Addr.mk r3 0 none) 8) (Value.slice x458.a x458.len x458.cap) ∧
 ∃ x459 : SV, H.rd h445 (Addr.add (Addr.mk r3 0 none) 9) (Value.slice x459.a x459.len x459.cap) ∧
 ∃ x460 : SV, H.rd h445 (Addr.add (Addr.mk r3 0 none) 10) (Value.slice x460.a x460.len x460.cap) ∧
 VRet h445 (Value.tuple (List.toArray [(Value.agg (List.toArray [(Value.bool x450), (Value.int .i64 x451), (Value.int .i64 x452), (Value.slice x453.a x453.len x453.cap), (Value.slice x454.a x454.len x454.cap), (Value.slice x455.a x455.len x455.cap), (Value.slice x456.a x456.len x456.cap), (Value.slice x457.a x457.len x457.cap), (Value.slice x458.a x458.len x458.cap), (Value.slice x459.a x459.len x459.cap), (Value.slice x460.a x460.len x460.cap)])), (Value.bool true), (Value.int .i64 x449), (Value.int .i64 0)])) post) ∧
 (
 ∃ x461 : Int, H.rd h445 (Addr.add (Addr.add b356 ((p1_p).toNat * 1)) 0) (Value.int .i64 x461) ∧
 ∃ x462 : SV, H.rd h445 (Addr.add (Addr.add (Addr.mk r1 0 none) 3) 0) (Value.slice x462.a x462.len x462.cap) ∧
 ∃ b463 : Addr, x462.a = some b463 ∧ 0 ≤ x461 ∧ x461 < ((x462.len : Nat) : Int) ∧
 ∃ x464 : Int, H.rd h445 (Addr.add (Addr.add b463 ((x461).toNat * 1)) 0) (Value.int .i64 x464) ∧
 ∃ x465 : Bool, H.rd h445 (Addr.add (Addr.mk r3 0 none) 0) (Value.bool x465) ∧
 ∃ x466 : Int, H.rd h445 (Addr.add (Addr.mk r3 0 none) 1) (Value.int .i64 x466) ∧
 ∃ x467 : Int, H.rd h445 (Addr.add (Addr.mk r3 0 none) 2) (Value.int .i64 x467) ∧
 ∃ x468 : SV, H.rd h445 (Addr.add (Addr.mk r3 0 none) 3) (Value.slice x468.a x468.len x468.cap) ∧
 ∃ x469 : SV, H.rd h445 (Addr.add (Addr.mk r3 0 none) 4) (Value.slice x469.a x469.len x469.cap) ∧
 ∃ x470 : SV, H.rd h445 (Addr.add (Addr.mk r3 0 none) 5) (Value.slice x470.a x470.len x470.cap) ∧
 ∃ x471 : SV, H.rd h445 (Addr.add (Addr.mk r3 0 none) 6) (Value.slice x471.a x471.len x471.cap) ∧
 ∃ x472 : SV, H.rd h445 (Addr.add (Addr.mk r3 0 none) 7) (Value.slice x472.a x472.len x472.cap) ∧
 ∃ x473 : SV, H.rd h445 (Addr.add (Addr.mk r3 0 none) 8) (Value.slice x473.a x473.len x473.cap) ∧
 ∃ x474 : SV, H.rd h445 (Addr.add (Addr.mk r3 0 none) 9) (Value.slice x474.a x474.len x474.cap) ∧
 ∃ x475 : SV, H.rd h445 (Addr.add (Addr.mk r3 0 none) 10) (Value.slice x475.a x475.len x475.cap) ∧
 VRet h445 (Value.tuple (List.toArray [(Value.agg (List.toArray [(Value.bool x465), (Value.int .i64 x466), (Value.int .i64 x467), (Value.slice x468.a x468.len x468.cap), (Value.slice x469.a x469.len x469.cap), (Value.slice x470.a x470.len x470.cap), (Value.slice x471.a x471.len x471.cap), (Value.slice x472.a x472.len x472.cap), (Value.slice x473.a x473.len x473.cap), (Value.slice x474.a x474.len x474.cap), (Value.slice x475.a x475.len x475.cap)])), (Value.bool true), (Value.int .i64 x464), (Value.int .i64 0)])) post)))) ∧
 (
 ([(Value.bool x281), (Value.int .i64 x282), (Value.int .i64 x283), (Value.slice x284.a x284.len x284.cap), (Value.slice x285.a x285.len x285.cap), (Value.slice x286.a x286.len x286.cap), (Value.slice x287.a x287.len x287.cap), (Value.slice x288.a x288.len x288.cap), (Value.slice x289.a x289.len x289.cap), (Value.slice x290.a x290.len x290.cap), (Value.slice x291.a x291.len x291.cap)]).length = 11 ∧ (Program.underlying Go.Proofs.Tryd.prog 32).isSome = true ∧
 H.wr h280 (Addr.mk r3 0 none) ([(Value.bool x281), (Value.int .i64 x282), (Value.int .i64 x283), (Value.slice x284.a x284.len x284.cap), (Value.slice x285.a x285.len x285.cap), (Value.slice x286.a x286.len x286.cap), (Value.slice x287.a x287.len x287.cap), (Value.slice x288.a x288.len x288.cap), (Value.slice x289.a x289.len x289.cap), (Value.slice x290.a x290.len x290.cap), (Value.slice x291.a x291.len x291.cap)]) fun h476 =>
 (
 ∃ x477 : SV, H.rd h476 (Addr.add (Addr.add (Addr.mk r1 0 none) 3) 0) (Value.slice x477.a x477.len x477.cap) ∧
 ∃ x478 : SV, H.rd h476 (Addr.add (Addr.add (Addr.mk r1 0 none) 8) 0) (Value.slice x478.a x478.len x478.cap) ∧
 ∃ b479 : Addr, x478.a = some b479 ∧ 0 ≤ p1_p ∧ p1_p < ((x478.len : Nat) : Int) ∧
 ∃ x480 : Int, H.rd h476 (Addr.add (Addr.add b479 ((p1_p).toNat * 1)) 0) (Value.int .i64 x480) ∧
 ∃ b481 : Addr, x477.a = some b481 ∧ 0 ≤ x480 ∧ x480 < ((x477.len : Nat) : Int) ∧
 ∃ x482 : Int, H.rd h476 (Addr.add (Addr.add b481 ((x480).toNat * 1)) 0) (Value.int .i64 x482) ∧
 ∃ x483 : Bool, H.rd h476 (Addr.add (Addr.mk r3 0 none) 0) (Value.bool x483) ∧
 ∃ x484 : Int, H.rd h476 (Addr.add (Addr.mk r3 0 none) 1) (Value.int .i64 x484) ∧
 ∃ x485 : Int, H.rd h476 (Addr.add (Addr.mk r3 0 none) 2) (Value.int .i64 x485) ∧
 ∃ x486 : SV, H.rd h476 (Addr.add (Addr.mk r3 0 none) 3) (Value.slice x486.a x486.len x486.cap) ∧
 ∃ x487 : SV, H.rd h476 (Addr.add (Addr.mk r3 0 none) 4) (Value.slice x487.a x487.len x487.cap) ∧
 ∃ x488 : SV, H.rd h476 (Addr.add (Addr.mk r3 0 none) 5) (Value.slice x488.a x488.len x488.cap) ∧
 ∃ x489 : SV, H.rd h476 (Addr.add (Addr.mk r3 0 none) 6) (Value.slice x489.a x489.len x489.cap) ∧
 ∃ x490 : SV, H.rd h476 (Addr.add (Addr.mk r3 0 none) 7) (Value.slice x490.a x490.len x490.cap) ∧
 ∃ x491 : SV, H.rd h476 (Addr.add (Addr.mk r3 0 none) 8) (Value.slice x491.a x491.len x491.cap) ∧
 ∃ x492 : SV, H.rd h476 (Addr.add (Addr.mk r3 0 none) 9) (Value.slice x492.a x492.len x492.cap) ∧
 ∃ x493 : SV, H.rd h476 (Addr.add (Addr.mk r3 0 none) 10) (Value.slice x493.a x493.len x493.cap) ∧
 VRet h476 (Value.tuple (List.toArray [(Value.agg (List.toArray [(Value.bool x483), (Value.int .i64 x484), (Value.int .i64 x485), (Value.slice x486.a x486.len x486.cap), (Value.slice x487.a x487.len x487.cap), (Value.slice x488.a x488.len x488.cap), (Value.slice x489.a x489.len x489.cap), (Value.slice x490.a x490.len x490.cap), (Value.slice x491.a x491.len x491.cap), (Value.slice x492.a x492.len x492.cap), (Value.slice x493.a x493.len x493.cap)])), (Value.bool true), (Value.int .i64 x482), (Value.int .i64 0)])) post) ∧
 (
 ∃ x494 : SV, H.rd h476 (Addr.add (Addr.add (Addr.mk r1 0 none) 8) 0) (Value.slice x494.a x494.len x494.cap) ∧
 ∃ b495 : Addr, x494.a = some b495 ∧ 0 ≤ p1_p ∧ p1_p < ((x494.len : Nat) : Int) ∧
 (
 ∃ x496 : SV, H.rd h476 (Addr.add (Addr.add (Addr.mk r1 0 none) 3) 0) (Value.slice x496.a x496.len x496.cap) ∧
 ∃ x497 : Int, H.rd h476 (Addr.add (Addr.add b495 ((p1_p).toNat * 1)) 0) (Value.int .i64 x497) ∧
 ∃ b498 : Addr, x496.a = some b498 ∧ 0 ≤ x497 ∧ x497 < ((x496.len : Nat) : Int) ∧
 ∃ x499 : Int, H.rd h476 (Addr.add (Addr.add b498 ((x497).toNat * 1)) 0) (Value.int .i64 x499) ∧
 ∃ x500 : Bool, H.rd h476 (Addr.add (Addr.mk r3 0 none) 0) (Value.bool x500) ∧
 ∃ x501 : Int, H.rd h476 (Addr.add (Addr.mk r3 0 none) 1) (Value.int .i64 x501) ∧
 ∃ x502 : Int, H.rd h476 (Addr.add (Addr.mk r3 0 none) 2) (Value.int .i64 x502) ∧
 ∃ x503 : SV, H.rd h476 (Addr.add (Addr.mk r3 0 none) 3) (Value.slice x503.a x503.len x503.cap) ∧
 ∃ x504 : SV, H.rd h476 (Addr.add (Addr.mk r3 0 none) 4) (Value.slice x504.a x504.len x504.cap) ∧
 ∃ x505 : SV, H.rd h476 (Addr.add (Addr.mk r3 0 none) 5) (Value.slice x505.a x505.len x505.cap) ∧
 ∃ x506 : SV, H.rd h476 (Addr.add (Addr.mk r3 0 none) 6) (Value.slice x506.a x506.len x506.cap) ∧
 ∃ x507 : SV, H.rd h476 (Addr.add (Addr.mk r3 0 none) 7) (Value.slice x507.a x507.len x507.cap) ∧
 ∃ x508 : SV, H.rd h476 (Addr.add (Addr.mk r3 0 none) 8) (Value.slice x508.a x508.len x508.cap) ∧
 ∃ x509 : SV, H.rd h476 (Addr.add (Addr.mk r3 0 none) 9) (Value.slice x509.a x509.len x509.cap) ∧
 ∃ x510 : SV, H.rd h476 (Addr.add (Addr.mk r3 0 none) 10) (Value.slice x510.a x510.len x510.cap) ∧
 VRet h476 (Value.tuple (List.toArray [(Value.agg (List.toArray [(Value.bool x500), (Value.int .i64 x501), (Value.int .i64 x502), (Value.slice x503.a x503.len x503.cap), (Value.slice x504.a x504.len x504.cap), (Value.slice x505.a x505.len x505.cap), (Value.slice x506.a x506.len x506.cap), (Value.slice x507.a x507.len x507.cap), (Value.slice x508.a x508.len x508.cap), (Value.slice x509.a x509.len x509.cap), (Value.slice x510.a x510.len x510.cap)])), (Value.bool true), (Value.int .i64 x499), (Value.int .i64 0)])) post) ∧
 (
 ∃ x511 : Int, H.rd h476 (Addr.add (Addr.add b495 ((p1_p).toNat * 1)) 0) (Value.int .i64 x511) ∧
 ∃ x512 : SV, H.rd h476 (Addr.add (Addr.add (Addr.mk r1 0 none) 3) 0) (Value.slice x512.a x512.len x512.cap) ∧
 ∃ b513 : Addr, x512.a = some b513 ∧ 0 ≤ x511 ∧ x511 < ((x512.len : Nat) : Int) ∧
 ∃ x514 : Int, H.rd h476 (Addr.add (Addr.add b513 ((x511).toNat * 1)) 0) (Value.int .i64 x514) ∧
 ∃ x515 : Bool, H.rd h476 (Addr.add (Addr.mk r3 0 none) 0) (Value.bool x515) ∧
 ∃ x516 : Int, H.rd h476 (Addr.add (Addr.mk r3 0 none) 1) (Value.int .i64 x516) ∧
 ∃ x517 : Int, H.rd h476 (Addr.add (Addr.mk r3 0 none) 2) (Value.int .i64 x517) ∧
 ∃ x518 : SV, H.rd h476 (Addr.add (Addr.mk r3 0 none) 3) (Value.slice x518.a x518.len x518.cap) ∧
 ∃ x519 : SV, H.rd h476 (Addr.add (Addr.mk r3 0 none) 4) (Value.slice x519.a x519.len x519.cap) ∧
 ∃ x520 : SV, H.rd h476 (Addr.add (Addr.mk r3 0 none) 5) (Value.slice x520.a x520.len x520.cap) ∧
 ∃ x521 : SV, H.rd h476 (Addr.add (Addr.mk r3 0 none) 6) (Value.slice x521.a x521.len x521.cap) ∧
 ∃ x522 : SV, H.rd h476 (Addr.add (Addr.mk r3 0 none) 7) (Value.slice x522.a x522.len x522.cap) ∧
 ∃ x523 : SV, H.rd h476 (Addr.add (Addr.mk r3 0 none) 8) (Value.slice x523.a x523.len x523.cap) ∧
 ∃ x524 : SV, H.rd h476 (Addr.add (Addr.mk r3 0 none) 9) (Value.slice x524.a x524.len x524.cap) ∧
 ∃ x525 : SV, H.rd h476 (Addr.add (Addr.mk r3 0 none) 10) (Value.slice x525.a x525.len x525.cap) ∧
 VRet h476 (Value.tuple (List.toArray [(Value.agg (List.toArray [(Value.bool x515), (Value.int .i64 x516), (Value.int .i64 x517), (Value.slice x518.a x518.len x518.cap), (Value.slice x519.a x519.len x519.cap), (Value.slice x520.a x520.len x520.cap), (Value.slice x521.a x521.len x521.cap), (Value.slice x522.a x522.len x522.cap), (Value.slice x523.a x523.len x523.cap), (Value.slice x524.a x524.len x524.cap), (Value.slice x525.a x525.len x525.cap)])), (Value.bool true), (Value.int .i64 x514), (Value.int .i64 0)])) post))))) ∧
 (
 (
 ∃ x526 : SV, H.rd h280 (Addr.add (Addr.add (Addr.mk r1 0 none) 3) 0) (Value.slice x526.a x526.len x526.cap) ∧
 (
 ∃ x527 : Bool, H.rd h280 (Addr.add (Addr.mk r1 0 none) 0) (Value.bool x527) ∧
 ∃ x528 : Int, H.rd h280 (Addr.add (Addr.mk r1 0 none) 1) (Value.int .i64 x528) ∧
 ∃ x529 : Int, H.rd h280 (Addr.add (Addr.mk r1 0 none) 2) (Value.int .i64 x529) ∧
 ∃ x530 : SV, H.rd h280 (Addr.add (Addr.mk r1 0 none) 3) (Value.slice x530.a x530.len x530.cap) ∧
 ∃ x531 : SV, H.rd h280 (Addr.add (Addr.mk r1 0 none) 4) (Value.slice x531.a x531.len x531.cap) ∧
 ∃ x532 : SV, H.rd h280 (Addr.add (Addr.mk r1 0 none) 5) (Value.slice x532.a x532.len x532.cap) ∧
 ∃ x533 : SV, H.rd h280 (Addr.add (Addr.mk r1 0 none) 6) (Value.slice x533.a x533.len x533.cap) ∧
 ∃ x534 : SV, H.rd h280 (Addr.add (Addr.mk r1 0 none) 7) (Value.slice x534.a x534.len x534.cap) ∧
 ∃ x535 : SV, H.rd h280 (Addr.add (Addr.mk r1 0 none) 8) (Value.slice x535.a x535.len x535.cap) ∧
 ∃ x536 : SV, H.rd h280 (Addr.add (Addr.mk r1 0 none) 9) (Value.slice x536.a x536.len x536.cap) ∧
 ∃ x537 : SV, H.rd h280 (Addr.add (Addr.mk r1 0 none) 10) (Value.slice x537.a x537.len x537.cap) ∧
 (
 ∃ x538 : SV, H.rd h280 (Addr.add (Addr.add (Addr.mk r1 0 none) 8) 0) (Value.slice x538.a x538.len x538.cap) ∧
 ∃ b539 : Addr, x538.a = some b539 ∧ 0 ≤ p1_p ∧ p1_p < ((x538.len : Nat) : Int) ∧
 (
 ∃ x540 : Int, H.rd h280 (Addr.add (Addr.add b539 ((p1_p).toNat * 1)) 0) (Value.int .i64 x540) ∧
 ∃ b541 : Addr, x526.a = some b541 ∧ 0 ≤ x540 ∧ x540 < ((x526.len : Nat) : Int) ∧
 (
 ∃ x542 : Int, H.rd h280 (Addr.add (Addr.add b541 ((x540).toNat * 1)) 0) (Value.int .i64 x542) ∧
 ([(Value.bool x527), (Value.int .i64 x528), (Value.int .i64 x529), (Value.slice x530.a x530.len x530.cap), (Value.slice x531.a x531.len x531.cap), (Value.slice x532.a x532.len x532.cap), (Value.slice x533.a x533.len x533.cap), (Value.slice x534.a x534.len x534.cap), (Value.slice x535.a x535.len x535.cap), (Value.slice x536.a x536.len x536.cap), (Value.slice x537.a x537.len x537.cap)]).length = 11 ∧ (Program.underlying Go.Proofs.Tryd.prog 32).isSome = true ∧
 H.wr h280 (Addr.mk r3 0 none) ([(Value.bool x527), (Value.int .i64 x528), (Value.int .i64 x529), (Value.slice x530.a x530.len x530.cap), (Value.slice x531.a x531.len x531.cap), (Value.slice x532.a x532.len x532.cap), (Value.slice x533.a x533.len x533.cap), (Value.slice x534.a x534.len x534.cap), (Value.slice x535.a x535.len x535.cap), (Value.slice x536.a x536.len x536.cap), (Value.slice x537.a x537.len x537.cap)]) fun h543 =>
 ∃ x544 : Bool, H.rd h543 (Addr.add (Addr.mk r3 0 none) 0) (Value.bool x544) ∧
 ∃ x545 : Int, H.rd h543 (Addr.add (Addr.mk r3 0 none) 1) (Value.int .i64 x545) ∧
 ∃ x546 : Int, H.rd h543 (Addr.add (Addr.mk r3 0 none) 2) (Value.int .i64 x546) ∧
 ∃ x547 : SV, H.rd h543 (Addr.add (Addr.mk r3 0 none) 3) (Value.slice x547.a x547.len x547.cap) ∧
 ∃ x548 : SV, H.rd h543 (Addr.add (Addr.mk r3 0 none) 4) (Value.slice x548.a x548.len x548.cap) ∧
 ∃ x549 : SV, H.rd h543 (Addr.add (Addr.mk r3 0 none) 5) (Value.slice x549.a x549.len x549.cap) ∧
 ∃ x550 : SV, H.rd h543 (Addr.add (Addr.mk r3 0 none) 6) (Value.slice x550.a x550.len x550.cap) ∧
 ∃ x551 : SV, H.rd h543 (Addr.add (Addr.mk r3 0 none) 7) (Value.slice x551.a x551.len x551.cap) ∧
 ∃ x552 : SV, H.rd h543 (Addr.add (Addr.mk r3 0 none) 8) (Value.slice x552.a x552.len x552.cap) ∧
 ∃ x553 : SV, H.rd h543 (Addr.add (Addr.mk r3 0 none) 9) (Value.slice x553.a x553.len x553.cap) ∧
 ∃ x554 : SV, H.rd h543 (Addr.add (Addr.mk r3 0 none) 10) (Value.slice x554.a x554.len x554.cap) ∧
 VRet h543 (Value.tuple (List.toArray [(Value.agg (List.toArray [(Value.bool x544), (Value.int .i64 x545), (Value.int .i64 x546), (Value.slice x547.a x547.len x547.cap), (Value.slice x548.a x548.len x548.cap), (Value.slice x549.a x549.len x549.cap), (Value.slice x550.a x550.len x550.cap), (Value.slice x551.a x551.len x551.cap), (Value.slice x552.a x552.len x552.cap), (Value.slice x553.a x553.len x553.cap), (Value.slice x554.a x554.len x554.cap)])), (Value.bool true), (Value.int .i64 x542), (Value.int .i64 0)])) post) ∧
 (
 ([(Value.bool x527), (Value.int .i64 x528), (Value.int .i64 x529), (Value.slice x530.a x530.len x530.cap), (Value.slice x531.a x531.len x531.cap), (Value.slice x532.a x532.len x532.cap), (Value.slice x533.a x533.len x533.cap), (Value.slice x534.a x534.len x534.cap), (Value.slice x535.a x535.len x535.cap), (Value.slice x536.a x536.len x536.cap), (Value.slice x537.a x537.len x537.cap)]).length = 11 ∧ (Program.underlying Go.Proofs.Tryd.prog 32).isSome = true ∧
 H.wr h280 (Addr.mk r3 0 none) ([(Value.bool x527), (Value.int .i64 x528), (Value.int .i64 x529), (Value.slice x530.a x530.len x530.cap), (Value.slice x531.a x531.len x531.cap), (Value.slice x532.a x532.len x532.cap), (Value.slice x533.a x533.len x533.cap), (Value.slice x534.a x534.len x534.cap), (Value.slice x535.a x535.len x535.cap), (Value.slice x536.a x536.len x536.cap), (Value.slice x537.a x537.len x537.cap)]) fun h555 =>
 ∃ x556 : Int, H.rd h555 (Addr.add (Addr.add b541 ((x540).toNat * 1)) 0) (Value.int .i64 x556) ∧
 ∃ x557 : Bool, H.rd h555 (Addr.add (Addr.mk r3 0 none) 0) (Value.bool x557) ∧
 ∃ x558 : Int, H.rd h555 (Addr.add (Addr.mk r3 0 none) 1) (Value.int .i64 x558) ∧
 ∃ x559 : Int, H.rd h555 (Addr.add (Addr.mk r3 0 none) 2) (Value.int .i64 x559) ∧
 ∃ x560 : SV, H.rd h555 (Addr.add (Addr.mk r3 0 none) 3) (Value.slice x560.a x560.len x560.cap) ∧
 ∃ x561 : SV, H.rd h555 (Addr.add (Addr.mk r3 0 none) 4) (Value.slice x561.a x561.len x561.cap) ∧
 ∃ x562 : SV, H.rd h555 (Addr.add (Addr.mk r3 0 none) 5) (Value.slice x562.a x562.len x562.cap) ∧
 ∃ x563 : SV, H.rd h555 (Addr.add (Addr.mk r3 0 none) 6) (Value.slice x563.a x563.len x563.cap) ∧
 ∃ x564 : SV, H.rd h555 (Addr.add (Addr.mk r3 0 none) 7) (Value.slice x564.a x564.len x564.cap) ∧
 ∃ x565 : SV, H.rd h555 (Addr.add (Addr.mk r3 0 none) 8) (Value.slice x565.a x565.len x565.cap) ∧
 ∃ x566 : SV, H.rd h555 (Addr.add (Addr.mk r3 0 none) 9) (Value.slice x566.a x566.len x566.cap) ∧
 ∃ x567 : SV, H.rd h555 (Addr.add (Addr.mk r3 0 none) 10) (Value.slice x567.a x567.len x567.cap) ∧
 VRet h555 (Value.tuple (List.toArray [(Value.agg (List.toArray [(Value.bool x557), (Value.int .i64 x558), (Value.int .i64 x559), (Value.slice x560.a x560.len x560.cap), (Value.slice x561.a x561.len x561.cap), (Value.slice x562.a x562.len x562.cap), (Value.slice x563.a x563.len x563.cap), (Value.slice x564.a x564.len x564.cap), (Value.slice x565.a x565.len x565.cap), (Value.slice x566.a x566.len x566.cap), (Value.slice x567.a x567.len x567.cap)])), (Value.bool true), (Value.int .i64 x556), (Value.int .i64 0)])) post)) ∧
 (
 ([(Value.bool x527), (Value.int .i64 x528), (Value.int .i64 x529), (Value.slice x530.a x530.len x530.cap), (Value.slice x531.a x531.len x531.cap), (Value.slice x532.a x532.len x532.cap), (Value.slice x533.a x533.len x533.cap), (Value.slice x534.a x534.len x534.cap), (Value.slice x535.a x535.len x535.cap), (Value.slice x536.a x536.len x536.cap), (Value.slice x537.a x537.len x537.cap)]).length = 11 ∧ (Program.underlying Go.Proofs.Tryd.prog 32).isSome = true ∧
 H.wr h280 (Addr.mk r3 0 none) ([(Value.bool x527), (Value.int .i64 x528), (Value.int .i64 x529), (Value.slice x530.a x530.len x530.cap), (Value.slice x531.a x531.len x531.cap), (Value.slice x532.a x532.len x532.cap), (Value.slice x533.a x533.len x533.cap), (Value.slice x534.a x534.len x534.cap), (Value.slice x535.a x535.len x535.cap), (Value.slice x536.a x536.len x536.cap), (Value.slice x537.a x537.len x537.cap)]) fun h568 =>
 ∃ x569 : Int, H.rd h568 (Addr.add (Addr.add b539 ((p1_p).toNat * 1)) 0) (Value.int .i64 x569) ∧
 ∃ b570 : Addr, x526.a = some b570 ∧ 0 ≤ x569 ∧ x569 < ((x526.len : Nat) : Int) ∧
 ∃ x571 : Int, H.rd h568 (Addr.add (Addr.add b570 ((x569).toNat * 1)) 0) (Value.int .i64 x571) ∧
 ∃ x572 : Bool, H.rd h568 (Addr.add (Addr.mk r3 0 none) 0) (Value.bool x572) ∧
 ∃ x573 : Int, H.rd h568 (Addr.add (Addr.mk r3 0 none) 1) (Value.int .i64 x573) ∧
 ∃ x574 : Int, H.rd h568 (Addr.add (Addr.mk r3 0 none) 2) (Value.int .i64 x574) ∧
 ∃ x575 : SV, H.rd h568 (Addr.add (Addr.mk r3 0 none) 3) (Value.slice x575.a x575.len x575.cap) ∧
 ∃ x576 : SV, H.rd h568 (Addr.add (Addr.mk r3 0 none) 4) (Value.slice x576.a x576.len x576.cap) ∧
 ∃ x577 : SV, H.rd h568 (Addr.add (Addr.mk r3 0 none) 5) (Value.slice x577.a x577.len x577.cap) ∧
 ∃ x578 : SV, H.rd h568 (Addr.add (Addr.mk r3 0 none) 6) (Value.slice x578.a x578.len x578.cap) ∧
 ∃ x579 : SV, H.rd h568 (Addr.add (Addr.mk r3 0 none) 7) (Value.slice x579.a x579.len x579.cap) ∧
 ∃ x580 : SV, H.rd h568 (Addr.add (Addr.mk r3 0 none) 8) (Value.slice x580.a x580.len x580.cap) ∧
 ∃ x581 : SV, H.rd h568 (Addr.add (Addr.mk r3 0 none) 9) (Value.slice x581.a x581.len x581.cap) ∧
 ∃ x582 : SV, H.rd h568 (Addr.add (Addr.mk r3 0 none) 10) (Value.slice x582.a x582.len x582.cap) ∧
 VRet h568 (Value.tuple (List.toArray [(Value.agg (List.toArray [(Value.bool x572), (Value.int .i64 x573), (Value.int .i64 x574), (Value.slice x575.a x575.len x575.cap), (Value.slice x576.a x576.len x576.cap), (Value.slice x577.a x577.len x577.cap), (Value.slice x578.a x578.len x578.cap), (Value.slice x579.a x579.len x579.cap), (Value.slice x580.a x580.len x580.cap), (Value.slice x581.a x581.len x581.cap), (Value.slice x582.a x582.len x582.cap)])), (Value.bool true), (Value.int .i64 x571), (Value.int .i64 0)])) post)) ∧
 (
 ([(Value.bool x527), (Value.int .i64 x528), (Value.int .i64 x529), (Value.slice x530.a x530.len x530.cap), (Value.slice x531.a x531.len x531.cap), (Value.slice x532.a x532.len x532.cap), (Value.slice x533.a x533.len x533.cap), (Value.slice x534.a x534.len x534.cap), (Value.slice x535.a x535.len x535.cap), (Value.slice x536.a x536.len x536.cap), (Value.slice x537.a x537.len x537.cap)]).length = 11 ∧ (Program.underlying Go.Proofs.Tryd.prog 32).isSome = true ∧
 H.wr h280 (Addr.mk r3 0 none) ([(Value.bool x527), (Value.int .i64 x528), (Value.int .i64 x529), (Value.slice x530.a x530.len x530.cap), (Value.slice x531.a x531.len x531.cap), (Value.slice x532.a x532.len x532.cap), (Value.slice x533.a x533.len x533.cap), (Value.slice x534.a x534.len x534.cap), (Value.slice x535.a x535.len x535.cap), (Value.slice x536.a x536.len x536.cap), (Value.slice x537.a x537.len x537.cap)]) fun h583 =>
 ∃ x584 : SV, H.rd h583 (Addr.add (Addr.add (Addr.mk r1 0 none) 8) 0) (Value.slice x584.a x584.len x584.cap) ∧
 ∃ b585 : Addr, x584.a = some b585 ∧ 0 ≤ p1_p ∧ p1_p < ((x584.len : Nat) : Int) ∧
 ∃ x586 : Int, H.rd h583 (Addr.add (Addr.add b585 ((p1_p).toNat * 1)) 0) (Value.int .i64 x586) ∧
 ∃ b587 : Addr, x526.a = some b587 ∧ 0 ≤ x586 ∧ x586 < ((x526.len : Nat) : Int) ∧
 ∃ x588 : Int, H.rd h583 (Addr.add (Addr.add b587 ((x586).toNat * 1)) 0) (Value.int .i64 x588) ∧
 ∃ x589 : Bool, H.rd h583 (Addr.add (Addr.mk r3 0 none) 0) (Value.bool x589) ∧
 ∃ x590 : Int, H.rd h583 (Addr.add (Addr.mk r3 0 none) 1) (Value.int .i64 x590) ∧
 ∃ x591 : Int, H.rd h583 (Addr.add (Addr.mk r3 0 none) 2) (Value.int .i64 x591) ∧
 ∃ x592 : SV, H.rd h583 (Addr.add (Addr.mk r3 0 none) 3) (Value.slice x592.a x592.len x592.cap) ∧
 ∃ x593 : SV, H.rd h583 (Addr.add (Addr.mk r3 0 none) 4) (Value.slice x593.a x593.len x593.cap) ∧
 ∃ x594 : SV, H.rd h583 (Addr.add (Addr.mk r3 0 none) 5) (Value.slice x594.a x594.len x594.cap) ∧
 ∃ x595 : SV, H.rd h583 (Addr.add (Addr.mk r3 0 none) 6) (Value.slice x595.a x595.len x595.cap) ∧
 ∃ x596 : SV, H.rd h583 (Addr.add (Addr.mk r3 0 none) 7) (Value.slice x596.a x596.len x596.cap) ∧
 ∃ x597 : SV, H.rd h583 (Addr.add (Addr.mk r3 0 none) 8) (Value.slice x597.a x597.len x597.cap) ∧
 ∃ x598 : SV, H.rd h583 (Addr.add (Addr.mk r3 0 none) 9) (Value.slice x598.a x598.len x598.cap) ∧
 ∃ x599 : SV, H.rd h583 (Addr.add (Addr.mk r3 0 none) 10) (Value.slice x599.a x599.len x599.cap) ∧
 VRet h583 (Value.tuple (List.toArray [(Value.agg (List.toArray [(Value.bool x589), (Value.int .i64 x590), (Value.int .i64 x591), (Value.slice x592.a x592.len x592.cap), (Value.slice x593.a x593.len x593.cap), (Value.slice x594.a x594.len x594.cap), (Value.slice x595.a x595.len x595.cap), (Value.slice x596.a x596.len x596.cap), (Value.slice x597.a x597.len x597.cap), (Value.slice x598.a x598.len x598.cap), (Value.slice x599.a x599.len x599.cap)])), (Value.bool true), (Value.int .i64 x588), (Value.int .i64 0)])) post)) ∧
 (
 ∃ x600 : SV, H.rd h280 (Addr.add (Addr.add (Addr.mk r1 0 none) 8) 0) (Value.slice x600.a x600.len x600.cap) ∧
 ∃ b601 : Addr, x600.a = some b601 ∧ 0 ≤ p1_p ∧ p1_p < ((x600.len : Nat) : Int) ∧
 (
 ∃ x602 : Bool, H.rd h280 (Addr.add (Addr.mk r1 0 none) 0) (Value.bool x602) ∧
 ∃ x603 : Int, H.rd h280 (Addr.add (Addr.mk r1 0 none) 1) (Value.int .i64 x603) ∧
 ∃ x604 : Int, H.rd h280 (Addr.add (Addr.mk r1 0 none) 2) (Value.int .i64 x604) ∧
 ∃ x605 : SV, H.rd h280 (Addr.add (Addr.mk r1 0 none) 3) (Value.slice x605.a x605.len x605.cap) ∧
 ∃ x606 : SV, H.rd h280 (Addr.add (Addr.mk r1 0 none) 4) (Value.slice x606.a x606.len x606.cap) ∧
 ∃ x607 : SV, H.rd h280 (Addr.add (Addr.mk r1 0 none) 5) (Value.slice x607.a x607.len x607.cap) ∧
 ∃ x608 : SV, H.rd h280 (Addr.add (Addr.mk r1 0 none) 6) (Value.slice x608.a x608.len x608.cap) ∧
 ∃ x609 : SV, H.rd h280 (Addr.add (Addr.mk r1 0 none) 7) (Value.slice x609.a x609.len x609.cap) ∧
 ∃ x610 : SV, H.rd h280 (Addr.add (Addr.mk r1 0 none) 8) (Value.slice x610.a x610.len x610.cap) ∧
 ∃ x611 : SV, H.rd h280 (Addr.add (Addr.mk r1 0 none) 9) (Value.slice x611.a x611.len x611.cap) ∧
 ∃ x612 : SV, H.rd h280 (Addr.add (Addr.mk r1 0 none) 10) (Value.slice x612.a x612.len x612.cap) ∧
 (
 ∃ x613 : Int, H.rd h280 (Addr.add (Addr.add b601 ((p1_p).toNat * 1)) 0) (Value.int .i64 x613) ∧
 ∃ b614 : Addr, x526.a = some b614 ∧ 0 ≤ x613 ∧ x613 < ((x526.len : Nat) : Int) ∧
 (
 ∃ x615 : Int, H.rd h280 (Addr.add (Addr.add b614 ((x613).toNat * 1)) 0) (Value.int .i64 x615) ∧
 ([(Value.bool x602), (Value.int .i64 x603), (Value.int .i64 x604), (Value.slice x605.a x605.len x605.cap), (Value.slice x606.a x606.len x606.cap), (Value.slice x607.a x607.len x607.cap), (Value.slice x608.a x608.len x608.cap), (Value.slice x609.a x609.len x609.cap), (Value.slice x610.a x610.len x610.cap), (Value.slice x611.a x611.len x611.cap), (Value.slice x612.a x612.len x612.cap)]).length = 11 ∧ (Program.underlying Go.Proofs.Tryd.prog 32).isSome = true ∧
 H.wr h280 (Addr.mk r3 0 none) ([(Value.bool x602), (Value.int .i64 x603), (Value.int .i64 x604), (Value.slice x605.a x605.len x605.cap), (Value.slice x606.a x606.len x606.cap), (Value.slice x607.a x607.len x607.cap), (Value.slice x608.a x608.len x608.cap), (Value.slice x609.a x609.len x609.cap), (Value.slice x610.a x610.len x610.cap), (Value.slice x611.a x611.len x611.cap), (Value.slice x612.a x612.len x612.cap)]) fun h616 =>
 ∃ x617 : Bool, H.rd h616 (Addr.add (Addr.mk r3 0 none) 0) (Value.bool x617) ∧
 ∃ x618 : Int, H.rd h616 (Addr.add (Addr.mk r3 0 none) 1) (Value.int .i64 x618) ∧
 ∃ x619 : Int, H.rd h616 (Addr.add (Addr.mk r3 0 none) 2) (Value.int .i64 x619) ∧
 ∃ x620 : SV, H.rd h616 (Addr.add (Addr.mk r3 0 none) 3) (Value.slice x620.a x620.len x620.cap) ∧
 ∃ x621 : SV, H.rd h616 (Addr.add (Addr.mk r3 0 none) 4) (Value.slice x621.a x621.len x621.cap) ∧
 ∃ x622 : SV, H.rd h616 (Addr.add (Addr.mk r3 0 none) 5) (Value.slice x622.a x622.len x622.cap) ∧
 ∃ x623 : SV, H.rd h616 (Addr.add (Addr.mk r3 0 none) 6) (Value.slice x623.a x623.len x623.cap) ∧
 ∃ x624 : SV, H.rd h616 (Addr.add (Addr.mk r3 0 none) 7) (Value.slice x624.a x624.len x624.cap) ∧
 ∃ x625 : SV, H.rd h616 (Addr.add (Addr.mk r3 0 none) 8) (Value.slice x625.a x625.len x625.cap) ∧
 ∃ x626 : SV, H.rd h616 (Addr.add (Addr.mk r3 0 none) 9) (Value.slice x626.a x626.len x626.cap) ∧
 ∃ x627 : SV, H.rd h616 (Addr.add (Addr.mk r3 0 none) 10) (Value.slice x627.a x627.len x627.cap) ∧
 VRet h616 (Value.tuple (List.toArray [(Value.agg (List.toArray [(Value.bool x617), (Value.int .i64 x618), (Value.int .i64 x619), (Value.slice x620.a x620.len x620.cap), (Value.slice x621.a x621.len x621.cap), (Value.slice x622.a x622.len x622.cap), (Value.slice x623.a x623.len x623.cap), (Value.slice x624.a x624.len x624.cap), (Value.slice x625.a x625.len x625.cap), (Value.slice x626.a x626.len x626.cap), (Value.slice x627.a x627.len x627.cap)])), (Value.bool true), (Value.int .i64 x615), (Value.int .i64 0)])) post) ∧
 (
 ([(Value.bool x602), (Value.int .i64 x603), (Value.int .i64 x604), (Value.slice x605.a x605.len x605.cap), (Value.slice x606.a x606.len x606.cap), (Value.slice x607.a x607.len x607.cap), (Value.slice x608.a x608.len x608.cap), (Value.slice x609.a x609.len x609.cap), (Value.slice x610.a x610.len x610.cap), (Value.slice x611.a x611.len x611.cap), (Value.slice x612.a x612.len x612.cap)]).length = 11 ∧ (Program.underlying Go.Proofs.Tryd.prog 32).isSome = true ∧
 H.wr h280 (Addr.mk r3 0 none) ([(Value.bool x602), (Value.int .i64 x603), (Value.int .i64 x604), (Value.slice x605.a x605.len x605.cap), (Value.slice x606.a x606.len x606.cap), (Value.slice x607.a x607.len x607.cap), (Value.slice x608.a x608.len x608.cap), (Value.slice x609.a x609.len x609.cap), (Value.slice x610.a x610.len x610.cap), (Value.slice x611.a x611.len x611.cap), (Value.slice x612.a x612.len x612.cap)]) fun h628 =>
 ∃ x629 : Int, H.rd h628 (Addr.add (Addr.add b614 ((x613).toNat * 1)) 0) (Value.int .i64 x629) ∧
 ∃ x630 : Bool, H.rd h628 (Addr.add (Addr.mk r3 0 none) 0) (Value.bool x630) ∧
 ∃ x631 : Int, H.rd h628 (Addr.add (Addr.mk r3 0 none) 1) (Value.int .i64 x631) ∧
 ∃ x632 : Int, H.rd h628 (Addr.add (Addr.mk r3 0 none) 2) (Value.int .i64 x632) ∧
 ∃ x633 : SV, H.rd h628 (Addr.add (Addr.mk r3 0 none) 3) (Value.slice x633.a x633.len x633.cap) ∧
 ∃ x634 : SV, H.rd h628 (Addr.add (Addr.mk r3 0 none) 4) (Value.slice x634.a x634.len x634.cap) ∧
 ∃ x635 : SV, H.rd h628 (Addr.add (Addr.mk r3 0 none) 5) (Value.slice x635.a x635.len x635.cap) ∧
 ∃ x636 : SV, H.rd h628 (Addr.add (Addr.mk r3 0 none) 6) (Value.slice x636.a x636.len x636.cap) ∧
 ∃ x637 : SV, H.rd h628 (Addr.add (Addr.mk r3 0 none) 7) (Value.slice x637.a x637.len x637.cap) ∧
 ∃ x638 : SV, H.rd h628 (Addr.add (Addr.mk r3 0 none) 8) (Value.slice x638.a x638.len x638.cap) ∧
 ∃ x639 : SV, H.rd h628 (Addr.add (Addr.mk r3 0 none) 9) (Value.slice x639.a x639.len x639.cap) ∧
 ∃ x640 : SV, H.rd h628 (Addr.add (Addr.mk r3 0 none) 10) (Value.slice x640.a x640.len x640.cap) ∧
 VRet h628 (Value.tuple (List.toArray [(Value.agg (List.toArray [(Value.bool x630), (Value.int .i64 x631), (Value.int .i64 x632), (Value.slice x633.a x633.len x633.cap), (Value.slice x634.a x634.len x634.cap), (Value.slice x635.a x635.len x635.cap), (Value.slice x636.a x636.len x636.cap), (Value.slice x637.a x637.len x637.cap), (Value.slice x638.a x638.len x638.cap), (Value.slice x639.a x639.len x639.cap), (Value.slice x640.a x640.len x640.cap)])), (Value.bool true), (Value.int .i64 x629), (Value.int .i64 0)])) post)) ∧
 (
 ([(Value.bool x602), (Value.int .i64 x603), (Value.int .i64 x604), (Value.slice x605.a x605.len x605.cap), (Value.slice x606.a x606.len x606.cap), (Value.slice x607.a x607.len x607.cap), (Value.slice x608.a x608.len x608.cap), (Value.slice x609.a x609.len x609.cap), (Value.slice x610.a x610.len x610.cap), (Value.slice x611.a x611.len x611.cap), (Value.slice x612.a x612.len x612.cap)]).length = 11 ∧ (Program.underlying Go.Proofs.Tryd.prog 32).isSome = true ∧
 H.wr h280 (Addr.mk r3 0 none) ([(Value.bool x602), (Value.int .i64 x603), (Value.int .i64 x604), (Value.slice x605.a x605.len x605.cap), (Value.slice x606.a x606.len x606.cap), (Value.slice x607.a x607.len x607.cap), (Value.slice x608.a x608.len x608.cap), (Value.slice x609.a x609.len x609.cap), (Value.slice x610.a x610.len x610.cap), (Value.slice x611.a x611.len x611.cap), (Value.slice x612.a x612.len x612.cap)]) fun h641 =>
 ∃ x642 : Int, H.rd h641 (Addr.add (Addr.add b601 ((p1_p).toNat * 1)) 0) (Value.int .i64 x642) ∧
 ∃ b643 : Addr, x526.a = some b643 ∧ 0 ≤ x642 ∧ x642 < ((x526.len : Nat) : Int) ∧
 ∃ x644 : Int, H.rd h641 (Addr.add (Addr.add b643 ((x642).toNat * 1)) 0) (Value.int .i64 x644) ∧
 ∃ x645 : Bool, H.rd h641 (Addr.add (Addr.mk r3 0 none) 0) (Value.bool x645) ∧
 ∃ x646 : Int, H.rd h641 (Addr.add (Addr.mk r3 0 none) 1) (Value.int .i64 x646) ∧
 ∃ x647 : Int, H.rd h641 (Addr.add (Addr.mk r3 0 none) 2) (Value.int .i64 x647) ∧
 ∃ x648 : SV, H.rd h641 (Addr.add (Addr.mk r3 0 none) 3) (Value.slice x648.a x648.len x648.cap) ∧
 ∃ x649 : SV, H.rd h641 (Addr.add (Addr.mk r3 0 none) 4) (Value.slice x649.a x649.len x649.cap) ∧
 ∃ x650 : SV, H.rd h641 (Addr.add (Addr.mk r3 0 none) 5) (Value.slice x650.a x650.len x650.cap) ∧
 ∃ x651 : SV, H.rd h641 (Addr.add (Addr.mk r3 0 none) 6) (Value.slice x651.a x651.len x651.cap) ∧
 ∃ x652 : SV, H.rd h641 (Addr.add (Addr.mk r3 0 none) 7) (Value.slice x652.a x652.len x652.cap) ∧
 ∃ x653 : SV, H.rd h641 (Addr.add (Addr.mk r3 0 none) 8) (Value.slice x653.a x653.len x653.cap) ∧
 ∃ x654 : SV, H.rd h641 (Addr.add (Addr.mk r3 0 none) 9) (Value.slice x654.a x654.len x654.cap) ∧
 ∃ x655 : SV, H.rd h641 (Addr.add (Addr.mk r3 0 none) 10) (Value.slice x655.a x655.len x655.cap) ∧
 VRet h641 (Value.tuple (List.toArray [(Value.agg (List.toArray [(Value.bool x645), (Value.int .i64 x646), (Value.int .i64 x647), (Value.slice x648.a x648.len x648.cap), (Value.slice x649.a x649.len x649.cap), (Value.slice x650.a x650.len x650.cap), (Value.slice x651.a x651.len x651.cap), (Value.slice x652.a x652.len x652.cap), (Value.slice x653.a x653.len x653.cap), (Value.slice x654.a x654.len x654.cap), (Value.slice x655.a x655.len x655.cap)])), (Value.bool true), (Value.int .i64 x644), (Value.int .i64 0)])) post)) ∧
 (
 ∃ x656 : Int, H.rd h280 (Addr.add (Addr.add b601 ((p1_p).toNat * 1)) 0) (Value.int .i64 x656) ∧
 ∃ b657 : Addr, x526.a = some b657 ∧ 0 ≤ x656 ∧ x656 < ((x526.len : Nat) : Int) ∧
 (
 ∃ x658 : Bool, H.rd h280 (Addr.add (Addr.mk r1 0 none) 0) (Value.bool x658) ∧
 ∃ x659 : Int, H.rd h280 (Addr.add (Addr.mk r1 0 none) 1) (Value.int .i64 x659) ∧
 ∃ x660 : Int, H.rd h280 (Addr.add (Addr.mk r1 0 none) 2) (Value.int .i64 x660) ∧
 ∃ x661 : SV, H.rd h280 (Addr.add (Addr.mk r1 0 none) 3) (Value.slice x661.a x661.len x661.cap) ∧
 ∃ x662 : SV, H.rd h280 (Addr.add (Addr.mk r1 0 none) 4) (Value.slice x662.a x662.len x662.cap) ∧
 ∃ x663 : SV, H.rd h280 (Addr.add (Addr.mk r1 0 none) 5) (Value.slice x663.a x663.len x663.cap) ∧
 ∃ x664 : SV, H.rd h280 (Addr.add (Addr.mk r1 0 none) 6) (Value.slice x664.a x664.len x664.cap) ∧
 ∃ x665 : SV, H.rd h280 (Addr.add (Addr.mk r1 0 none) 7) (Value.slice x665.a x665.len x665.cap) ∧
 ∃ x666 : SV, H.rd h280 (Addr.add (Addr.mk r1 0 none) 8) (Value.slice x666.a x666.len x666.cap) ∧
 ∃ x667 : SV, H.rd h280 (Addr.add (Addr.mk r1 0 none) 9) (Value.slice x667.a x667.len x667.cap) ∧
 ∃ x668 : SV, H.rd h280 (Addr.add (Addr.mk r1 0 none) 10) (Value.slice x668.a x668.len x668.cap) ∧
 (
 ∃ x669 : Int, H.rd h280 (Addr.add (Addr.add b657 ((x656).toNat * 1)) 0) (Value.int .i64 x669) ∧
 ([(Value.bool x658), (Value.int .i64 x659), (Value.int .i64 x660), (Value.slice x661.a x661.len x661.cap), (Value.slice x662.a x662.len x662.cap), (Value.slice x663.a x663.len x663.cap), (Value.slice x664.a x664.len x664.cap), (Value.slice x665.a x665.len x665.cap), (Value.slice x666.a x666.len x666.cap), (Value.slice x667.a x667.len x667.cap), (Value.slice x668.a x668.len x668.cap)]).length = 11 ∧ (Program.underlying Go.Proofs.Tryd.prog 32).isSome = true ∧
 H.wr h280 (Addr.mk r3 0 none) ([(Value.bool x658), (Value.int .i64 x659), (Value.int .i64 x660), (Value.slice x661.a x661.len x661.cap), (Value.slice x662.a x662.len x662.cap), (Value.slice x663.a x663.len x663.cap), (Value.slice x664.a x664.len x664.cap), (Value.slice x665.a x665.len x665.cap), (Value.slice x666.a x666.len x666.cap), (Value.slice x667.a x667.len x667.cap), (Value.slice x668.a x668.len x668.cap)]) fun h670 =>
 ∃ x671 : Bool, H.rd h670 (Addr.add (Addr.mk r3 0 none) 0) (Value.bool x671) ∧
 ∃ x672 : Int, H.rd h670 (Addr.add (Addr.mk r3 0 none) 1) (Value.int .i64 x672) ∧
 ∃ x673 : Int, H.rd h670 (Addr.add (Addr.mk r3 0 none) 2) (Value.int .i64 x673) ∧
 ∃ x674 : SV, H.rd h670 (Addr.add (Addr.mk r3 0 none) 3) (Value.slice x674.a x674.len x674.cap) ∧
 ∃ x675 : SV, H.rd h670 (Addr.add (Addr.mk r3 0 none) 4) (Value.slice x675.a x675.len x675.cap) ∧
 ∃ x676 : SV, H.rd h670 (Addr.add (Addr.mk r3 0 none) 5) (Value.slice x676.a x676.len x676.cap) ∧
 ∃ x677 : SV, H.rd h670 (Addr.add (Addr.mk r3 0 none) 6) (Value.slice x677.a x677.len x677.cap) ∧
 ∃ x678 : SV, H.rd h670 (Addr.add (Addr.mk r3 0 none) 7) (Value.slice x678.a x678.len x678.cap) ∧
 ∃ x679 : SV, H.rd h670 (Addr.add (Addr.mk r3 0 none) 8) (Value.slice x679.a x679.len x679.cap) ∧
 ∃ x680 : SV, H.rd h670 (Addr.add (Addr.mk r3 0 none) 9) (Value.slice x680.a x680.len x680.cap) ∧
 ∃ x681 : SV, H.rd h670 (Addr.add (Addr.mk r3 0 none) 10) (Value.slice x681.a x681.len x681.cap) ∧
 VRet h670 (Value.tuple (List.toArray [(Value.agg (List.toArray [(Value.bool x671), (Value.int .i64 x672), (Value.int .i64 x673), (Value.slice x674.a x674.len x674.cap), (Value.slice x675.a x675.len x675.cap), (Value.slice x676.a x676.len x676.cap), (Value.slice x677.a x677.len x677.cap), (Value.slice x678.a x678.len x678.cap), (Value.slice x679.a x679.len x679.cap), (Value.slice x680.a x680.len x680.cap), (Value.slice x681.a x681.len x681.cap)])), (Value.bool true), (Value.int .i64 x669), (Value.int .i64 0)])) post) ∧
 (
 ([(Value.bool x658), (Value.int .i64 x659), (Value.int .i64 x660), (Value.slice x661.a x661.len x661.cap), (Value.slice x662.a x662.len x662.cap), (Value.slice x663.a x663.len x663.cap), (Value.slice x664.a x664.len x664.cap), (Value.slice x665.a x665.len x665.cap), (Value.slice x666.a x666.len x666.cap), (Value.slice x667.a x667.len x667.cap), (Value.slice x668.a x668.len x668.cap)]).length = 11 ∧ (Program.underlying Go.Proofs.Tryd.prog 32).isSome = true ∧
 H.wr h280 (Addr.mk r3 0 none) ([(Value.bool x658), (Value.int .i64 x659), (Value.int .i64 x660), (Value.slice x661.a x661.len x661.cap), (Value.slice x662.a x662.len x662.cap), (Value.slice x663.a x663.len x663.cap), (Value.slice x664.a x664.len x664.cap), (Value.slice x665.a x665.len x665.cap), (Value.slice x666.a x666.len x666.cap), (Value.slice x667.a x667.len x667.cap), (Value.slice x668.a x668.len x668.cap)]) fun h682 =>
 ∃ x683 : Int, H.rd h682 (Addr.add (Addr.add b657 ((x656).toNat * 1)) 0) (Value.int .i64 x683) ∧
 ∃ x684 : Bool, H.rd h682 (Addr.add (Addr.mk r3 0 none) 0) (Value.bool x684) ∧
 ∃ x685 : Int, H.rd h682 (Addr.add (Addr.mk r3 0 none) 1) (Value.int .i64 x685) ∧
 ∃ x686 : Int, H.rd h682 (Addr.add (Addr.mk r3 0 none) 2) (Value.int .i64 x686) ∧
 ∃ x687 : SV, H.rd h682 (Addr.add (Addr.mk r3 0 none) 3) (Value.slice x687.a x687.len x687.cap) ∧
 ∃ x688 : SV, H.rd h682 (Addr.add (Addr.mk r3 0 none) 4) (Value.slice x688.a x688.len x688.cap) ∧
 ∃ x689 : SV, H.rd h682 (Addr.add (Addr.mk r3 0 none) 5) (Value.slice x689.a x689.len x689.cap) ∧
 ∃ x690 : SV, H.rd h682 (Addr.add (Addr.mk r3 0 none) 6) (Value.slice x690.a x690.len x690.cap) ∧
 ∃ x691 : SV, H.rd h682 (Addr.add (Addr.mk r3 0 none) 7) (Value.slice x691.a x691.len x691.cap) ∧
 ∃ x692 : SV, H.rd h682 (Addr.add (Addr.mk r3 0 none) 8) (Value.slice x692.a x692.len x692.cap) ∧
 ∃ x693 : SV, H.rd h682 (Addr.add (Addr.mk r3 0 none) 9) (Value.slice x693.a x693.len x693.cap) ∧
 ∃ x694 : SV, H.rd h682 (Addr.add (Addr.mk r3 0 none) 10) (Value.slice x694.a x694.len x694.cap) ∧
 VRet h682 (Value.tuple (List.toArray [(Value.agg (List.toArray [(Value.bool x684), (Value.int .i64 x685), (Value.int .i64 x686), (Value.slice x687.a x687.len x687.cap), (Value.slice x688.a x688.len x688.cap), (Value.slice x689.a x689.len x689.cap), (Value.slice x690.a x690.len x690.cap), (Value.slice x691.a x691.len x691.cap), (Value.slice x692.a x692.len x692.cap), (Value.slice x693.a x693.len x693.cap), (Value.slice x694.a x694.len x694.cap)])), (Value.bool true), (Value.int .i64 x683), (Value.int .i64 0)])) post)) ∧
 (
 ∃ x695 : Int, H.rd h280 (Addr.add (Addr.add b657 ((x656).toNat * 1)) 0) (Value.int .i64 x695) ∧
 ∃ x696 : Bool, H.rd h280 (Addr.add (Addr.mk r1 0 none) 0) (Value.bool x696) ∧
 ∃ x697 : Int, H.rd h280 (Addr.add (Addr.mk r1 0 none) 1) (Value.int .i64 x697) ∧
 ∃ x698 : Int, H.rd h280 (Addr.add (Addr.mk r1 0 none) 2) (Value.int .i64 x698) ∧
 ∃ x699 : SV, H.rd h280 (Addr.add (Addr.mk r1 0 none) 3) (Value.slice x699.a x699.len x699.cap) ∧
 ∃ x700 : SV, H.rd h280 (Addr.add (Addr.mk r1 0 none) 4) (Value.slice x700.a x700.len x700.cap) ∧
 ∃ x701 : SV, H.rd h280 (Addr.add (Addr.mk r1 0 none) 5) (Value.slice x701.a x701.len x701.cap) ∧
 ∃ x702 : SV, H.rd h280 (Addr.add (Addr.mk r1 0 none) 6) (Value.slice x702.a x702.len x702.cap) ∧
 ∃ x703 : SV, H.rd h280 (Addr.add (Addr.mk r1 0 none) 7) (Value.slice x703.a x703.len x703.cap) ∧
 ∃ x704 : SV, H.rd h280 (Addr.add (Addr.mk r1 0 none) 8) (Value.slice x704.a x704.len x704.cap) ∧
 ∃ x705 : SV, H.rd h280 (Addr.add (Addr.mk r1 0 none) 9) (Value.slice x705.a x705.len x705.cap) ∧
 ∃ x706 : SV, H.rd h280 (Addr.add (Addr.mk r1 0 none) 10) (Value.slice x706.a x706.len x706.cap) ∧
 ([(Value.bool x696), (Value.int .i64 x697), (Value.int .i64 x698), (Value.slice x699.a x699.len x699.cap), (Value.slice x700.a x700.len x700.cap), (Value.slice x701.a x701.len x701.cap), (Value.slice x702.a x702.len x702.cap), (Value.slice x703.a x703.len x703.cap), (Value.slice x704.a x704.len x704.cap), (Value.slice x705.a x705.len x705.cap), (Value.slice x706.a x706.len x706.cap)]).length = 11 ∧ (Program.underlying Go.Proofs.Tryd.prog 32).isSome = true ∧
 H.wr h280 (Addr.mk r3 0 none) ([(Value.bool x696), (Value.int .i64 x697), (Value.int .i64 x698), (Value.slice x699.a x699.len x699.cap), (Value.slice x700.a x700.len x700.cap), (Value.slice x701.a x701.len x701.cap), (Value.slice x702.a x702.len x702.cap), (Value.slice x703.a x703.len x703.cap), (Value.slice x704.a x704.len x704.cap), (Value.slice x705.a x705.len x705.cap), (Value.slice x706.a x706.len x706.cap)]) fun h707 =>
 ∃ x708 : Bool, H.rd h707 (Addr.add (Addr.mk r3 0 none) 0) (Value.bool x708) ∧
 ∃ x709 : Int, H.rd h707 (Addr.add (Addr.mk r3 0 none) 1) (Value.int .i64 x709) ∧
 ∃ x710 : Int, H.rd h707 (Addr.add (Addr.mk r3 0 none) 2) (Value.int .i64 x710) ∧
 ∃ x711 : SV, H.rd h707 (Addr.add (Addr.mk r3 0 none) 3) (Value.slice x711.a x711.len x711.cap) ∧
 ∃ x712 : SV, H.rd h707 (Addr.add (Addr.mk r3 0 none) 4) (Value.slice x712.a x712.len x712.cap) ∧
 ∃ x713 : SV, H.rd h707 (Addr.add (Addr.mk r3 0 none) 5) (Value.slice x713.a x713.len x713.cap) ∧
 ∃ x714 : SV, H.rd h707 (Addr.add (Addr.mk r3 0 none) 6) (Value.slice x714.a x714.len x714.cap) ∧
 ∃ x715 : SV, H.rd h707 (Addr.add (Addr.mk r3 0 none) 7) (Value.slice x715.a x715.len x715.cap) ∧
 ∃ x716 : SV, H.rd h707 (Addr.add (Addr.mk r3 0 none) 8) (Value.slice x716.a x716.len x716.cap) ∧
 ∃ x717 : SV, H.rd h707 (Addr.add (Addr.mk r3 0 none) 9) (Value.slice x717.a x717.len x717.cap) ∧
 ∃ x718 : SV, H.rd h707 (Addr.add (Addr.mk r3 0 none) 10) (Value.slice x718.a x718.len x718.cap) ∧
 VRet h707 (Value.tuple (List.toArray [(Value.agg (List.toArray [(Value.bool x708), (Value.int .i64 x709), (Value.int .i64 x710), (Value.slice x711.a x711.len x711.cap), (Value.slice x712.a x712.len x712.cap), (Value.slice x713.a x713.len x713.cap), (Value.slice x714.a x714.len x714.cap), (Value.slice x715.a x715.len x715.cap), (Value.slice x716.a x716.len x716.cap), (Value.slice x717.a x717.len x717.cap), (Value.slice x718.a x718.len x718.cap)])), (Value.bool true), (Value.int .i64 x695), (Value.int .i64 0)])) post)))) ∧
 (
 ∃ x719 : SV, H.rd h280 (Addr.add (Addr.add (Addr.mk r1 0 none) 8) 0) (Value.slice x719.a x719.len x719.cap) ∧
 ∃ b720 : Addr, x719.a = some b720 ∧ 0 ≤ p1_p ∧ p1_p < ((x719.len : Nat) : Int) ∧
 (
 ∃ x721 : Bool, H.rd h280 (Addr.add (Addr.mk r1 0 none) 0) (Value.bool x721) ∧
 ∃ x722 : Int, H.rd h280 (Addr.add (Addr.mk r1 0 none) 1) (Value.int .i64 x722) ∧
 ∃ x723 : Int, H.rd h280 (Addr.add (Addr.mk r1 0 none) 2) (Value.int .i64 x723) ∧
 ∃ x724 : SV, H.rd h280 (Addr.add (Addr.mk r1 0 none) 3) (Value.slice x724.a x724.len x724.cap) ∧
 ∃ x725 : SV, H.rd h280 (Addr.add (Addr.mk r1 0 none) 4) (Value.slice x725.a x725.len x725.cap) ∧
 ∃ x726 : SV, H.rd h280 (Addr.add (Addr.mk r1 0 none) 5) (Value.slice x726.a x726.len x726.cap) ∧
 ∃ x727 : SV, H.rd h280 (Addr.add (Addr.mk r1 0 none) 6) (Value.slice x727.a x727.len x727.cap) ∧
 ∃ x728 : SV, H.rd h280 (Addr.add (Addr.mk r1 0 none) 7) (Value.slice x728.a x728.len x728.cap) ∧
 ∃ x729 : SV, H.rd h280 (Addr.add (Addr.mk r1 0 none) 8) (Value.slice x729.a x729.len x729.cap) ∧
 ∃ x730 : SV, H.rd h280 (Addr.add (Addr.mk r1 0 none) 9) (Value.slice x730.a x730.len x730.cap) ∧
 ∃ x731 : SV, H.rd h280 (Addr.add (Addr.mk r1 0 none) 10) (Value.slice x731.a x731.len x731.cap) ∧
 (
 ∃ x732 : SV, H.rd h280 (Addr.add (Addr.add (Addr.mk r1 0 none) 3) 0) (Value.slice x732.a x732.len x732.cap) ∧
 (
 ∃ x733 : Int, H.rd h280 (Addr.add (Addr.add b720 ((p1_p).toNat * 1)) 0) (Value.int .i64 x733) ∧
 ∃ b734 : Addr, x732.a = some b734 ∧ 0 ≤ x733 ∧ x733 < ((x732.len : Nat) : Int) ∧
 (
 ∃ x735 : Int, H.rd h280 (Addr.add (Addr.add b734 ((x733).toNat * 1)) 0) (Value.int .i64 x735) ∧
 ([(Value.bool x721), (Value.int .i64 x722), (Value.int .i64 x723), (Value.slice x724.a x724.len x724.cap), (Value.slice x725.a x725.len x725.cap), (Value.slice x726.a x726.len x726.cap), (Value.slice x727.a x727.len x727.cap), (Value.slice x728.a x728.len x728.cap), (Value.slice x729.a x729.len x729.cap), (Value.slice x730.a x730.len x730.cap), (Value.slice x731.a x731.len x731.cap)]).length = 11 ∧ (Program.underlying Go.Proofs.Tryd.prog 32).isSome = true ∧
 H.wr h280 (Addr.mk r3 0 none) ([(Value.bool x721), (Value.int .i64 x722), (Value.int .i64 x723), (Value.slice x724.a x724.len x724.cap), (Value.slice x725.a x725.len x725.cap), (Value.slice x726.a x726.len x726.cap), (Value.slice x727.a x727.len x727.cap), (Value.slice x728.a x728.len x728.cap), (Value.slice x729.a x729.len x729.cap), (Value.slice x730.a x730.len x730.cap), (Value.slice x731.a x731.len x731.cap)]) fun h736 =>
 ∃ x737 : Bool, H.rd h736 (Addr.add (Addr.mk r3 0 none) 0) (Value.bool x737) ∧
 ∃ x738 : Int, H.rd h736 (Addr.add (Addr.mk r3 0 none) 1) (Value.int .i64 x738) ∧
 ∃ x739 : Int, H.rd h736 (Addr.add (Addr.mk r3 0 none) 2) (Value.int .i64 x739) ∧
 ∃ x740 : SV, H.rd h736 (Addr.add (Addr.mk r3 0 none) 3) (Value.slice x740.a x740.len x740.cap) ∧
 ∃ x741 : SV, H.rd h736 (Addr.add (Addr.mk r3 0 none) 4) (Value.slice x741.a x741.len x741.cap) ∧
 ∃ x742 : SV, H.rd h736 (Addr.add (Addr.mk r3 0 none) 5) (Value.slice x742.a x742.len x742.cap) ∧
 ∃ x743 : SV, H.rd h736 (Addr.add (Addr.mk r3 0 none) 6) (Value.slice x743.a x743.len x743.cap) ∧
 ∃ x744 : SV, H.rd h736 (Addr.add (Addr.mk r3 0 none) 7) (Value.slice x744.a x744.len x744.cap) ∧
 ∃ x745 : SV, H.rd h736 (Addr.add (Addr.mk r3 0 none) 8) (Value.slice x745.a x745.len x745.cap) ∧
 ∃ x746 : SV, H.rd h736 (Addr.add (Addr.mk r3 0 none) 9) (Value.slice x746.a x746.len x746.cap) ∧
 ∃ x747 : SV, H.rd h736 (Addr.add (Addr.mk r3 0 none) 10) (Value.slice x747.a x747.len x747.cap) ∧
 VRet h736 (Value.tuple (List.toArray [(Value.agg (List.toArray [(Value.bool x737), (Value.int .i64 x738), (Value.int .i64 x739), (Value.slice x740.a x740.len x740.cap), (Value.slice x741.a x741.len x741.cap), (Value.slice x742.a x742.len x742.cap), (Value.slice x743.a x743.len x743.cap), (Value.slice x744.a x744.len x744.cap), (Value.slice x745.a x745.len x745.cap), (Value.slice x746.a x746.len x746.cap), (Value.slice x747.a x747.len x747.cap)])), (Value.bool true), (Value.int .i64 x735), (Value.int .i64 0)])) post) ∧
 (
 ([(Value.bool x721), (Value.int .i64 x722), (Value.int .i64 x723), (Value.slice x724.a x724.len x724.cap), (Value.slice x725.a x725.len x725.cap), (Value.slice x726.a x726.len x726.cap), (Value.slice x727.a x727.len x727.cap), (Value.slice x728.a x728.len x728.cap), (Value.slice x729.a x729.len x729.cap), (Value.slice x730.a x730.len x730.cap), (Value.slice x731.a x731.len x731.cap)]).length = 11 ∧ (Program.underlying Go.Proofs.Tryd.prog 32).isSome = true ∧
 H.wr h280 (Addr.mk r3 0 none) ([(Value.bool x721), (Value.int .i64 x722), (Value.int .i64 x723), (Value.slice x724.a x724.len x724.cap), (Value.slice x725.a x725.len x725.cap), (Value.slice x726.a x726.len x726.cap), (Value.slice x727.a x727.len x727.cap), (Value.slice x728.a x728.len x728.cap), (Value.slice x729.a x729.len x729.cap), (Value.slice x730.a x730.len x730.cap), (Value.slice x731.a x731.len x731.cap)]) fun h748 =>
 ∃ x749 : Int, H.rd h748 (Addr.add (Addr.add b734 ((x733).toNat * 1)) 0) (Value.int .i64 x749) ∧
 ∃ x750 : Bool, H.rd h748 (Addr.add (Addr.mk r3 0 none) 0) (Value.bool x750) ∧
 ∃ x751 : Int, H.rd h748 (Addr.add (Addr.mk r3 0 none) 1) (Value.int .i64 x751) ∧
 ∃ x752 : Int, H.rd h748 (Addr.add (Addr.mk r3 0 none) 2) (Value.int .i64 x752) ∧
 ∃ x753 : SV, H.rd h748 (Addr.add (Addr.mk r3 0 none) 3) (Value.slice x753.a x753.len x753.cap) ∧
 ∃ x754 : SV, H.rd h748 (Addr.add (Addr.mk r3 0 none) 4) (Value.slice x754.a x754.len x754.cap) ∧
 ∃ x755 : SV, H.rd h748 (Addr.add (Addr.mk r3 0 none) 5) (Value.slice x755.a x755.len x755.cap) ∧
 ∃ x756 : SV, H.rd h748 (Addr.add (Addr.mk r3 0 none) 6) (Value.slice x756.a x756.len x756.cap) ∧
 ∃ x757 : SV, H.rd h748 (Addr.add (Addr.mk r3 0 none) 7) (Value.slice x757.a x757.len x757.cap) ∧
 ∃ x758 : SV, H.rd h748 (Addr.add (Addr.mk r3 0 none) 8) (Value.slice x758.a x758.len x758.cap) ∧
 ∃ x759 : SV, H.rd h748 (Addr.add (Addr.mk r3 0 none) 9) (Value.slice x759.a x759.len x759.cap) ∧
 ∃ x760 : SV, H.rd h748 (Addr.add (Addr.mk r3 0 none) 10) (Value.slice x760.a x760.len x760.cap) ∧
 VRet h748 (Value.tuple (List.toArray [(Value.agg (List.toArray [(Value.bool x750), (Value.int .i64 x751), (Value.int .i64 x752), (Value.slice x753.a x753.len x753.cap), (Value.slice x754.a x754.len x754.cap), (Value.slice x755.a x755.len x755.cap), (Value.slice x756.a x756.len x756.cap), (Value.slice x757.a x757.len x757.cap), (Value.slice x758.a x758.len x758.cap), (Value.slice x759.a x759.len x759.cap), (Value.slice x760.a x760.len x760.cap)])), (Value.bool true), (Value.int .i64 x749), (Value.int .i64 0)])) post)) ∧
 (
 ([(Value.bool x721), (Value.int .i64 x722), (Value.int .i64 x723), (Value.slice x724.a x724.len x724.cap), (Value.slice x725.a x725.len x725.cap), (Value.slice x726.a x726.len x726.cap), (Value.slice x727.a x727.len x727.cap), (Value.slice x728.a x728.len x728.cap), (Value.slice x729.a x729.len x729.cap), (Value.slice x730.a x730.len x730.cap), (Value.slice x731.a x731.len x731.cap)]).length = 11 ∧ (Program.underlying Go.Proofs.Tryd.prog 32).isSome = true ∧
 H.wr h280 (Addr.mk r3 0 none) ([(Value.bool x721), (Value.int .i64 x722), (Value.int .i64 x723), (Value.slice x724.a x724.len x724.cap), (Value.slice x725.a x725.len x725.cap), (Value.slice x726.a x726.len x726.cap), (Value.slice x727.a x727.len x727.cap), (Value.slice x728.a x728.len x728.cap), (Value.slice x729.a x729.len x729.cap), (Value.slice x730.a x730.len x730.cap), (Value.slice x731.a x731.len x731.cap)]) fun h761 =>
 ∃ x762 : Int, H.rd h761 (Addr.add (Addr.add b720 ((p1_p).toNat * 1)) 0) (Value.int .i64 x762) ∧
 ∃ b763 : Addr, x732.a = some b763 ∧ 0 ≤ x762 ∧ x762 < ((x732.len : Nat) : Int) ∧
 ∃ x764 : Int, H.rd h761 (Addr.add (Addr.add b763 ((x762).toNat * 1)) 0) (Value.int .i64 x764) ∧
 ∃ x765 : Bool, H.rd h761 (Addr.add (Addr.mk r3 0 none) 0) (Value.bool x765) ∧
 ∃ x766 : Int, H.rd h761 (Addr.add (Addr.mk r3 0 none) 1) (Value.int .i64 x766) ∧
 ∃ x767 : Int, H.rd h761 (Addr.add (Addr.mk r3 0 none) 2) (Value.int .i64 x767) ∧
 ∃ x768 : SV, H.rd h761 (Addr.add (Addr.mk r3 0 none) 3) (Value.slice x768.a x768.len x768.cap) ∧
 ∃ x769 : SV, H.rd h761 (Addr.add (Addr.mk r3 0 none) 4) (Value.slice x769.a x769.len x769.cap) ∧
 ∃ x770 : SV, H.rd h761 (Addr.add (Addr.mk r3 0 none) 5) (Value.slice x770.a x770.len x770.cap) ∧
 ∃ x771 : SV, H.rd h761 (Addr.add (Addr.mk r3 0 none) 6) (Value.slice x771.a x771.len x771.cap) ∧
 ∃ x772 : SV, H.rd h761 (Addr.add (Addr.mk r3 0 none) 7) (Value.slice x772.a x772.len x772.cap) ∧
 ∃ x773 : SV, H.rd h761 (Addr.add (Addr.mk r3 0 none) 8) (Value.slice x773.a x773.len x773.cap) ∧
 ∃ x774 : SV, H.rd h761 (Addr.add (Addr.mk r3 0 none) 9) (Value.slice x774.a x774.len x774.cap) ∧
 ∃ x775 : SV, H.rd h761 (Addr.add (Addr.mk r3 0 none) 10) (Value.slice x775.a x775.len x775.cap) ∧
 VRet h761 (Value.tuple (List.toArray [(Value.agg (List.toArray [(Value.bool x765), (Value.int .i64 x766), (Value.int .i64 x767), (Value.slice x768.a x768.len x768.cap), (Value.slice x769.a x769.len x769.cap), (Value.slice x770.a x770.len x770.cap), (Value.slice x771.a x771.len x771.cap), (Value.slice x772.a x772.len x772.cap), (Value.slice x773.a x773.len x773.cap), (Value.slice x774.a x774.len x774.cap), (Value.slice x775.a x775.len x775.cap)])), (Value.bool true), (Value.int .i64 x764), (Value.int .i64 0)])) post)) ∧
 (
 (
 ∃ x776 : Int, H.rd h280 (Addr.add (Addr.add b720 ((p1_p).toNat * 1)) 0) (Value.int .i64 x776) ∧
 (
 ∃ x777 : SV, H.rd h280 (Addr.add (Addr.add (Addr.mk r1 0 none) 3) 0) (Value.slice x777.a x777.len x777.cap) ∧
 ∃ b778 : Addr, x777.a = some b778 ∧ 0 ≤ x776 ∧ x776 < ((x777.len : Nat) : Int) ∧
 (
 ∃ x779 : Int, H.rd h280 (Addr.add (Addr.add b778 ((x776).toNat * 1)) 0) (Value.int .i64 x779) ∧
 ([(Value.bool x721), (Value.int .i64 x722), (Value.int .i64 x723), (Value.slice x724.a x724.len x724.cap), (Value.slice x725.a x725.len x725.cap), (Value.slice x726.a x726.len x726.cap), (Value.slice x727.a x727.len x727.cap), (Value.slice x728.a x728.len x728.cap), (Value.slice x729.a x729.len x729.cap), (Value.slice x730.a x730.len x730.cap), (Value.slice x731.a x731.len x731.cap)]).length = 11 ∧ (Program.underlying Go.Proofs.Tryd.prog 32).isSome = true ∧
 H.wr h280 (Addr.mk r3 0 none) ([(Value.bool x721), (Value.int .i64 x722), (Value.int .i64 x723), (Value.slice x724.a x724.len x724.cap), (Value.slice x725.a x725.len x725.cap), (Value.slice x726.a x726.len x726.cap), (Value.slice x727.a x727.len x727.cap), (Value.slice x728.a x728.len x728.cap), (Value.slice x729.a x729.len x729.cap), (Value.slice x730.a x730.len x730.cap), (Value.slice x731.a x731.len x731.cap)]) fun h780 =>
 ∃ x781 : Bool, H.rd h780 (Addr.add (Addr.mk r3 0 none) 0) (Value.bool x781) ∧
 ∃ x782 : Int, H.rd h780 (Addr.add (Addr.mk r3 0 none) 1) (Value.int .i64 x782) ∧
 ∃ x783 : Int, H.rd h780 (Addr.add (Addr.mk r3 0 none) 2) (Value.int .i64 x783) ∧
 ∃ x784 : SV, H.rd h780 (Addr.add (Addr.mk r3 0 none) 3) (Value.slice x784.a x784.len x784.cap) ∧
 ∃ x785 : SV, H.rd h780 (Addr.add (Addr.mk r3 0 none) 4) (Value.slice x785.a x785.len x785.cap) ∧
 ∃ x786 : SV, H.rd h780 (Addr.add (Addr.mk r3 0 none) 5) (Value.slice x786.a x786.len x786.cap) ∧
 ∃ x787 : SV, H.rd h780 (Addr.add (Addr.mk r3 0 none) 6) (Value.slice x787.a x787.len x787.cap) ∧
 ∃ x788 : SV, H.rd h780 (Addr.add (Addr.mk r3 0 none) 7) (Value.slice x788.a x788.len x788.cap) ∧
 ∃ x789 : SV, H.rd h780 (Addr.add (Addr.mk r3 0 none) 8) (Value.slice x789.a x789.len x789.cap) ∧
 ∃ x790 : SV, H.rd h780 (Addr.add (Addr.mk r3 0 none) 9) (Value.slice x790.a x790.len x790.cap) ∧
 ∃ x791 : SV, H.rd h780 (Addr.add (Addr.mk r3 0 none) 10) (Value.slice x791.a x791.len x791.cap) ∧
 VRet h780 (Value.tuple (List.toArray [(Value.agg (List.toArray [(Value.bool x781), (Value.int .i64 x782), (Value.int .i64 x783), (Value.slice x784.a x784.len x784.cap), (Value.slice x785.a x785.len x785.cap), (Value.slice x786.a x786.len x786.cap), (Value.slice x787.a x787.len x787.cap), (Value.slice x788.a x788.len x788.cap), (Value.slice x789.a x789.len x789.cap), (Value.slice x790.a x790.len x790.cap), (Value.slice x791.a x791.len x791.cap)])), (Value.bool true), (Value.int .i64 x779), (Value.int .i64 0)])) post) ∧
 (
 ([(Value.bool x721), (Value.int .i64 x722), (Value.int .i64 x723), (Value.slice x724.a x724.len x724.cap), (Value.slice x725.a x725.len x725.cap), (Value.slice x726.a x726.len x726.cap), (Value.slice x727.a x727.len x727.cap), (Value.slice x728.a x728.len x728.cap), (Value.slice x729.a x729.len x729.cap), (Value.slice x730.a x730.len x730.cap), (Value.slice x731.a x731.len x731.cap)]).length = 11 ∧ (Program.underlying Go.Proofs.Tryd.prog 32).isSome = true ∧
 H.wr h280 (Addr.mk r3 0 none) ([(Value.bool x721), (Value.int .i64 x722), (Value.int .i64 x723), (Value.slice x724.a x724.len x724.cap), (Value.slice x725.a x725.len x725.cap), (Value.slice x726.a x726.len x726.cap), (Value.slice x727.a x727.len x727.cap), (Value.slice x728.a x728.len x728.cap), (Value.slice x729.a x729.len x729.cap), (Value.slice x730.a x730.len x730.cap), (Value.slice x731.a x731.len x731.cap)]) fun h792 =>
 ∃ x793 : Int, H.rd h792 (Addr.add (Addr.add b778 ((x776).toNat * 1)) 0) (Value.int .i64 x793) ∧
 ∃ x794 : Bool, H.rd h792 (Addr.add (Addr.mk r3 0 none) 0) (Value.bool x794) ∧
 ∃ x795 : Int, H.rd h792 (Addr.add (Addr.mk r3 0 none) 1) (Value.int .i64 x795) ∧
 ∃ x796 : Int, H.rd h792 (Addr.add (Addr.mk r3 0 none) 2) (Value.int .i64 x796) ∧
 ∃ x797 : SV, H.rd h792 (Addr.add (Addr.mk r3 0 none) 3) (Value.slice x797.a x797.len x797.cap) ∧
 ∃ x798 : SV, H.rd h792 (Addr.add (Addr.mk r3 0 none) 4) (Value.slice x798.a x798.len x798.cap) ∧
 ∃ x799 : SV, H.rd h792 (Addr.add (Addr.mk r3 0 none) 5) (Value.slice x799.a x799.len x799.cap) ∧
 ∃ x800 : SV, H.rd h792 (Addr.add (Addr.mk r3 0 none) 6) (Value.slice x800.a x800.len x800.cap) ∧
 ∃ x801 : SV, H.rd h792 (Addr.add (Addr.mk r3 0 none) 7) (Value.slice x801.a x801.len x801.cap) ∧
 ∃ x802 : SV, H.rd h792 (Addr.add (Addr.mk r3 0 none) 8) (Value.slice x802.a x802.len x802.cap) ∧
 ∃ x803 : SV, H.rd h792 (Addr.add (Addr.mk r3 0 none) 9) (Value.slice x803.a x803.len x803.cap) ∧
 ∃ x804 : SV, H.rd h792 (Addr.add (Addr.mk r3 0 none) 10) (Value.slice x804.a x804.len x804.cap) ∧
 VRet h792 (Value.tuple (List.toArray [(Value.agg (List.toArray [(Value.bool x794), (Value.int .i64 x795), (Value.int .i64 x796), (Value.slice x797.a x797.len x797.cap), (Value.slice x798.a x798.len x798.cap), (Value.slice x799.a x799.len x799.cap), (Value.slice x800.a x800.len x800.cap), (Value.slice x801.a x801.len x801.cap), (Value.slice x802.a x802.len x802.cap), (Value.slice x803.a x803.len x803.cap), (Value.slice x804.a x804.len x804.cap)])), (Value.bool true), (Value.int .i64 x793), (Value.int .i64 0)])) post)) ∧
 (
 ([(Value.bool x721), (Value.int .i64 x722), (Value.int .i64 x723), (Value.slice x724.a x724.len x724.cap), (Value.slice x725.a x725.len x725.cap), (Value.slice x726.a x726.len x726.cap), (Value.slice x727.a x727.len x727.cap), (Value.slice x728.a x728.len x728.cap), (Value.slice x729.a x729.len x729.cap), (Value.slice x730.a x730.len x730.cap), (Value.slice x731.a x731.len x731.cap)]).length = 11 ∧ (Program.underlying Go.Proofs.Tryd.prog 32).isSome = true ∧
 H.wr h280 (Addr.mk r3 0 none) ([(Value.bool x721), (Value.int .i64 x722), (Value.int .i64 x723), (Value.slice x724.a x724.len x724.cap), (Value.slice x725.a x725.len x725.cap), (Value.slice x726.a x726.len x726.cap), (Value.slice x727.a x727.len x727.cap), (Value.slice x728.a x728.len x728.cap), (Value.slice x729.a x729.len x729.cap), (Value.slice x730.a x730.len x730.cap), (Value.slice x731.a x731.len x731.cap)]) fun h805 =>
 ∃ x806 : SV, H.rd h805 (Addr.add (Addr.add (Addr.mk r1 0 none) 3) 0) (Value.slice x806.a x806.len x806.cap) ∧
 ∃ b807 : Addr, x806.a = some b807 ∧ 0 ≤ x776 ∧ x776 < ((x806.len : Nat) : Int) ∧
 ∃ x808 : Int, H.rd h805 (Addr.add (Addr.add b807 ((x776).toNat * 1)) 0) (Value.int .i64 x808) ∧
 ∃ x809 : Bool, H.rd h805 (Addr.add (Addr.mk r3 0 none) 0) (Value.bool x809) ∧
 ∃ x810 : Int, H.rd h805 (Addr.add (Addr.mk r3 0 none) 1) (Value.int .i64 x810) ∧
 ∃ x811 : Int, H.rd h805 (Addr.add (Addr.mk r3 0 none) 2) (Value.int .i64 x811) ∧
 ∃ x812 : SV, H.rd h805 (Addr.add (Addr.mk r3 0 none) 3) (Value.slice x812.a x812.len x812.cap) ∧
 ∃ x813 : SV, H.rd h805 (Addr.add (Addr.mk r3 0 none) 4) (Value.slice x813.a x813.len x813.cap) ∧
 ∃ x814 : SV, H.rd h805 (Addr.add (Addr.mk r3 0 none) 5) (Value.slice x814.a x814.len x814.cap) ∧
 ∃ x815 : SV, H.rd h805 (Addr.add (Addr.mk r3 0 none) 6) (Value.slice x815.a x815.len x815.cap) ∧
 ∃ x816 : SV, H.rd h805 (Addr.add (Addr.mk r3 0 none) 7) (Value.slice x816.a x816.len x816.cap) ∧
 ∃ x817 : SV, H.rd h805 (Addr.add (Addr.mk r3 0 none) 8) (Value.slice x817.a x817.len x817.cap) ∧
 ∃ x818 : SV, H.rd h805 (Addr.add (Addr.mk r3 0 none) 9) (Value.slice x818.a x818.len x818.cap) ∧
 ∃ x819 : SV, H.rd h805 (Addr.add (Addr.mk r3 0 none) 10) (Value.slice x819.a x819.len x819.cap) ∧
 VRet h805 (Value.tuple (List.toArray [(Value.agg (List.toArray [(Value.bool x809), (Value.int .i64 x810), (Value.int .i64 x811), (Value.slice x812.a x812.len x812.cap), (Value.slice x813.a x813.len x813.cap), (Value.slice x814.a x814.len x814.cap), (Value.slice x815.a x815.len x815.cap), (Value.slice x816.a x816.len x816.cap), (Value.slice x817.a x817.len x817.cap), (Value.slice x818.a x818.len x818.cap), (Value.slice x819.a x819.len x819.cap)])), (Value.bool true), (Value.int .i64 x808), (Value.int .i64 0)])) post)) ∧
 (
 ([(Value.bool x721), (Value.int .i64 x722), (Value.int .i64 x723), (Value.slice x724.a x724.len x724.cap), (Value.slice x725.a x725.len x725.cap), (Value.slice x726.a x726.len x726.cap), (Value.slice x727.a x727.len x727.cap), (Value.slice x728.a x728.len x728.cap), (Value.slice x729.a x729.len x729.cap), (Value.slice x730.a x730.len x730.cap), (Value.slice x731.a x731.len x731.cap)]).length = 11 ∧ (Program.underlying Go.Proofs.Tryd.prog 32).isSome = true ∧
 H.wr h280 (Addr.mk r3 0 none) ([(Value.bool x721), (Value.int .i64 x722), (Value.int .i64 x723), (Value.slice x724.a x724.len x724.cap), (Value.slice x725.a x725.len x725.cap), (Value.slice x726.a x726.len x726.cap), (Value.slice x727.a x727.len x727.cap), (Value.slice x728.a x728.len x728.cap), (Value.slice x729.a x729.len x729.cap), (Value.slice x730.a x730.len x730.cap), (Value.slice x731.a x731.len x731.cap)]) fun h820 =>
 (
 ∃ x821 : SV, H.rd h820 (Addr.add (Addr.add (Addr.mk r1 0 none) 3) 0) (Value.slice x821.a x821.len x821.cap) ∧
 ∃ x822 : Int, H.rd h820 (Addr.add (Addr.add b720 ((p1_p).toNat * 1)) 0) (Value.int .i64 x822) ∧
 ∃ b823 : Addr, x821.a = some b823 ∧ 0 ≤ x822 ∧ x822 < ((x821.len : Nat) : Int) ∧
 ∃ x824 : Int, H.rd h820 (Addr.add (Addr.add b823 ((x822).toNat * 1)) 0) (Value.int .i64 x824) ∧
 ∃ x825 : Bool, H.rd h820 (Addr.add (Addr.mk r3 0 none) 0) (Value.bool x825) ∧
 ∃ x826 : Int, H.rd h820 (Addr.add (Addr.mk r3 0 none) 1) (Value.int .i64 x826) ∧
 ∃ x827 : Int, H.rd h820 (Addr.add (Addr.mk r3 0 none) 2) (Value.int .i64 x827) ∧
 ∃ x828 : SV, H.rd h820 (Addr.add (Addr.mk r3 0 none) 3) (Value.slice x828.a x828.len x828.cap) ∧
 ∃ x829 : SV, H.rd h820 (Addr.add (Addr.mk r3 0 none) 4) (Value.slice x829.a x829.len x829.cap) ∧
 ∃ x830 : SV, H.rd h820 (Addr.add (Addr.mk r3 0 none) 5) (Value.slice x830.a x830.len x830.cap) ∧
 ∃ x831 : SV, H.rd h820 (Addr.add (Addr.mk r3 0 none) 6) (Value.slice x831.a x831.len x831.cap) ∧
 ∃ x832 : SV, H.rd h820 (Addr.add (Addr.mk r3 0 none) 7) (Value.slice x832.a x832.len x832.cap) ∧
 ∃ x833 : SV, H.rd h820 (Addr.add (Addr.mk r3 0 none) 8) (Value.slice x833.a x833.len x833.cap) ∧
 ∃ x834 : SV, H.rd h820 (Addr.add (Addr.mk r3 0 none) 9) (Value.slice x834.a x834.len x834.cap) ∧
 ∃ x835 : SV, H.rd h820 (Addr.add (Addr.mk r3 0 none) 10) (Value.slice x835.a x835.len x835.cap) ∧
 VRet h820 (Value.tuple (List.toArray [(Value.agg (List.toArray [(Value.bool x825), (Value.int .i64 x826), (Value.int .i64 x827), (Value.slice x828.a x828.len x828.cap), (Value.slice x829.a x829.len x829.cap), (Value.slice x830.a x830.len x830.cap), (Value.slice x831.a x831.len x831.cap), (Value.slice x832.a x832.len x832.cap), (Value.slice x833.a x833.len x833.cap), (Value.slice x834.a x834.len x834.cap), (Value.slice x835.a x835.len x835.cap)])), (Value.bool true), (Value.int .i64 x824), (Value.int .i64 0)])) post) ∧
 (
 ∃ x836 : Int, H.rd h820 (Addr.add (Addr.add b720 ((p1_p).toNat * 1)) 0) (Value.int .i64 x836) ∧
 ∃ x837 : SV, H.rd h820 (Addr.add (Addr.add (Addr.mk r1 0 none) 3) 0) (Value.slice x837.a x837.len x837.cap) ∧
 ∃ b838 : Addr, x837.a = some b838 ∧ 0 ≤ x836 ∧ x836 < ((x837.len : Nat) : Int) ∧
 ∃ x839 : Int, H.rd h820 (Addr.add (Addr.add b838 ((x836).toNat * 1)) 0) (Value.int .i64 x839) ∧
 ∃ x840 : Bool, H.rd h820 (Addr.add (Addr.mk r3 0 none) 0) (Value.bool x840) ∧
 ∃ x841 : Int, H.rd h820 (Addr.add (Addr.mk r3 0 none) 1) (Value.int .i64 x841) ∧
 ∃ x842 : Int, H.rd h820 (Addr.add (Addr.mk r3 0 none) 2) (Value.int .i64 x842) ∧
 ∃ x843 : SV, H.rd h820 (Addr.add (Addr.mk r3 0 none) 3) (Value.slice x843.a x843.len x843.cap) ∧
 ∃ x844 : SV, H.rd h820 (Addr.add (Addr.mk r3 0 none) 4) (Value.slice x844.a x844.len x844.cap) ∧
 ∃ x845 : SV, H.rd h820 (Addr.add (Addr.mk r3 0 none) 5) (Value.slice x845.a x845.len x845.cap) ∧
 ∃ x846 : SV, H.rd h820 (Addr.add (Addr.mk r3 0 none) 6) (Value.slice x846.a x846.len x846.cap) ∧
 ∃ x847 : SV, H.rd h820 (Addr.add (Addr.mk r3 0 none) 7) (Value.slice x847.a x847.len x847.cap) ∧
 ∃ x848 : SV, H.rd h820 (Addr.add (Addr.mk r3 0 none) 8) (Value.slice x848.a x848.len x848.cap) ∧
 ∃ x849 : SV, H.rd h820 (Addr.add (Addr.mk r3 0 none) 9) (Value.slice x849.a x849.len x849.cap) ∧
 ∃ x850 : SV, H.rd h820 (Addr.add (Addr.mk r3 0 none) 10) (Value.slice x850.a x850.len x850.cap) ∧
 VRet h820 (Value.tuple (List.toArray [(Value.agg (List.toArray [(Value.bool x840), (Value.int .i64 x841), (Value.int .i64 x842), (Value.slice x843.a x843.len x843.cap), (Value.slice x844.a x844.len x844.cap), (Value.slice x845.a x845.len x845.cap), (Value.slice x846.a x846.len x846.cap), (Value.slice x847.a x847.len x847.cap), (Value.slice x848.a x848.len x848.cap), (Value.slice x849.a x849.len x849.cap), (Value.slice x850.a x850.len x850.cap)])), (Value.bool true), (Value.int .i64 x839), (Value.int .i64 0)])) post)))) ∧
 (
 (
 ∃ x851 : SV, H.rd h280 (Addr.add (Addr.add (Addr.mk r1 0 none) 3) 0) (Value.slice x851.a x851.len x851.cap) ∧
 (
 ∃ x852 : Bool, H.rd h280 (Addr.add (Addr.mk r1 0 none) 0) (Value.bool x852) ∧
 ∃ x853 : Int, H.rd h280 (Addr.add (Addr.mk r1 0 none) 1) (Value.int .i64 x853) ∧
 ∃ x854 : Int, H.rd h280 (Addr.add (Addr.mk r1 0 none) 2) (Value.int .i64 x854) ∧
 ∃ x855 : SV, H.rd h280 (Addr.add (Addr.mk r1 0 none) 3) (Value.slice x855.a x855.len x855.cap) ∧
 ∃ x856 : SV, H.rd h280 (Addr.add (Addr.mk r1 0 none) 4) (Value.slice x856.a x856.len x856.cap) ∧
 ∃ x857 : SV, H.rd h280 (Addr.add (Addr.mk r1 0 none) 5) (Value.slice x857.a x857.len x857.cap) ∧
 ∃ x858 : SV, H.rd h280 (Addr.add (Addr.mk r1 0 none) 6) (Value.slice x858.a x858.len x858.cap) ∧
 ∃ x859 : SV, H.rd h280 (Addr.add (Addr.mk r1 0 none) 7) (Value.slice x859.a x859.len x859.cap) ∧
 ∃ x860 : SV, H.rd h280 (Addr.add (Addr.mk r1 0 none) 8) (Value.slice x860.a x860.len x860.cap) ∧
 ∃ x861 : SV, H.rd h280 (Addr.add (Addr.mk r1 0 none) 9) (Value.slice x861.a x861.len x861.cap) ∧
 ∃ x862 : SV, H.rd h280 (Addr.add (Addr.mk r1 0 none) 10) (Value.slice x862.a x862.len x862.cap) ∧
 (
 ∃ x863 : Int, H.rd h280 (Addr.add (Addr.add b720 ((p1_p).toNat * 1)) 0) (Value.int .i64 x863) ∧
 ∃ b864 : Addr, x851.a = some b864 ∧ 0 ≤ x863 ∧ x863 < ((x851.len : Nat) : Int) ∧
 (
 ∃ x865 : Int, H.rd h280 (Addr.add (Addr.add b864 ((x863).toNat * 1)) 0) (Value.int .i64 x865) ∧
 ([(Value.bool x852), (Value.int .i64 x853), (Value.int .i64 x854), (Value.slice x855.a x855.len x855.cap), (Value.slice x856.a x856.len x856.cap), (Value.slice x857.a x857.len x857.cap), (Value.slice x858.a x858.len x858.cap), (Value.slice x859.a x859.len x859.cap), (Value.slice x860.a x860.len x860.cap), (Value.slice x861.a x861.len x861.cap), (Value.slice x862.a x862.len x862.cap)]).length = 11 ∧ (Program.underlying Go.Proofs.Tryd.prog 32).isSome = true ∧
 H.wr h280 (Addr.mk r3 0 none) ([(Value.bool x852), (Value.int .i64 x853), (Value.int .i64 x854), (Value.slice x855.a x855.len x855.cap), (Value.slice x856.a x856.len x856.cap), (Value.slice x857.a x857.len x857.cap), (Value.slice x858.a x858.len x858.cap), (Value.slice x859.a x859.len x859.cap), (Value.slice x860.a x860.len x860.cap), (Value.slice x861.a x861.len x861.cap), (Value.slice x862.a x862.len x862.cap)]) fun h866 =>
 ∃ x867 : Bool, H.rd h866 (Addr.add (Addr.mk r3 0 none) 0) (Value.bool x867) ∧
 ∃ x868 : Int, H.rd h866 (Addr.add (Addr.mk r3 0 none) 1) (Value.int .i64 x868) ∧
 ∃ x869 : Int, H.rd h866 (Addr.add (Addr.mk r3 0 none) 2) (Value.int .i64 x869) ∧
 ∃ x870 : SV, H.rd h866 (Addr.add (Addr.mk r3 0 none) 3) (Value.slice x870.a x870.len x870.cap) ∧
 ∃ x871 : SV, H.rd h866 (Addr.add (Addr.mk r3 0 none) 4) (Value.slice x871.a x871.len x871.cap) ∧
 ∃ x872 : SV, H.rd h866 (Addr.add (Addr.mk r3 0 none) 5) (Value.slice x872.a x872.len x872.cap) ∧
 ∃ x873 : SV, H.rd h866 (Addr.add (Addr.mk r3 0 none) 6) (Value.slice x873.a x873.len x873.cap) ∧
 ∃ x874 : SV, H.rd h866 (Addr.add (Addr.mk r3 0 none) 7) (Value.slice x874.a x874.len x874.cap) ∧
 ∃ x875 : SV, H.rd h866 (Addr.add (Addr.mk r3 0 none) 8) (Value.slice x875.a x875.len x875.cap) ∧
 ∃ x876 : SV, H.rd h866 (Addr.add (Addr.mk r3 0 none) 9) (Value.slice x876.a x876.len x876.cap) ∧
 ∃ x877 : SV, H.rd h866 (Addr.add (Addr.mk r3 0 none) 10) (Value.slice x877.a x877.len x877.cap) ∧
 VRet h866 (Value.tuple (List.toArray [(Value.agg (List.toArray [(Value.bool x867), (Value.int .i64 x868), (Value.int .i64 x869), (Value.slice x870.a x870.len x870.cap), (Value.slice x871.a x871.len x871.cap), (Value.slice x872.a x872.len x872.cap), (Value.slice x873.a x873.len x873.cap), (Value.slice x874.a x874.len x874.cap), (Value.slice x875.a x875.len x875.cap), (Value.slice x876.a x876.len x876.cap), (Value.slice x877.a x877.len x877.cap)])), (Value.bool true), (Value.int .i64 x865), (Value.int .i64 0)])) post) ∧
 (
 ([(Value.bool x852), (Value.int .i64 x853), (Value.int .i64 x854), (Value.slice x855.a x855.len x855.cap), (Value.slice x856.a x856.len x856.cap), (Value.slice x857.a x857.len x857.cap), (Value.slice x858.a x858.len x858.cap), (Value.slice x859.a x859.len x859.cap), (Value.slice x860.a x860.len x860.cap), (Value.slice x861.a x861.len x861.cap), (Value.slice x862.a x862.len x862.cap)]).length = 11 ∧ (Program.underlying Go.Proofs.Tryd.prog 32).isSome = true ∧
 H.wr h280 (Addr.mk r3 0 none) ([(Value.bool x852), (Value.int .i64 x853), (Value.int .i64 x854), (Value.slice x855.a x855.len x855.cap), (Value.slice x856.a x856.len x856.cap), (Value.slice x857.a x857.len x857.cap), (Value.slice x858.a x858.len x858.cap), (Value.slice x859.a x859.len x859.cap), (Value.slice x860.a x860.len x860.cap), (Value.slice x861.a x861.len x861.cap), (Value.slice x862.a x862.len x862.cap)]) fun h878 =>
 ∃ x879 : Int, H.rd h878 (Addr.add (Addr.add b864 ((x863).toNat * 1)) 0) (Value.int .i64 x879) ∧
 ∃ x880 : Bool, H.rd h878 (Addr.add (Addr.mk r3 0 none) 0) (Value.bool x880) ∧
 ∃ x881 : Int, H.rd h878 (Addr.add (Addr.mk r3 0 none) 1) (Value.int .i64 x881) ∧
 ∃ x882 : Int, H.rd h878 (Addr.add (Addr.mk r3 0 none) 2) (Value.int .i64 x882) ∧
 ∃ x883 : SV, H.rd h878 (Addr.add (Addr.mk r3 0 none) 3) (Value.slice x883.a x883.len x883.cap) ∧
 ∃ x884 : SV, H.rd h878 (Addr.add (Addr.mk r3 0 none) 4) (Value.slice x884.a x884.len x884.cap) ∧
 ∃ x885 : SV, H.rd h878 (Addr.add (Addr.mk r3 0 none) 5) (Value.slice x885.a x885.len x885.cap) ∧
 ∃ x886 : SV, H.rd h878 (Addr.add (Addr.mk r3 0 none) 6) (Value.slice x886.a x886.len x886.cap) ∧
 ∃ x887 : SV, H.rd h878 (Addr.add (Addr.mk r3 0 none) 7) (Value.slice x887.a x887.len x887.cap) ∧
 ∃ x888 : SV, H.rd h878 (Addr.add (Addr.mk r3 0 none) 8) (Value.slice x888.a x888.len x888.cap) ∧
 ∃ x889 : SV, H.rd h878 (Addr.add (Addr.mk r3 0 none) 9) (Value.slice x889.a x889.len x889.cap) ∧
 ∃ x890 : SV, H.rd h878 (Addr.add (Addr.mk r3 0 none) 10) (Value.slice x890.a x890.len x890.cap) ∧
 VRet h878 (Value.tuple (List.toArray [(Value.agg (List.toArray [(Value.bool x880), (Value.int .i64 x881), (Value.int .i64 x882), (Value.slice x883.a x883.len x883.cap), (Value.slice x884.a x884.len x884.cap), (Value.slice x885.a x885.len x885.cap), (Value.slice x886.a x886.len x886.cap), (Value.slice x887.a x887.len x887.cap), (Value.slice x888.a x888.len x888.cap), (Value.slice x889.a x889.len x889.cap), (Value.slice x890.a x890.len x890.cap)])), (Value.bool true), (Value.int .i64 x879), (Value.int .i64 0)])) post)) ∧
 (
 ([(Value.bool x852), (Value.int .i64 x853), (Value.int .i64 x854), (Value.slice x855.a x855.len x855.cap), (Value.slice x856.a x856.len x856.cap), (Value.slice x857.a x857.len x857.cap), (Value.slice x858.a x858.len x858.cap), (Value.slice x859.a x859.len x859.cap), (Value.slice x860.a x860.len x860.cap), (Value.slice x861.a x861.len x861.cap), (Value.slice x862.a x862.len x862.cap)]).length = 11 ∧ (Program.underlying Go.Proofs.Tryd.prog 32).isSome = true ∧
 H.wr h280 (Addr.mk r3 0 none) ([(Value.bool x852), (Value.int .i64 x853), (Value.int .i64 x854), (Value.slice x855.a x855.len x855.cap), (Value.slice x856.a x856.len x856.cap), (Value.slice x857.a x857.len x857.cap), (Value.slice x858.a x858.len x858.cap), (Value.slice x859.a x859.len x859.cap), (Value.slice x860.a x860.len x860.cap), (Value.slice x861.a x861.len x861.cap), (Value.slice x862.a x862.len x862.cap)]) fun h891 =>
 ∃ x892 : Int, H.rd h891 (Addr.add (Addr.add b720 ((p1_p).toNat * 1)) 0) (Value.int .i64 x892) ∧
 ∃ b893 : Addr, x851.a = some b893 ∧ 0 ≤ x892 ∧ x892 < ((x851.len : Nat) : Int) ∧
 ∃ x894 : Int, H.rd h891 (Addr.add (Addr.add b893 ((x892).toNat * 1)) 0) (Value.int .i64 x894) ∧
 ∃ x895 : Bool, H.rd h891 (Addr.add (Addr.mk r3 0 none) 0) (Value.bool x895) ∧
 ∃ x896 : Int, H.rd h891 (Addr.add (Addr.mk r3 0 none) 1) (Value.int .i64 x896) ∧
 ∃ x897 : Int, H.rd h891 (Addr.add (Addr.mk r3 0 none) 2) (Value.int .i64 x897) ∧
 ∃ x898 : SV, H.rd h891 (Addr.add (Addr.mk r3 0 none) 3) (Value.slice x898.a x898.len x898.cap) ∧
 ∃ x899 : SV, H.rd h891 (Addr.add (Addr.mk r3 0 none) 4) (Value.slice x899.a x899.len x899.cap) ∧
 ∃ x900 : SV, H.rd h891 (Addr.add (Addr.mk r3 0 none) 5) (Value.slice x900.a x900.len x900.cap) ∧
 ∃ x901 : SV, H.rd h891 (Addr.add (Addr.mk r3 0 none) 6) (Value.slice x901.a x901.len x901.cap) ∧
 ∃ x902 : SV, H.rd h891 (Addr.add (Addr.mk r3 0 none) 7) (Value.slice x902.a x902.len x902.cap) ∧
 ∃ x903 : SV, H.rd h891 (Addr.add (Addr.mk r3 0 none) 8) (Value.slice x903.a x903.len x903.cap) ∧
 ∃ x904 : SV, H.rd h891 (Addr.add (Addr.mk r3 0 none) 9) (Value.slice x904.a x904.len x904.cap) ∧
 ∃ x905 : SV, H.rd h891 (Addr.add (Addr.mk r3 0 none) 10) (Value.slice x905.a x905.len x905.cap) ∧
 VRet h891 (Value.tuple (List.toArray [(Value.agg (List.toArray [(Value.bool x895), (Value.int .i64 x896), (Value.int .i64 x897), (Value.slice x898.a x898.len x898.cap), (Value.slice x899.a x899.len x899.cap), (Value.slice x900.a x900.len x900.cap), (Value.slice x901.a x901.len x901.cap), (Value.slice x902.a x902.len x902.cap), (Value.slice x903.a x903.len x903.cap), (Value.slice x904.a x904.len x904.cap), (Value.slice x905.a x905.len x905.cap)])), (Value.bool true), (Value.int .i64 x894), (Value.int .i64 0)])) post)) ∧
 (
 ∃ x906 : Int, H.rd h280 (Addr.add (Addr.add b720 ((p1_p).toNat * 1)) 0) (Value.int .i64 x906) ∧
 ∃ b907 : Addr, x851.a = some b907 ∧ 0 ≤ x906 ∧ x906 < ((x851.len : Nat) : Int) ∧
 (
 ∃ x908 : Bool, H.rd h280 (Addr.add (Addr.mk r1 0 none) 0) (Value.bool x908) ∧
 ∃ x909 : Int, H.rd h280 (Addr.add (Addr.mk r1 0 none) 1) (Value.int .i64 x909) ∧
 ∃ x910 : Int, H.rd h280 (Addr.add (Addr.mk r1 0 none) 2) (Value.int .i64 x910) ∧
 ∃ x911 : SV, H.rd h280 (Addr.add (Addr.mk r1 0 none) 3) (Value.slice x911.a x911.len x911.cap) ∧
 ∃ x912 : SV, H.rd h280 (Addr.add (Addr.mk r1 0 none) 4) (Value.slice x912.a x912.len x912.cap) ∧
 ∃ x913 : SV, H.rd h280 (Addr.add (Addr.mk r1 0 none) 5) (Value.slice x913.a x913.len x913.cap) ∧
 ∃ x914 : SV, H.rd h280 (Addr.add (Addr.mk r1 0 none) 6) (Value.slice x914.a x914.len x914.cap) ∧
 ∃ x915 : SV, H.rd h280 (Addr.add (Addr.mk r1 0 none) 7) (Value.slice x915.a x915.len x915.cap) ∧
 ∃ x916 : SV, H.rd h280 (Addr.add (Addr.mk r1 0 none) 8) (Value.slice x916.a x916.len x916.cap) ∧
 ∃ x917 : SV, H.rd h280 (Addr.add (Addr.mk r1 0 none) 9) (Value.slice x917.a x917.len x917.cap) ∧
 ∃ x918 : SV, H.rd h280 (Addr.add (Addr.mk r1 0 none) 10) (Value.slice x918.a x918.len x918.cap) ∧
 (
 ∃ x919 : Int, H.rd h280 (Addr.add (Addr.add b907 ((x906).toNat * 1)) 0) (Value.int .i64 x919) ∧
 ([(Value.bool x908), (Value.int .i64 x909), (Value.int .i64 x910), (Value.slice x911.a x911.len x911.cap), (Value.slice x912.a x912.len x912.cap), (Value.slice x913.a x913.len x913.cap), (Value.slice x914.a x914.len x914.cap), (Value.slice x915.a x915.len x915.cap), (Value.slice x916.a x916.len x916.cap), (Value.slice x917.a x917.len x917.cap), (Value.slice x918.a x918.len x918.cap)]).length = 11 ∧ (Program.underlying Go.Proofs.Tryd.prog 32).isSome = true ∧
 H.wr h280 (Addr.mk r3 0 none) ([(Value.bool x908), (Value.int .i64 x909), (Value.int .i64 x910), (Value.slice x911.a x911.len x911.cap), (Value.slice x912.a x912.len x912.cap), (Value.slice x913.a x913.len x913.cap), (Value.slice x914.a x914.len x914.cap), (Value.slice x915.a x915.len x915.cap), (Value.slice x916.a x916.len x916.cap), (Value.slice x917.a x917.len x917.cap), (Value.slice x918.a x918.len x918.cap)]) fun h920 =>
 ∃ x921 : Bool, H.rd h920 (Addr.add (Addr.mk r3 0 none) 0) (Value.bool x921) ∧
 ∃ x922 : Int, H.rd h920 (Addr.add (Addr.mk r3 0 none) 1) (Value.int .i64 x922) ∧
 ∃ x923 : Int, H.rd h920 (Addr.add (Addr.mk r3 0 none) 2) (Value.int .i64 x923) ∧
 ∃ x924 : SV, H.rd h920 (Addr.add (Addr.mk r3 0 none) 3) (Value.slice x924.a x924.len x924.cap) ∧
 ∃ x925 : SV, H.rd h920 (Addr.add (Addr.mk r3 0 none) 4) (Value.slice x925.a x925.len x925.cap) ∧
 ∃ x926 : SV, H.rd h920 (Addr.add (Addr.mk r3 0 none) 5) (Value.slice x926.a x926.len x926.cap) ∧
 ∃ x927 : SV, H.rd h920 (Addr.add (Addr.mk r3 0 none) 6) (Value.slice x927.a x927.len x927.cap) ∧
 ∃ x928 : SV, H.rd h920 (Addr.add (Addr.mk r3 0 none) 7) (Value.slice x928.a x928.len x928.cap) ∧
 ∃ x929 : SV, H.rd h920 (Addr.add (Addr.mk r3 0 none) 8) (Value.slice x929.a x929.len x929.cap) ∧
 ∃ x930 : SV, H.rd h920 (Addr.add (Addr.mk r3 0 none) 9) (Value.slice x930.a x930.len x930.cap) ∧
 ∃ x931 : SV, H.rd h920 (Addr.add (Addr.mk r3 0 none) 10) (Value.slice x931.a x931.len x931.cap) ∧
 VRet h920 (Value.tuple (List.toArray [(Value.agg (List.toArray [(Value.bool x921), (Value.int .i64 x922), (Value.int .i64 x923), (Value.slice x924.a x924.len x924.cap), (Value.slice x925.a x925.len x925.cap), (Value.slice x926.a x926.len x926.cap), (Value.slice x927.a x927.len x927.cap), (Value.slice x928.a x928.len x928.cap), (Value.slice x929.a x929.len x929.cap), (Value.slice x930.a x930.len x930.cap), (Value.slice x931.a x931.len x931.cap)])), (Value.bool true), (Value.int .i64 x919), (Value.int .i64 0)])) post) ∧
 (
 ([(Value.bool x908), (Value.int .i64 x909), (Value.int .i64 x910), (Value.slice x911.a x911.len x911.cap), (Value.slice x912.a x912.len x912.cap), (Value.slice x913.a x913.len x913.cap), (Value.slice x914.a x914.len x914.cap), (Value.slice x915.a x915.len x915.cap), (Value.slice x916.a x916.len x916.cap), (Value.slice x917.a x917.len x917.cap), (Value.slice x918.a x918.len x918.cap)]).length = 11 ∧ (Program.underlying Go.Proofs.Tryd.prog 32).isSome = true ∧
 H.wr h280 (Addr.mk r3 0 none) ([(Value.bool x908), (Value.int .i64 x909), (Value.int .i64 x910), (Value.slice x911.a x911.len x911.cap), (Value.slice x912.a x912.len x912.cap), (Value.slice x913.a x913.len x913.cap), (Value.slice x914.a x914.len x914.cap), (Value.slice x915.a x915.len x915.cap), (Value.slice x916.a x916.len x916.cap), (Value.slice x917.a x917.len x917.cap), (Value.slice x918.a x918.len x918.cap)]) fun h932 =>
 ∃ x933 : Int, H.rd h932 (Addr.add (Addr.add b907 ((x906).toNat * 1)) 0) (Value.int .i64 x933) ∧
 ∃ x934 : Bool, H.rd h932 (Addr.add (Addr.mk r3 0 none) 0) (Value.bool x934) ∧
 ∃ x935 : Int, H.rd h932 (Addr.add (Addr.mk r3 0 none) 1) (Value.int .i64 x935) ∧
 ∃ x936 : Int, H.rd h932 (Addr.add (Addr.mk r3 0 none) 2) (Value.int .i64 x936) ∧
 ∃ x937 : SV, H.rd h932 (Addr.add (Addr.mk r3 0 none) 3) (Value.slice x937.a x937.len x937.cap) ∧
 ∃ x938 : SV, H.rd h932 (Addr.add (Addr.mk r3 0 none) 4) (Value.slice x938.a x938.len x938.cap) ∧
 ∃ x939 : SV, H.rd h932 (Addr.add (Addr.mk r3 0 none) 5) (Value.slice x939.a x939.len x939.cap) ∧
 ∃ x940 : SV, H.rd h932 (Addr.add (Addr.mk r3 0 none) 6) (Value.slice x940.a x940.len x940.cap) ∧
 ∃ x941 : SV, H.rd h932 (Addr.add (Addr.mk r3 0 none) 7) (Value.slice x941.a x941.len x941.cap) ∧
 ∃ x942 : SV, H.rd h932 (Addr.add (Addr.mk r3 0 none) 8) (Value.slice x942.a x942.len x942.cap) ∧
 ∃ x943 : SV, H.rd h932 (Addr.add (Addr.mk r3 0 none) 9) (Value.slice x943.a x943.len x943.cap) ∧
 ∃ x944 : SV, H.rd h932 (Addr.add (Addr.mk r3 0 none) 10) (Value.slice x944.a x944.len x944.cap) ∧
 VRet h932 (Value.tuple (List.toArray [(Value.agg (List.toArray [(Value.bool x934), (Value.int .i64 x935), (Value.int .i64 x936), (Value.slice x937.a x937.len x937.cap), (Value.slice x938.a x938.len x938.cap), (Value.slice x939.a x939.len x939.cap), (Value.slice x940.a x940.len x940.cap), (Value.slice x941.a x941.len x941.cap), (Value.slice x942.a x942.len x942.cap), (Value.slice x943.a x943.len x943.cap), (Value.slice x944.a x944.len x944.cap)])), (Value.bool true), (Value.int .i64 x933), (Value.int .i64 0)])) post)) ∧
 (
 ∃ x945 : Int, H.rd h280 (Addr.add (Addr.add b907 ((x906).toNat * 1)) 0) (Value.int .i64 x945) ∧
 ∃ x946 : Bool, H.rd h280 (Addr.add (Addr.mk r1 0 none) 0) (Value.bool x946) ∧
 ∃ x947 : Int, H.rd h280 (Addr.add (Addr.mk r1 0 none) 1) (Value.int .i64 x947) ∧
 ∃ x948 : Int, H.rd h280 (Addr.add (Addr.mk r1 0 none) 2) (Value.int .i64 x948) ∧
 ∃ x949 : SV, H.rd h280 (Addr.add (Addr.mk r1 0 none) 3) (Value.slice x949.a x949.len x949.cap) ∧
 ∃ x950 : SV, H.rd h280 (Addr.add (Addr.mk r1 0 none) 4) (Value.slice x950.a x950.len x950.cap) ∧
 ∃ x951 : SV, H.rd h280 (Addr.add (Addr.mk r1 0 none) 5) (Value.slice x951.a x951.len x951.cap) ∧
 ∃ x952 : SV, H.rd h280 (Addr.add (Addr.mk r1 0 none) 6) (Value.slice x952.a x952.len x952.cap) ∧
 ∃ x953 : SV, H.rd h280 (Addr.add (Addr.mk r1 0 none) 7) (Value.slice x953.a x953.len x953.cap) ∧
 ∃ x954 : SV, H.rd h280 (Addr.add (Addr.mk r1 0 none) 8) (Value.slice x954.a x954.len x954.cap) ∧
 ∃ x955 : SV, H.rd h280 (Addr.add (Addr.mk r1 0 none) 9) (Value.slice x955.a x955.len x955.cap) ∧
 ∃ x956 : SV, H.rd h280 (Addr.add (Addr.mk r1 0 none) 10) (Value.slice x956.a x956.len x956.cap) ∧
 ([(Value.bool x946), (Value.int .i64 x947), (Value.int .i64 x948), (Value.slice x949.a x949.len x949.cap), (Value.slice x950.a x950.len x950.cap), (Value.slice x951.a x951.len x951.cap), (Value.slice x952.a x952.len x952.cap), (Value.slice x953.a x953.len x953.cap), (Value.slice x954.a x954.len x954.cap), (Value.slice x955.a x955.len x955.cap), (Value.slice x956.a x956.len x956.cap)]).length = 11 ∧ (Program.underlying Go.Proofs.Tryd.prog 32).isSome = true ∧
 H.wr h280 (Addr.mk r3 0 none) ([(Value.bool x946), (Value.int .i64 x947), (Value.int .i64 x948), (Value.slice x949.a x949.len x949.cap), (Value.slice x950.a x950.len x950.cap), (Value.slice x951.a x951.len x951.cap), (Value.slice x952.a x952.len x952.cap), (Value.slice x953.a x953.len x953.cap), (Value.slice x954.a x954.len x954.cap), (Value.slice x955.a x955.len x955.cap), (Value.slice x956.a x956.len x956.cap)]) fun h957 =>
 ∃ x958 : Bool, H.rd h957 (Addr.add (Addr.mk r3 0 none) 0) (Value.bool x958) ∧
 ∃ x959 : Int, H.rd h957 (Addr.add (Addr.mk r3 0 none) 1) (Value.int .i64 x959) ∧
 ∃ x960 : Int, H.rd h957 (Addr.add (Addr.mk r3 0 none) 2) (Value.int .i64 x960) ∧
 ∃ x961 : SV, H.rd h957 (Addr.add (Addr.mk r3 0 none) 3) (Value.slice x961.a x961.len x961.cap) ∧
 ∃ x962 : SV, H.rd h957 (Addr.add (Addr.mk r3 0 none) 4) (Value.slice x962.a x962.len x962.cap) ∧
 ∃ x963 : SV, H.rd h957 (Addr.add (Addr.mk r3 0 none) 5) (Value.slice x963.a x963.len x963.cap) ∧
 ∃ x964 : SV, H.rd h957 (Addr.add (Addr.mk r3 0 none) 6) (Value.slice x964.a x964.len x964.cap) ∧
 ∃ x965 : SV, H.rd h957 (Addr.add (Addr.mk r3 0 none) 7) (Value.slice x965.a x965.len x965.cap) ∧
 ∃ x966 : SV, H.rd h957 (Addr.add (Addr.mk r3 0 none) 8) (Value.slice x966.a x966.len x966.cap) ∧
 ∃ x967 : SV, H.rd h957 (Addr.add (Addr.mk r3 0 none) 9) (Value.slice x967.a x967.len x967.cap) ∧
 ∃ x968 : SV, H.rd h957 (Addr.add (Addr.mk r3 0 none) 10) (Value.slice x968.a x968.len x968.cap) ∧
 VRet h957 (Value.tuple (List.toArray [(Value.agg (List.toArray [(Value.bool x958), (Value.int .i64 x959), (Value.int .i64 x960), (Value.slice x961.a x961.len x961.cap), (Value.slice x962.a x962.len x962.cap), (Value.slice x963.a x963.len x963.cap), (Value.slice x964.a x964.len x964.cap), (Value.slice x965.a x965.len x965.cap), (Value.slice x966.a x966.len x966.cap), (Value.slice x967.a x967.len x967.cap), (Value.slice x968.a x968.len x968.cap)])), (Value.bool true), (Value.int .i64 x945), (Value.int .i64 0)])) post))) ∧
 (
 ∃ x969 : Int, H.rd h280 (Addr.add (Addr.add b720 ((p1_p).toNat * 1)) 0) (Value.int .i64 x969) ∧
 (
 ∃ x970 : Bool, H.rd h280 (Addr.add (Addr.mk r1 0 none) 0) (Value.bool x970) ∧
 ∃ x971 : Int, H.rd h280 (Addr.add (Addr.mk r1 0 none) 1) (Value.int .i64 x971) ∧
 ∃ x972 : Int, H.rd h280 (Addr.add (Addr.mk r1 0 none) 2) (Value.int .i64 x972) ∧
 ∃ x973 : SV, H.rd h280 (Addr.add (Addr.mk r1 0 none) 3) (Value.slice x973.a x973.len x973.cap) ∧
 ∃ x974 : SV, H.rd h280 (Addr.add (Addr.mk r1 0 none) 4) (Value.slice x974.a x974.len x974.cap) ∧
 ∃ x975 : SV, H.rd h280 (Addr.add (Addr.mk r1 0 none) 5) (Value.slice x975.a x975.len x975.cap) ∧
 ∃ x976 : SV, H.rd h280 (Addr.add (Addr.mk r1 0 none) 6) (Value.slice x976.a x976.len x976.cap) ∧
 ∃ x977 : SV, H.rd h280 (Addr.add (Addr.mk r1 0 none) 7) (Value.slice x977.a x977.len x977.cap) ∧
 ∃ x978 : SV, H.rd h280 (Addr.add (Addr.mk r1 0 none) 8) (Value.slice x978.a x978.len x978.cap) ∧
 ∃ x979 : SV, H.rd h280 (Addr.add (Addr.mk r1 0 none) 9) (Value.slice x979.a x979.len x979.cap) ∧
 ∃ x980 : SV, H.rd h280 (Addr.add (Addr.mk r1 0 none) 10) (Value.slice x980.a x980.len x980.cap) ∧
 (
 ∃ x981 : SV, H.rd h280 (Addr.add (Addr.add (Addr.mk r1 0 none) 3) 0) (Value.slice x981.a x981.len x981.cap) ∧
 ∃ b982 : Addr, x981.a = some b982 ∧ 0 ≤ x969 ∧ x969 < ((x981.len : Nat) : Int) ∧
 (
 ∃ x983 : Int, H.rd h280 (Addr.add (Addr.add b982 ((x969).toNat * 1)) 0) (Value.int .i64 x983) ∧
 ([(Value.bool x970), (Value.int .i64 x971), (Value.int .i64 x972), (Value.slice x973.a x973.len x973.cap), (Value.slice x974.a x974.len x974.cap), (Value.slice x975.a x975.len x975.cap), (Value.slice x976.a x976.len x976.cap), (Value.slice x977.a x977.len x977.cap), (Value.slice x978.a x978.len x978.cap), (Value.slice x979.a x979.len x979.cap), (Value.slice x980.a x980.len x980.cap)]).length = 11 ∧ (Program.underlying Go.Proofs.Tryd.prog 32).isSome = true ∧
 H.wr h280 (Addr.mk r3 0 none) ([(Value.bool x970), (Value.int .i64 x971), (Value.int .i64 x972), (Value.slice x973.a x973.len x973.cap), (Value.slice x974.a x974.len x974.cap), (Value.slice x975.a x975.len x975.cap), (Value.slice x976.a x976.len x976.cap), (Value.slice x977.a x977.len x977.cap), (Value.slice x978.a x978.len x978.cap), (Value.slice x979.a x979.len x979.cap), (Value.slice x980.a x980.len x980.cap)]) fun h984 =>
 ∃ x985 : Bool, H.rd h984 (Addr.add (Addr.mk r3 0 none) 0) (Value.bool x985) ∧
 ∃ x986 : Int, H.rd h984 (Addr.add (Addr.mk r3 0 none) 1) (Value.int .i64 x986) ∧
 ∃ x987 : Int, H.rd h984 (Addr.add (Addr.mk r3 0 none) 2) (Value.int .i64 x987) ∧
 ∃ x988 : SV, H.rd h984 (Addr.add (Addr.mk r3 0 none) 3) (Value.slice x988.a x988.len x988.cap) ∧
 ∃ x989 : SV, H.rd h984 (Addr.add (Addr.mk r3 0 none) 4) (Value.slice x989.a x989.len x989.cap) ∧
 ∃ x990 : SV, H.rd h984 (Addr.add (Addr.mk r3 0 none) 5) (Value.slice x990.a x990.len x990.cap) ∧
 ∃ x991 : SV, H.rd h984 (Addr.add (Addr.mk r3 0 none) 6) (Value.slice x991.a x991.len x991.cap) ∧
 ∃ x992 : SV, H.rd h984 (Addr.add (Addr.mk r3 0 none) 7) (Value.slice x992.a x992.len x992.cap) ∧
 ∃ x993 : SV, H.rd h984 (Addr.add (Addr.mk r3 0 none) 8) (Value.slice x993.a x993.len x993.cap) ∧
 ∃ x994 : SV, H.rd h984 (Addr.add (Addr.mk r3 0 none) 9) (Value.slice x994.a x994.len x994.cap) ∧
 ∃ x995 : SV, H.rd h984 (Addr.add (Addr.mk r3 0 none) 10) (Value.slice x995.a x995.len x995.cap) ∧
 VRet h984 (Value.tuple (List.toArray [(Value.agg (List.toArray [(Value.bool x985), (Value.int .i64 x986), (Value.int .i64 x987), (Value.slice x988.a x988.len x988.cap), (Value.slice x989.a x989.len x989.cap), (Value.slice x990.a x990.len x990.cap), (Value.slice x991.a x991.len x991.cap), (Value.slice x992.a x992.len x992.cap), (Value.slice x993.a x993.len x993.cap), (Value.slice x994.a x994.len x994.cap), (Value.slice x995.a x995.len x995.cap)])), (Value.bool true), (Value.int .i64 x983), (Value.int .i64 0)])) post) ∧
 (
 ([(Value.bool x970), (Value.int .i64 x971), (Value.int .i64 x972), (Value.slice x973.a x973.len x973.cap), (Value.slice x974.a x974.len x974.cap), (Value.slice x975.a x975.len x975.cap), (Value.slice x976.a x976.len x976.cap), (Value.slice x977.a x977.len x977.cap), (Value.slice x978.a x978.len x978.cap), (Value.slice x979.a x979.len x979.cap), (Value.slice x980.a x980.len x980.cap)]).length = 11 ∧ (Program.underlying Go.Proofs.Tryd.prog 32).isSome = true ∧
 H.wr h280 (Addr.mk r3 0 none) ([(Value.bool x970), (Value.int .i64 x971), (Value.int .i64 x972), (Value.slice x973.a x973.len x973.cap), (Value.slice x974.a x974.len x974.cap), (Value.slice x975.a x975.len x975.cap), (Value.slice x976.a x976.len x976.cap), (Value.slice x977.a x977.len x977.cap), (Value.slice x978.a x978.len x978.cap), (Value.slice x979.a x979.len x979.cap), (Value.slice x980.a x980.len x980.cap)]) fun h996 =>
 ∃ x997 : Int, H.rd h996 (Addr.add (Addr.add b982 ((x969).toNat * 1)) 0) (Value.int .i64 x997) ∧
 ∃ x998 : Bool, H.rd h996 (Addr.add (Addr.mk r3 0 none) 0) (Value.bool x998) ∧
 ∃ x999 : Int, H.rd h996 (Addr.add (Addr.mk r3 0 none) 1) (Value.int .i64 x999) ∧
 ∃ x1000 : Int, H.rd h996 (Addr.add (Addr.mk r3 0 none) 2) (Value.int .i64 x1000) ∧
 ∃ x1001 : SV, H.rd h996 (Addr.add (Addr.mk r3 0 none) 3) (Value.slice x1001.a x1001.len x1001.cap) ∧
 ∃ x1002 : SV, H.rd h996 (Addr.add (Addr.mk r3 0 none) 4) (Value.slice x1002.a x1002.len x1002.cap) ∧
 ∃ x1003 : SV, H.rd h996 (Addr.add (Addr.mk r3 0 none) 5) (Value.slice x1003.a x1003.len x1003.cap) ∧
 ∃ x1004 : SV, H.rd h996 (Addr.add (Addr.mk r3 0 none) 6) (Value.slice x1004.a x1004.len x1004.cap) ∧
 ∃ x1005 : SV, H.rd h996 (Addr.add (Addr.mk r3 0 none) 7) (Value.slice x1005.a x1005.len x1005.cap) ∧
 ∃ x1006 : SV, H.rd h996 (Addr.add (Addr.mk r3 0 none) 8) (Value.slice x1006.a x1006.len x1006.cap) ∧
 ∃ x1007 : SV, H.rd h996 (Addr.add (Addr.mk r3 0 none) 9) (Value.slice x1007.a x1007.len x1007.cap) ∧
 ∃ x1008 : SV, H.rd h996 (Addr.add (Addr.mk r3 0 none) 10) (Value.slice x1008.a x1008.len x1008.cap) ∧
 VRet h996 (Value.tuple (List.toArray [(Value.agg (List.toArray [(Value.bool x998), (Value.int .i64 x999), (Value.int .i64 x1000), (Value.slice x1001.a x1001.len x1001.cap), (Value.slice x1002.a x1002.len x1002.cap), (Value.slice x1003.a x1003.len x1003.cap), (Value.slice x1004.a x1004.len x1004.cap), (Value.slice x1005.a x1005.len x1005.cap), (Value.slice x1006.a x1006.len x1006.cap), (Value.slice x1007.a x1007.len x1007.cap), (Value.slice x1008.a x1008.len x1008.cap)])), (Value.bool true), (Value.int .i64 x997), (Value.int .i64 0)])) post)) ∧
 (
 ([(Value.bool x970), (Value.int .i64 x971), (Value.int .i64 x972), (Value.slice x973.a x973.len x973.cap), (Value.slice x974.a x974.len x974.cap), (Value.slice x975.a x975.len x975.cap), (Value.slice x976.a x976.len x976.cap), (Value.slice x977.a x977.len x977.cap), (Value.slice x978.a x978.len x978.cap), (Value.slice x979.a x979.len x979.cap), (Value.slice x980.a x980.len x980.cap)]).length = 11 ∧ (Program.underlying Go.Proofs.Tryd.prog 32).isSome = true ∧
 H.wr h280 (Addr.mk r3 0 none) ([(Value.bool x970), (Value.int .i64 x971), (Value.int .i64 x972), (Value.slice x973.a x973.len x973.cap), (Value.slice x974.a x974.len x974.cap), (Value.slice x975.a x975.len x975.cap), (Value.slice x976.a x976.len x976.cap), (Value.slice x977.a x977.len x977.cap), (Value.slice x978.a x978.len x978.cap), (Value.slice x979.a x979.len x979.cap), (Value.slice x980.a x980.len x980.cap)]) fun h1009 =>
 ∃ x1010 : SV, H.rd h1009 (Addr.add (Addr.add (Addr.mk r1 0 none) 3) 0) (Value.slice x1010.a x1010.len x1010.cap) ∧
 ∃ b1011 : Addr, x1010.a = some b1011 ∧ 0 ≤ x969 ∧ x969 < ((x1010.len : Nat) : Int) ∧
 ∃ x1012 : Int, H.rd h1009 (Addr.add (Addr.add b1011 ((x969).toNat * 1)) 0) (Value.int .i64 x1012) ∧
 ∃ x1013 : Bool, H.rd h1009 (Addr.add (Addr.mk r3 0 none) 0) (Value.bool x1013) ∧
 ∃ x1014 : Int, H.rd h1009 (Addr.add (Addr.mk r3 0 none) 1) (Value.int .i64 x1014) ∧
 ∃ x1015 : Int, H.rd h1009 (Addr.add (Addr.mk r3 0 none) 2) (Value.int .i64 x1015) ∧
 ∃ x1016 : SV, H.rd h1009 (Addr.add (Addr.mk r3 0 none) 3) (Value.slice x1016.a x1016.len x1016.cap) ∧
 ∃ x1017 : SV, H.rd h1009 (Addr.add (Addr.mk r3 0 none) 4) (Value.slice x1017.a x1017.len x1017.cap) ∧
 ∃ x1018 : SV, H.rd h1009 (Addr.add (Addr.mk r3 0 none) 5) (Value.slice x1018.a x1018.len x1018.cap) ∧
 ∃ x1019 : SV, H.rd h1009 (Addr.add (Addr.mk r3 0 none) 6) (Value.slice x1019.a x1019.len x1019.cap) ∧
 ∃ x1020 : SV, H.rd h1009 (Addr.add (Addr.mk r3 0 none) 7) (Value.slice x1020.a x1020.len x1020.cap) ∧
 ∃ x1021 : SV, H.rd h1009 (Addr.add (Addr.mk r3 0 none) 8) (Value.slice x1021.a x1021.len x1021.cap) ∧
 ∃ x1022 : SV, H.rd h1009 (Addr.add (Addr.mk r3 0 none) 9) (Value.slice x1022.a x1022.len x1022.cap) ∧
 ∃ x1023 : SV, H.rd h1009 (Addr.add (Addr.mk r3 0 none) 10) (Value.slice x1023.a x1023.len x1023.cap) ∧
 VRet h1009 (Value.tuple (List.toArray [(Value.agg (List.toArray [(Value.bool x1013), (Value.int .i64 x1014), (Value.int .i64 x1015), (Value.slice x1016.a x1016.len x1016.cap), (Value.slice x1017.a x1017.len x1017.cap), (Value.slice x1018.a x1018.len x1018.cap), (Value.slice x1019.a x1019.len x1019.cap), (Value.slice x1020.a x1020.len x1020.cap), (Value.slice x1021.a x1021.len x1021.cap), (Value.slice x1022.a x1022.len x1022.cap), (Value.slice x1023.a x1023.len x1023.cap)])), (Value.bool true), (Value.int .i64 x1012), (Value.int .i64 0)])) post)) ∧
 (
 ∃ x1024 : SV, H.rd h280 (Addr.add (Addr.add (Addr.mk r1 0 none) 3) 0) (Value.slice x1024.a x1024.len x1024.cap) ∧
 ∃ b1025 : Addr, x1024.a = some b1025 ∧ 0 ≤ x969 ∧ x969 < ((x1024.len : Nat) : Int) ∧
 (
 ∃ x1026 : Bool, H.rd h280 (Addr.add (Addr.mk r1 0 none) 0) (Value.bool x1026) ∧
 ∃ x1027 : Int, H.rd h280 (Addr.add (Addr.mk r1 0 none) 1) (Value.int .i64 x1027) ∧
 ∃ x1028 : Int, H.rd h280 (Addr.add (Addr.mk r1 0 none) 2) (Value.int .i64 x1028) ∧
 ∃ x1029 : SV, H.rd h280 (Addr.add (Addr.mk r1 0 none) 3) (Value.slice x1029.a x1029.len x1029.cap) ∧
 ∃ x1030 : SV, H.rd h280 (Addr.add (Addr.mk r1 0 none) 4) (Value.slice x1030.a x1030.len x1030.cap) ∧
 ∃ x1031 : SV, H.rd h280 (Addr.add (Addr.mk r1 0 none) 5) (Value.slice x1031.a x1031.len x1031.cap) ∧
 ∃ x1032 : SV, H.rd h280 (Addr.add (Addr.mk r1 0 none) 6) (Value.slice x1032.a x1032.len x1032.cap) ∧
 ∃ x1033 : SV, H.rd h280 (Addr.add (Addr.mk r1 0 none) 7) (Value.slice x1033.a x1033.len x1033.cap) ∧
 ∃ x1034 : SV, H.rd h280 (Addr.add (Addr.mk r1 0 none) 8) (Value.slice x1034.a x1034.len x1034.cap) ∧
 ∃ x1035 : SV, H.rd h280 (Addr.add (Addr.mk r1 0 none) 9) (Value.slice x1035.a x1035.len x1035.cap) ∧
 ∃ x1036 : SV, H.rd h280 (Addr.add (Addr.mk r1 0 none) 10) (Value.slice x1036.a x1036.len x1036.cap) ∧
 (
 ∃ x1037 : Int, H.rd h280 (Addr.add (Addr.add b1025 ((x969).toNat * 1)) 0) (Value.int .i64 x1037) ∧
 ([(Value.bool x1026), (Value.int .i64 x1027), (Value.int .i64 x1028), (Value.slice x1029.a x1029.len x1029.cap), (Value.slice x1030.a x1030.len x1030.cap), (Value.slice x1031.a x1031.len x1031.cap), (Value.slice x1032.a x1032.len x1032.cap), (Value.slice x1033.a x1033.len x1033.cap), (Value.slice x1034.a x1034.len x1034.cap), (Value.slice x1035.a x1035.len x1035.cap), (Value.slice x1036.a x1036.len x1036.cap)]).length = 11 ∧ (Program.underlying Go.Proofs.Tryd.prog 32).isSome = true ∧
 H.wr h280 (Addr.mk r3 0 none) ([(Value.bool x1026), (Value.int .i64 x1027), (Value.int .i64 x1028), (Value.slice x1029.a x1029.len x1029.cap), (Value.slice x1030.a x1030.len x1030.cap), (Value.slice x1031.a x1031.len x1031.cap), (Value.slice x1032.a x1032.len x1032.cap), (Value.slice x1033.a x1033.len x1033.cap), (Value.slice x1034.a x1034.len x1034.cap), (Value.slice x1035.a x1035.len x1035.cap), (Value.slice x1036.a x1036.len x1036.cap)]) fun h1038 =>
 ∃ x1039 : Bool, H.rd h1038 (Addr.add (Addr.mk r3 0 none) 0) (Value.bool x1039) ∧
 ∃ x1040 : Int, H.rd h1038 (Addr.add (Addr.mk r3 0 none) 1) (Value.int .i64 x1040) ∧
 ∃ x1041 : Int, H.rd h1038 (Addr.add (Addr.mk r3 0 none) 2) (Value.int .i64 x1041) ∧
 ∃ x1042 : SV, H.rd h1038 (Addr.add (Addr.mk r3 0 none) 3) (Value.slice x1042.a x1042.len x1042.cap) ∧
 ∃ x1043 : SV, H.rd h1038 (Addr.add (Addr.mk r3 0 none) 4) (Value.slice x1043.a x1043.len x1043.cap) ∧
 ∃ x1044 : SV, H.rd h1038 (Addr.add (Addr.mk r3 0 none) 5) (Value.slice x1044.a x1044.len x1044.cap) ∧
 ∃ x1045 : SV, H.rd h1038 (Addr.add (Addr.mk r3 0 none) 6) (Value.slice x1045.a x1045.len x1045.cap) ∧
 ∃ x1046 : SV, H.rd h1038 (Addr.add (Addr.mk r3 0 none) 7) (Value.slice x1046.a x1046.len x1046.cap) ∧
 ∃ x1047 : SV, H.rd h1038 (Addr.add (Addr.mk r3 0 none) 8) (Value.slice x1047.a x1047.len x1047.cap) ∧
 ∃ x1048 : SV, H.rd h1038 (Addr.add (Addr.mk r3 0 none) 9) (Value.slice x1048.a x1048.len x1048.cap) ∧
 ∃ x1049 : SV, H.rd h1038 (Addr.add (Addr.mk r3 0 none) 10) (Value.slice x1049.a x1049.len x1049.cap) ∧
 VRet h1038 (Value.tuple (List.toArray [(Value.agg (List.toArray [(Value.bool x1039), (Value.int .i64 x1040), (Value.int .i64 x1041), (Value.slice x1042.a x1042.len x1042.cap), (Value.slice x1043.a x1043.len x1043.cap), (Value.slice x1044.a x1044.len x1044.cap), (Value.slice x1045.a x1045.len x1045.cap), (Value.slice x1046.a x1046.len x1046.cap), (Value.slice x1047.a x1047.len x1047.cap), (Value.slice x1048.a x1048.len x1048.cap), (Value.slice x1049.a x1049.len x1049.cap)])), (Value.bool true), (Value.int .i64 x1037), (Value.int .i64 0)])) post) ∧
 (
 ([(Value.bool x1026), (Value.int .i64 x1027), (Value.int .i64 x1028), (Value.slice x1029.a x1029.len x1029.cap), (Value.slice x1030.a x1030.len x1030.cap), (Value.slice x1031.a x1031.len x1031.cap), (Value.slice x1032.a x1032.len x1032.cap), (Value.slice x1033.a x1033.len x1033.cap), (Value.slice x1034.a x1034.len x1034.cap), (Value.slice x1035.a x1035.len x1035.cap), (Value.slice x1036.a x1036.len x1036.cap)]).length = 11 ∧ (Program.underlying Go.Proofs.Tryd.prog 32).isSome = true ∧
 H.wr h280 (Addr.mk r3 0 none) ([(Value.bool x1026), (Value.int .i64 x1027), (Value.int .i64 x1028), (Value.slice x1029.a x1029.len x1029.cap), (Value.slice x1030.a x1030.len x1030.cap), (Value.slice x1031.a x1031.len x1031.cap), (Value.slice x1032.a x1032.len x1032.cap), (Value.slice x1033.a x1033.len x1033.cap), (Value.slice x1034.a x1034.len x1034.cap), (Value.slice x1035.a x1035.len x1035.cap), (Value.slice x1036.a x1036.len x1036.cap)]) fun h1050 =>
 ∃ x1051 : Int, H.rd h1050 (Addr.add (Addr.add b1025 ((x969).toNat * 1)) 0) (Value.int .i64 x1051) ∧
 ∃ x1052 : Bool, H.rd h1050 (Addr.add (Addr.mk r3 0 none) 0) (Value.bool x1052) ∧
 ∃ x1053 : Int, H.rd h1050 (Addr.add (Addr.mk r3 0 none) 1) (Value.int .i64 x1053) ∧
 ∃ x1054 : Int, H.rd h1050 (Addr.add (Addr.mk r3 0 none) 2) (Value.int .i64 x1054) ∧
 ∃ x1055 : SV, H.rd h1050 (Addr.add (Addr.mk r3 0 none) 3) (Value.slice x1055.a x1055.len x1055.cap) ∧
 ∃ x1056 : SV, H.rd h1050 (Addr.add (Addr.mk r3 0 none) 4) (Value.slice x1056.a x1056.len x1056.cap) ∧
 ∃ x1057 : SV, H.rd h1050 (Addr.add (Addr.mk r3 0 none) 5) (Value.slice x1057.a x1057.len x1057.cap) ∧
 ∃ x1058 : SV, H.rd h1050 (Addr.add (Addr.mk r3 0 none) 6) (Value.slice x1058.a x1058.len x1058.cap) ∧
 ∃ x1059 : SV, H.rd h1050 (Addr.add (Addr.mk r3 0 none) 7) (Value.slice x1059.a x1059.len x1059.cap) ∧
 ∃ x1060 : SV, H.rd h1050 (Addr.add (Addr.mk r3 0 none) 8) (Value.slice x1060.a x1060.len x1060.cap) ∧
 ∃ x1061 : SV, H.rd h1050 (Addr.add (Addr.mk r3 0 none) 9) (Value.slice x1061.a x1061.len x1061.cap) ∧
 ∃ x1062 : SV, H.rd h1050 (Addr.add (Addr.mk r3 0 none) 10) (Value.slice x1062.a x1062.len x1062.cap) ∧
 VRet h1050 (Value.tuple (List.toArray [(Value.agg (List.toArray [(Value.bool x1052), (Value.int .i64 x1053), (Value.int .i64 x1054), (Value.slice x1055.a x1055.len x1055.cap), (Value.slice x1056.a x1056.len x1056.cap), (Value.slice x1057.a x1057.len x1057.cap), (Value.slice x1058.a x1058.len x1058.cap), (Value.slice x1059.a x1059.len x1059.cap), (Value.slice x1060.a x1060.len x1060.cap), (Value.slice x1061.a x1061.len x1061.cap), (Value.slice x1062.a x1062.len x1062.cap)])), (Value.bool true), (Value.int .i64 x1051), (Value.int .i64 0)])) post)) ∧
 (
 ∃ x1063 : Int, H.rd h280 (Addr.add (Addr.add b1025 ((x969).toNat * 1)) 0) (Value.int .i64 x1063) ∧
 ∃ x1064 : Bool, H.rd h280 (Addr.add (Addr.mk r1 0 none) 0) (Value.bool x1064) ∧
 ∃ x1065 : Int, H.rd h280 (Addr.add (Addr.mk r1 0 none) 1) (Value.int .i64 x1065) ∧
 ∃ x1066 : Int, H.rd h280 (Addr.add (Addr.mk r1 0 none) 2) (Value.int .i64 x1066) ∧
 ∃ x1067 : SV, H.rd h280 (Addr.add (Addr.mk r1 0 none) 3) (Value.slice x1067.a x1067.len x1067.cap) ∧
 ∃ x1068 : SV, H.rd h280 (Addr.add (Addr.mk r1 0 none) 4) (Value.slice x1068.a x1068.len x1068.cap) ∧
 ∃ x1069 : SV, H.rd h280 (Addr.add (Addr.mk r1 0 none) 5) (Value.slice x1069.a x1069.len x1069.cap) ∧
 ∃ x1070 : SV, H.rd h280 (Addr.add (Addr.mk r1 0 none) 6) (Value.slice x1070.a x1070.len x1070.cap) ∧
 ∃ x1071 : SV, H.rd h280 (Addr.add (Addr.mk r1 0 none) 7) (Value.slice x1071.a x1071.len x1071.cap) ∧
 ∃ x1072 : SV, H.rd h280 (Addr.add (Addr.mk r1 0 none) 8) (Value.slice x1072.a x1072.len x1072.cap) ∧
 ∃ x1073 : SV, H.rd h280 (Addr.add (Addr.mk r1 0 none) 9) (Value.slice x1073.a x1073.len x1073.cap) ∧
 ∃ x1074 : SV, H.rd h280 (Addr.add (Addr.mk r1 0 none) 10) (Value.slice x1074.a x1074.len x1074.cap) ∧
 ([(Value.bool x1064), (Value.int .i64 x1065), (Value.int .i64 x1066), (Value.slice x1067.a x1067.len x1067.cap), (Value.slice x1068.a x1068.len x1068.cap), (Value.slice x1069.a x1069.len x1069.cap), (Value.slice x1070.a x1070.len x1070.cap), (Value.slice x1071.a x1071.len x1071.cap), (Value.slice x1072.a x1072.len x1072.cap), (Value.slice x1073.a x1073.len x1073.cap), (Value.slice x1074.a x1074.len x1074.cap)]).length = 11 ∧ (Program.underlying Go.Proofs.Tryd.prog 32).isSome = true ∧
 H.wr h280 (Addr.mk r3 0 none) ([(Value.bool x1064), (Value.int .i64 x1065), (Value.int .i64 x1066), (Value.slice x1067.a x1067.len x1067.cap), (Value.slice x1068.a x1068.len x1068.cap), (Value.slice x1069.a x1069.len x1069.cap), (Value.slice x1070.a x1070.len x1070.cap), (Value.slice x1071.a x1071.len x1071.cap), (Value.slice x1072.a x1072.len x1072.cap), (Value.slice x1073.a x1073.len x1073.cap), (Value.slice x1074.a x1074.len x1074.cap)]) fun h1075 =>
 ∃ x1076 : Bool, H.rd h1075 (Addr.add (Addr.mk r3 0 none) 0) (Value.bool x1076) ∧
 ∃ x1077 : Int, H.rd h1075 (Addr.add (Addr.mk r3 0 none) 1) (Value.int .i64 x1077) ∧
 ∃ x1078 : Int, H.rd h1075 (Addr.add (Addr.mk r3 0 none) 2) (Value.int .i64 x1078) ∧
 ∃ x1079 : SV, H.rd h1075 (Addr.add (Addr.mk r3 0 none) 3) (Value.slice x1079.a x1079.len x1079.cap) ∧
 ∃ x1080 : SV, H.rd h1075 (Addr.add (Addr.mk r3 0 none) 4) (Value.slice x1080.a x1080.len x1080.cap) ∧
 ∃ x1081 : SV, H.rd h1075 (Addr.add (Addr.mk r3 0 none) 5) (Value.slice x1081.a x1081.len x1081.cap) ∧
 ∃ x1082 : SV, H.rd h1075 (Addr.add (Addr.mk r3 0 none) 6) (Value.slice x1082.a x1082.len x1082.cap) ∧
 ∃ x1083 : SV, H.rd h1075 (Addr.add (Addr.mk r3 0 none) 7) (Value.slice x1083.a x1083.len x1083.cap) ∧
 ∃ x1084 : SV, H.rd h1075 (Addr.add (Addr.mk r3 0 none) 8) (Value.slice x1084.a x1084.len x1084.cap) ∧
 ∃ x1085 : SV, H.rd h1075 (Addr.add (Addr.mk r3 0 none) 9) (Value.slice x1085.a x1085.len x1085.cap) ∧
 ∃ x1086 : SV, H.rd h1075 (Addr.add (Addr.mk r3 0 none) 10) (Value.slice x1086.a x1086.len x1086.cap) ∧
 VRet h1075 (Value.tuple (List.toArray [(Value.agg (List.toArray [(Value.bool x1076), (Value.int .i64 x1077), (Value.int .i64 x1078), (Value.slice x1079.a x1079.len x1079.cap), (Value.slice x1080.a x1080.len x1080.cap), (Value.slice x1081.a x1081.len x1081.cap), (Value.slice x1082.a x1082.len x1082.cap), (Value.slice x1083.a x1083.len x1083.cap), (Value.slice x1084.a x1084.len x1084.cap), (Value.slice x1085.a x1085.len x1085.cap), (Value.slice x1086.a x1086.len x1086.cap)])), (Value.bool true), (Value.int .i64 x1063), (Value.int .i64 0)])) post)))))))

def f11_J4 (p1_p : Int) (post : Value → H → Prop) (r1 : Nat) (r3 : Nat) (x34 : Int) (x195 : Bool) (h196 : H) : Prop :=
 VIf x195 (
 ∃ R197 : Int → H → Prop, (
 VIf (x34 == (5 : Int)) (
 (∃ h198, Gh h196 h198 ∧ R197 (3 : Int) h198)) (
 (∃ h199, Gh h196 h199 ∧ R197 (1 : Int) h199))) ∧
 ∀ (_ : F) (x200_back : Int) (h201 : H), R197 x200_back h201 →
 f11_J2 p1_p post r1 r3 x200_back h201) (
 ∃ x230 : Bool, H.rd h196 (Addr.add (Addr.add (Addr.mk r1 0 none) 0) 0) (Value.bool x230) ∧
 ∃ R231 : H → Prop, (
 VIf x230 (
 ∃ x232 : Int, H.rd h196 (Addr.add (Addr.add (Addr.mk r1 0 none) 2) 0) (Value.int .i64 x232) ∧
 In64 (x232 + (1 : Int)) ∧
 H.wr h196 (Addr.add (Addr.mk r1 0 none) 2) ([(Value.int .i64 (x232 + (1 : Int)))]) fun h233 =>
 (∃ h234, Gh h233 h234 ∧ R231 h234)) (
 (∃ h235, Gh h196 h235 ∧ R231 h235))) ∧
 ∀ (_ : F) (h236 : H), R231 h236 →
 f11_J3 p1_p post r1 r3 x34 h236)

def f11_J5 (p1_p : Int) (post : Value → H → Prop) (r1 : Nat) (r3 : Nat) (x34 : Int) (x100 : Bool) (h101 : H) : Prop :=
 VIf x100 (
 ∃ x102 : SV, H.rd h101 (Addr.add (Addr.add (Addr.mk r1 0 none) 8) 0) (Value.slice x102.a x102.len x102.cap) ∧
 ∃ x103 : Int, H.rd h101 (Addr.add (Addr.add (Addr.mk r1 0 none) 1) 0) (Value.int .i64 x103) ∧
 SemCall Go.Proofs.Tryd.prog 31 (List.toArray [(Value.slice x102.a x102.len x102.cap), (Value.int .i64 p1_p), (Value.int .i64 x103)]) h101 fun v104 h105 =>
 ∃ x106 : SV, v104 = (Value.slice x106.a x106.len x106.cap) ∧
 H.wr h105 (Addr.add (Addr.mk r1 0 none) 8) ([(Value.slice x106.a x106.len x106.cap)]) fun h107 =>
 ∃ x108 : SV, H.rd h107 (Addr.add (Addr.add (Addr.mk r1 0 none) 9) 0) (Value.slice x108.a x108.len x108.cap) ∧
 ∃ x109 : Int, H.rd h107 (Addr.add (Addr.add (Addr.mk r1 0 none) 2) 0) (Value.int .i64 x109) ∧
 SemCall Go.Proofs.Tryd.prog 31 (List.toArray [(Value.slice x108.a x108.len x108.cap), (Value.int .i64 p1_p), (Value.int .i64 x109)]) h107 fun v110 h111 =>
 ∃ x112 : SV, v110 = (Value.slice x112.a x112.len x112.cap) ∧
 H.wr h111 (Addr.add (Addr.mk r1 0 none) 9) ([(Value.slice x112.a x112.len x112.cap)]) fun h113 =>
 ∃ R114 : H → Prop, (
 VIf (x34 == (1 : Int)) (
 ∃ x115 : SV, H.rd h113 (Addr.add (Addr.add (Addr.mk r1 0 none) 4) 0) (Value.slice x115.a x115.len x115.cap) ∧
 ∃ x116 : SV, H.rd h113 (Addr.add (Addr.add (Addr.mk r1 0 none) 7) 0) (Value.slice x116.a x116.len x116.cap) ∧
 ∃ b117 : Addr, x116.a = some b117 ∧ 0 ≤ p1_p ∧ p1_p < ((x116.len : Nat) : Int) ∧
 ∃ x118 : Int, H.rd h113 (Addr.add (Addr.add b117 ((p1_p).toNat * 1)) 0) (Value.int .i64 x118) ∧
 ∃ x119 : Int, H.rd h113 (Addr.add (Addr.add (Addr.mk r1 0 none) 1) 0) (Value.int .i64 x119) ∧
 SemCall Go.Proofs.Tryd.prog 31 (List.toArray [(Value.slice x115.a x115.len x115.cap), (Value.int .i64 x118), (Value.int .i64 x119)]) h113 fun v120 h121 =>
 ∃ x122 : SV, v120 = (Value.slice x122.a x122.len x122.cap) ∧
 H.wr h121 (Addr.add (Addr.mk r1 0 none) 4) ([(Value.slice x122.a x122.len x122.cap)]) fun h123 =>
 (∃ h124, Gh h123 h124 ∧ R114 h124)) (
 ∃ x125 : Int, H.rd h113 (Addr.add (Addr.add (Addr.mk r1 0 none) 1) 0) (Value.int .i64 x125) ∧
 VIf (decide (x125 < (0 : Int))) (
 ∃ x126 : SV, H.rd h113 (Addr.add (Addr.add (Addr.mk r1 0 none) 6) 0) (Value.slice x126.a x126.len x126.cap) ∧
 SemCall Go.Proofs.Tryd.prog 31 (List.toArray [(Value.slice x126.a x126.len x126.cap), (Value.int .i64 p1_p), (Value.int .i64 0)]) h113 fun v127 h128 =>
 ∃ x129 : SV, v127 = (Value.slice x129.a x129.len x129.cap) ∧
 H.wr h128 (Addr.add (Addr.mk r1 0 none) 6) ([(Value.slice x129.a x129.len x129.cap)]) fun h130 =>
 ∃ x131 : Bool, H.rd h130 (Addr.add (Addr.mk r1 0 none) 0) (Value.bool x131) ∧
 ∃ x132 : Int, H.rd h130 (Addr.add (Addr.mk r1 0 none) 1) (Value.int .i64 x132) ∧
 ∃ x133 : Int, H.rd h130 (Addr.add (Addr.mk r1 0 none) 2) (Value.int .i64 x133) ∧
 ∃ x134 : SV, H.rd h130 (Addr.add (Addr.mk r1 0 none) 3) (Value.slice x134.a x134.len x134.cap) ∧
 ∃ x135 : SV, H.rd h130 (Addr.add (Addr.mk r1 0 none) 4) (Value.slice x135.a x135.len x135.cap) ∧
 ∃ x136 : SV, H.rd h130 (Addr.add (Addr.mk r1 0 none) 5) (Value.slice x136.a x136.len x136.cap) ∧
 ∃ x137 : SV, H.rd h130 (Addr.add (Addr.mk r1 0 none) 6) (Value.slice x137.a x137.len x137.cap) ∧
 ∃ x138 : SV, H.rd h130 (Addr.add (Addr.mk r1 0 none) 7) (Value.slice x138.a x138.len x138.cap) ∧
 ∃ x139 : SV, H.rd h130 (Addr.add (Addr.mk r1 0 none) 8) (Value.slice x139.a x139.len x139.cap) ∧
 ∃ x140 : SV, H.rd h130 (Addr.add (Addr.mk r1 0 none) 9) (Value.slice x140.a x140.len x140.cap) ∧
 ∃ x141 : SV, H.rd h130 (Addr.add (Addr.mk r1 0 none) 10) (Value.slice x141.a x141.len x141.cap) ∧
 ([(Value.bool x131), (Value.int .i64 x132), (Value.int .i64 x133), (Value.slice x134.a x134.len x134.cap), (Value.slice x135.a x135.len x135.cap), (Value.slice x136.a x136.len x136.cap), (Value.slice x137.a x137.len x137.cap), (Value.slice x138.a x138.len x138.cap), (Value.slice x139.a x139.len x139.cap), (Value.slice x140.a x140.len x140.cap), (Value.slice x141.a x141.len x141.cap)]).length = 11 ∧ (Program.underlying Go.Proofs.Tryd.prog 32).isSome = true ∧
 H.wr h130 (Addr.mk r3 0 none) ([(Value.bool x131), (Value.int .i64 x132), (Value.int .i64 x133), (Value.slice x134.a x134.len x134.cap), (Value.slice x135.a x135.len x135.cap), (Value.slice x136.a x136.len x136.cap), (Value.slice x137.a x137.len x137.cap), (Value.slice x138.a x138.len x138.cap), (Value.slice x139.a x139.len x139.cap), (Value.slice x140.a x140.len x140.cap), (Value.slice x141.a x141.len x141.cap)]) fun h142 =>
 ∃ x143 : Bool, H.rd h142 (Addr.add (Addr.mk r3 0 none) 0) (Value.bool x143) ∧
 ∃ x144 : Int, H.rd h142 (Addr.add (Addr.mk r3 0 none) 1) (Value.int .i64 x144) ∧
 ∃ x145 : Int, H.rd h142 (Addr.add (Addr.mk r3 0 none) 2) (Value.int .i64 x145) ∧
 ∃ x146 : SV, H.rd h142 (Addr.add (Addr.mk r3 0 none) 3) (Value.slice x146.a x146.len x146.cap) ∧
 ∃ x147 : SV, H.rd h142 (Addr.add (Addr.mk r3 0 none) 4) (Value.slice x147.a x147.len x147.cap) ∧
 ∃ x148 : SV, H.rd h142 (Addr.add (Addr.mk r3 0 none) 5) (Value.slice x148.a x148.len x148.cap) ∧
 ∃ x149 : SV, H.rd h142 (Addr.add (Addr.mk r3 0 none) 6) (Value.slice x149.a x149.len x149.cap) ∧
 ∃ x150 : SV, H.rd h142 (Addr.add (Addr.mk r3 0 none) 7) (Value.slice x150.a x150.len x150.cap) ∧
 ∃ x151 : SV, H.rd h142 (Addr.add (Addr.mk r3 0 none) 8) (Value.slice x151.a x151.len x151.cap) ∧
 ∃ x152 : SV, H.rd h142 (Addr.add (Addr.mk r3 0 none) 9) (Value.slice x152.a x152.len x152.cap) ∧
 ∃ x153 : SV, H.rd h142 (Addr.add (Addr.mk r3 0 none) 10) (Value.slice x153.a x153.len x153.cap) ∧
 VRet h142 (Value.tuple (List.toArray [(Value.agg (List.toArray [(Value.bool x143), (Value.int .i64 x144), (Value.int .i64 x145), (Value.slice x146.a x146.len x146.cap), (Value.slice x147.a x147.len x147.cap), (Value.slice x148.a x148.len x148.cap), (Value.slice x149.a x149.len x149.cap), (Value.slice x150.a x150.len x150.cap), (Value.slice x151.a x151.len x151.cap), (Value.slice x152.a x152.len x152.cap), (Value.slice x153.a x153.len x153.cap)])), (Value.bool true), (Value.int .i64 (-1 : Int)), (Value.int .i64 0)])) post) (
 (∃ h154, Gh h113 h154 ∧ R114 h154)))) ∧
 ∀ (_ : F) (h155 : H), R114 h155 →
 f11_J1 p1_p post r1 r3 x34 h155) (
 ∃ R184 : Bool → H → Prop, (
 ∃ x185 : Int, H.rd h101 (Addr.add (Addr.add (Addr.mk r1 0 none) 1) 0) (Value.int .i64 x185) ∧
 ∃ x186 : SV, H.rd h101 (Addr.add (Addr.add (Addr.mk r1 0 none) 8) 0) (Value.slice x186.a x186.len x186.cap) ∧
 ∃ b187 : Addr, x186.a = some b187 ∧ 0 ≤ p1_p ∧ p1_p < ((x186.len : Nat) : Int) ∧
 ∃ x188 : Int, H.rd h101 (Addr.add (Addr.add b187 ((p1_p).toNat * 1)) 0) (Value.int .i64 x188) ∧
 VIf (x185 != x188) (
 (∃ h189, Gh h101 h189 ∧ R184 true h189)) (
 ∃ x190 : Int, H.rd h101 (Addr.add (Addr.add (Addr.mk r1 0 none) 2) 0) (Value.int .i64 x190) ∧
 ∃ x191 : SV, H.rd h101 (Addr.add (Addr.add (Addr.mk r1 0 none) 9) 0) (Value.slice x191.a x191.len x191.cap) ∧
 ∃ b192 : Addr, x191.a = some b192 ∧ 0 ≤ p1_p ∧ p1_p < ((x191.len : Nat) : Int) ∧
 ∃ x193 : Int, H.rd h101 (Addr.add (Addr.add b192 ((p1_p).toNat * 1)) 0) (Value.int .i64 x193) ∧
 (∃ h194, Gh h101 h194 ∧ R184 (x190 != x193) h194))) ∧
 ∀ (_ : F) (x195 : Bool) (h196 : H), R184 x195 h196 →
 f11_J4 p1_p post r1 r3 x34 x195 h196)

def f11_sem (p0_0_s : Bool) (p0_1_s : Int) (p0_2_s : Int) (p0_3_s : SV) (p0_4_s : SV) (p0_5_s : SV) (p0_6_s : SV) (p0_7_s : SV) (p0_8_s : SV) (p0_9_s : SV) (p0_10_s : SV) (p1_p : Int) (h0 : H) (post : Value → H → Prop) : Prop :=
 H.new h0 [(Value.bool p0_0_s), (Value.int .i64 p0_1_s), (Value.int .i64 p0_2_s), (Value.slice p0_3_s.a p0_3_s.len p0_3_s.cap), (Value.slice p0_4_s.a p0_4_s.len p0_4_s.cap), (Value.slice p0_5_s.a p0_5_s.len p0_5_s.cap), (Value.slice p0_6_s.a p0_6_s.len p0_6_s.cap), (Value.slice p0_7_s.a p0_7_s.len p0_7_s.cap), (Value.slice p0_8_s.a p0_8_s.len p0_8_s.cap), (Value.slice p0_9_s.a p0_9_s.len p0_9_s.cap), (Value.slice p0_10_s.a p0_10_s.len p0_10_s.cap)] fun r1 h2 =>
 H.new h2 [(Value.bool false), (Value.int .i64 0), (Value.int .i64 0), (Value.slice none 0 0), (Value.slice none 0 0), (Value.slice none 0 0), (Value.slice none 0 0), (Value.slice none 0 0), (Value.slice none 0 0), (Value.slice none 0 0), (Value.slice none 0 0)] fun r3 h4 =>
 ∃ x5 : SV, H.rd h4 (Addr.add (Addr.add (Addr.mk r1 0 none) 6) 0) (Value.slice x5.a x5.len x5.cap) ∧
 In64 (((x5.len : Nat) : Int) - (1 : Int)) ∧
 SemCall Go.Proofs.Tryd.prog 30 (List.toArray [(Value.int .i64 p1_p), (Value.int .i64 0), (Value.int .i64 (((x5.len : Nat) : Int) - (1 : Int)))]) h4 fun v6 h7 =>
 ∃ x8 : Bool, v6 = (Value.bool x8) ∧
 VIf (!x8) (
 ∃ x9 : Bool, H.rd h7 (Addr.add (Addr.mk r1 0 none) 0) (Value.bool x9) ∧
 ∃ x10 : Int, H.rd h7 (Addr.add (Addr.mk r1 0 none) 1) (Value.int .i64 x10) ∧
 ∃ x11 : Int, H.rd h7 (Addr.add (Addr.mk r1 0 none) 2) (Value.int .i64 x11) ∧
 ∃ x12 : SV, H.rd h7 (Addr.add (Addr.mk r1 0 none) 3) (Value.slice x12.a x12.len x12.cap) ∧
 ∃ x13 : SV, H.rd h7 (Addr.add (Addr.mk r1 0 none) 4) (Value.slice x13.a x13.len x13.cap) ∧
 ∃ x14 : SV, H.rd h7 (Addr.add (Addr.mk r1 0 none) 5) (Value.slice x14.a x14.len x14.cap) ∧
 ∃ x15 : SV, H.rd h7 (Addr.add (Addr.mk r1 0 none) 6) (Value.slice x15.a x15.len x15.cap) ∧
 ∃ x16 : SV, H.rd h7 (Addr.add (Addr.mk r1 0 none) 7) (Value.slice x16.a x16.len x16.cap) ∧
 ∃ x17 : SV, H.rd h7 (Addr.add (Addr.mk r1 0 none) 8) (Value.slice x17.a x17.len x17.cap) ∧
 ∃ x18 : SV, H.rd h7 (Addr.add (Addr.mk r1 0 none) 9) (Value.slice x18.a x18.len x18.cap) ∧
 ∃ x19 : SV, H.rd h7 (Addr.add (Addr.mk r1 0 none) 10) (Value.slice x19.a x19.len x19.cap) ∧
 ([(Value.bool x9), (Value.int .i64 x10), (Value.int .i64 x11), (Value.slice x12.a x12.len x12.cap), (Value.slice x13.a x13.len x13.cap), (Value.slice x14.a x14.len x14.cap), (Value.slice x15.a x15.len x15.cap), (Value.slice x16.a x16.len x16.cap), (Value.slice x17.a x17.len x17.cap), (Value.slice x18.a x18.len x18.cap), (Value.slice x19.a x19.len x19.cap)]).length = 11 ∧ (Program.underlying Go.Proofs.Tryd.prog 32).isSome = true ∧
 H.wr h7 (Addr.mk r3 0 none) ([(Value.bool x9), (Value.int .i64 x10), (Value.int .i64 x11), (Value.slice x12.a x12.len x12.cap), (Value.slice x13.a x13.len x13.cap), (Value.slice x14.a x14.len x14.cap), (Value.slice x15.a x15.len x15.cap), (Value.slice x16.a x16.len x16.cap), (Value.slice x17.a x17.len x17.cap), (Value.slice x18.a x18.len x18.cap), (Value.slice x19.a x19.len x19.cap)]) fun h20 =>
 ∃ x21 : Bool, H.rd h20 (Addr.add (Addr.mk r3 0 none) 0) (Value.bool x21) ∧
 ∃ x22 : Int, H.rd h20 (Addr.add (Addr.mk r3 0 none) 1) (Value.int .i64 x22) ∧
 ∃ x23 : Int, H.rd h20 (Addr.add (Addr.mk r3 0 none) 2) (Value.int .i64 x23) ∧
 ∃ x24 : SV, H.rd h20 (Addr.add (Addr.mk r3 0 none) 3) (Value.slice x24.a x24.len x24.cap) ∧
 ∃ x25 : SV, H.rd h20 (Addr.add (Addr.mk r3 0 none) 4) (Value.slice x25.a x25.len x25.cap) ∧
 ∃ x26 : SV, H.rd h20 (Addr.add (Addr.mk r3 0 none) 5) (Value.slice x26.a x26.len x26.cap) ∧
 ∃ x27 : SV, H.rd h20 (Addr.add (Addr.mk r3 0 none) 6) (Value.slice x27.a x27.len x27.cap) ∧
 ∃ x28 : SV, H.rd h20 (Addr.add (Addr.mk r3 0 none) 7) (Value.slice x28.a x28.len x28.cap) ∧
 ∃ x29 : SV, H.rd h20 (Addr.add (Addr.mk r3 0 none) 8) (Value.slice x29.a x29.len x29.cap) ∧
 ∃ x30 : SV, H.rd h20 (Addr.add (Addr.mk r3 0 none) 9) (Value.slice x30.a x30.len x30.cap) ∧
 ∃ x31 : SV, H.rd h20 (Addr.add (Addr.mk r3 0 none) 10) (Value.slice x31.a x31.len x31.cap) ∧
 VRet h20 (Value.tuple (List.toArray [(Value.agg (List.toArray [(Value.bool x21), (Value.int .i64 x22), (Value.int .i64 x23), (Value.slice x24.a x24.len x24.cap), (Value.slice x25.a x25.len x25.cap), (Value.slice x26.a x26.len x26.cap), (Value.slice x27.a x27.len x27.cap), (Value.slice x28.a x28.len x28.cap), (Value.slice x29.a x29.len x29.cap), (Value.slice x30.a x30.len x30.cap), (Value.slice x31.a x31.len x31.cap)])), (Value.bool false), (Value.int .i64 0), (Value.int .i64 (1 : Int))])) post) (
 ∃ x32 : SV, H.rd h7 (Addr.add (Addr.add (Addr.mk r1 0 none) 6) 0) (Value.slice x32.a x32.len x32.cap) ∧
 ∃ b33 : Addr, x32.a = some b33 ∧ 0 ≤ p1_p ∧ p1_p < ((x32.len : Nat) : Int) ∧
 ∃ x34 : Int, H.rd h7 (Addr.add (Addr.add b33 ((p1_p).toNat * 1)) 0) (Value.int .i64 x34) ∧
 VIf (x34 == (0 : Int)) (
 ∃ x35 : Bool, H.rd h7 (Addr.add (Addr.mk r1 0 none) 0) (Value.bool x35) ∧
 ∃ x36 : Int, H.rd h7 (Addr.add (Addr.mk r1 0 none) 1) (Value.int .i64 x36) ∧
 ∃ x37 : Int, H.rd h7 (Addr.add (Addr.mk r1 0 none) 2) (Value.int .i64 x37) ∧
 ∃ x38 : SV, H.rd h7 (Addr.add (Addr.mk r1 0 none) 3) (Value.slice x38.a x38.len x38.cap) ∧
 ∃ x39 : SV, H.rd h7 (Addr.add (Addr.mk r1 0 none) 4) (Value.slice x39.a x39.len x39.cap) ∧
 ∃ x40 : SV, H.rd h7 (Addr.add (Addr.mk r1 0 none) 5) (Value.slice x40.a x40.len x40.cap) ∧
 ∃ x41 : SV, H.rd h7 (Addr.add (Addr.mk r1 0 none) 6) (Value.slice x41.a x41.len x41.cap) ∧
 ∃ x42 : SV, H.rd h7 (Addr.add (Addr.mk r1 0 none) 7) (Value.slice x42.a x42.len x42.cap) ∧
 ∃ x43 : SV, H.rd h7 (Addr.add (Addr.mk r1 0 none) 8) (Value.slice x43.a x43.len x43.cap) ∧
 ∃ x44 : SV, H.rd h7 (Addr.add (Addr.mk r1 0 none) 9) (Value.slice x44.a x44.len x44.cap) ∧
 ∃ x45 : SV, H.rd h7 (Addr.add (Addr.mk r1 0 none) 10) (Value.slice x45.a x45.len x45.cap) ∧
 ([(Value.bool x35), (Value.int .i64 x36), (Value.int .i64 x37), (Value.slice x38.a x38.len x38.cap), (Value.slice x39.a x39.len x39.cap), (Value.slice x40.a x40.len x40.cap), (Value.slice x41.a x41.len x41.cap), (Value.slice x42.a x42.len x42.cap), (Value.slice x43.a x43.len x43.cap), (Value.slice x44.a x44.len x44.cap), (Value.slice x45.a x45.len x45.cap)]).length = 11 ∧ (Program.underlying Go.Proofs.Tryd.prog 32).isSome = true ∧
 H.wr h7 (Addr.mk r3 0 none) ([(Value.bool x35), (Value.int .i64 x36), (Value.int .i64 x37), (Value.slice x38.a x38.len x38.cap), (Value.slice x39.a x39.len x39.cap), (Value.slice x40.a x40.len x40.cap), (Value.slice x41.a x41.len x41.cap), (Value.slice x42.a x42.len x42.cap), (Value.slice x43.a x43.len x43.cap), (Value.slice x44.a x44.len x44.cap), (Value.slice x45.a x45.len x45.cap)]) fun h46 =>
 ∃ x47 : Bool, H.rd h46 (Addr.add (Addr.mk r3 0 none) 0) (Value.bool x47) ∧
 ∃ x48 : Int, H.rd h46 (Addr.add (Addr.mk r3 0 none) 1) (Value.int .i64 x48) ∧
 ∃ x49 : Int, H.rd h46 (Addr.add (Addr.mk r3 0 none) 2) (Value.int .i64 x49) ∧
 ∃ x50 : SV, H.rd h46 (Addr.add (Addr.mk r3 0 none) 3) (Value.slice x50.a x50.len x50.cap) ∧
 ∃ x51 : SV, H.rd h46 (Addr.add (Addr.mk r3 0 none) 4) (Value.slice x51.a x51.len x51.cap) ∧
 ∃ x52 : SV, H.rd h46 (Addr.add (Addr.mk r3 0 none) 5) (Value.slice x52.a x52.len x52.cap) ∧
 ∃ x53 : SV, H.rd h46 (Addr.add (Addr.mk r3 0 none) 6) (Value.slice x53.a x53.len x53.cap) ∧
 ∃ x54 : SV, H.rd h46 (Addr.add (Addr.mk r3 0 none) 7) (Value.slice x54.a x54.len x54.cap) ∧
 ∃ x55 : SV, H.rd h46 (Addr.add (Addr.mk r3 0 none) 8) (Value.slice x55.a x55.len x55.cap) ∧
 ∃ x56 : SV, H.rd h46 (Addr.add (Addr.mk r3 0 none) 9) (Value.slice x56.a x56.len x56.cap) ∧
 ∃ x57 : SV, H.rd h46 (Addr.add (Addr.mk r3 0 none) 10) (Value.slice x57.a x57.len x57.cap) ∧
 VRet h46 (Value.tuple (List.toArray [(Value.agg (List.toArray [(Value.bool x47), (Value.int .i64 x48), (Value.int .i64 x49), (Value.slice x50.a x50.len x50.cap), (Value.slice x51.a x51.len x51.cap), (Value.slice x52.a x52.len x52.cap), (Value.slice x53.a x53.len x53.cap), (Value.slice x54.a x54.len x54.cap), (Value.slice x55.a x55.len x55.cap), (Value.slice x56.a x56.len x56.cap), (Value.slice x57.a x57.len x57.cap)])), (Value.bool false), (Value.int .i64 0), (Value.int .i64 (7 : Int))])) post) (
 VIf (x34 == (4 : Int)) (
 ∃ x58 : SV, H.rd h7 (Addr.add (Addr.add (Addr.mk r1 0 none) 10) 0) (Value.slice x58.a x58.len x58.cap) ∧
 ∃ x59 : SV, H.rd h7 (Addr.add (Addr.add (Addr.mk r1 0 none) 4) 0) (Value.slice x59.a x59.len x59.cap) ∧
 ∃ x60 : SV, H.rd h7 (Addr.add (Addr.add (Addr.mk r1 0 none) 8) 0) (Value.slice x60.a x60.len x60.cap) ∧
 ∃ b61 : Addr, x60.a = some b61 ∧ 0 ≤ p1_p ∧ p1_p < ((x60.len : Nat) : Int) ∧
 ∃ x62 : Int, H.rd h7 (Addr.add (Addr.add b61 ((p1_p).toNat * 1)) 0) (Value.int .i64 x62) ∧
 ∃ b63 : Addr, x59.a = some b63 ∧ 0 ≤ x62 ∧ x62 < ((x59.len : Nat) : Int) ∧
 ∃ x64 : Int, H.rd h7 (Addr.add (Addr.add b63 ((x62).toNat * 1)) 0) (Value.int .i64 x64) ∧
 SemCall Go.Proofs.Tryd.prog 31 (List.toArray [(Value.slice x58.a x58.len x58.cap), (Value.int .i64 p1_p), (Value.int .i64 x64)]) h7 fun v65 h66 =>
 ∃ x67 : SV, v65 = (Value.slice x67.a x67.len x67.cap) ∧
 H.wr h66 (Addr.add (Addr.mk r1 0 none) 10) ([(Value.slice x67.a x67.len x67.cap)]) fun h68 =>
 ∃ x69 : SV, H.rd h68 (Addr.add (Addr.add (Addr.mk r1 0 none) 6) 0) (Value.slice x69.a x69.len x69.cap) ∧
 SemCall Go.Proofs.Tryd.prog 31 (List.toArray [(Value.slice x69.a x69.len x69.cap), (Value.int .i64 p1_p), (Value.int .i64 (5 : Int))]) h68 fun v70 h71 =>
 ∃ x72 : SV, v70 = (Value.slice x72.a x72.len x72.cap) ∧
 H.wr h71 (Addr.add (Addr.mk r1 0 none) 6) ([(Value.slice x72.a x72.len x72.cap)]) fun h73 =>
 ∃ x74 : Bool, H.rd h73 (Addr.add (Addr.mk r1 0 none) 0) (Value.bool x74) ∧
 ∃ x75 : Int, H.rd h73 (Addr.add (Addr.mk r1 0 none) 1) (Value.int .i64 x75) ∧
 ∃ x76 : Int, H.rd h73 (Addr.add (Addr.mk r1 0 none) 2) (Value.int .i64 x76) ∧
 ∃ x77 : SV, H.rd h73 (Addr.add (Addr.mk r1 0 none) 3) (Value.slice x77.a x77.len x77.cap) ∧
 ∃ x78 : SV, H.rd h73 (Addr.add (Addr.mk r1 0 none) 4) (Value.slice x78.a x78.len x78.cap) ∧
 ∃ x79 : SV, H.rd h73 (Addr.add (Addr.mk r1 0 none) 5) (Value.slice x79.a x79.len x79.cap) ∧
 ∃ x80 : SV, H.rd h73 (Addr.add (Addr.mk r1 0 none) 6) (Value.slice x80.a x80.len x80.cap) ∧
 ∃ x81 : SV, H.rd h73 (Addr.add (Addr.mk r1 0 none) 7) (Value.slice x81.a x81.len x81.cap) ∧
 ∃ x82 : SV, H.rd h73 (Addr.add (Addr.mk r1 0 none) 8) (Value.slice x82.a x82.len x82.cap) ∧
 ∃ x83 : SV, H.rd h73 (Addr.add (Addr.mk r1 0 none) 9) (Value.slice x83.a x83.len x83.cap) ∧
 ∃ x84 : SV, H.rd h73 (Addr.add (Addr.mk r1 0 none) 10) (Value.slice x84.a x84.len x84.cap) ∧
 ([(Value.bool x74), (Value.int .i64 x75), (Value.int .i64 x76), (Value.slice x77.a x77.len x77.cap), (Value.slice x78.a x78.len x78.cap), (Value.slice x79.a x79.len x79.cap), (Value.slice x80.a x80.len x80.cap), (Value.slice x81.a x81.len x81.cap), (Value.slice x82.a x82.len x82.cap), (Value.slice x83.a x83.len x83.cap), (Value.slice x84.a x84.len x84.cap)]).length = 11 ∧ (Program.underlying Go.Proofs.Tryd.prog 32).isSome = true ∧
 H.wr h73 (Addr.mk r3 0 none) ([(Value.bool x74), (Value.int .i64 x75), (Value.int .i64 x76), (Value.slice x77.a x77.len x77.cap), (Value.slice x78.a x78.len x78.cap), (Value.slice x79.a x79.len x79.cap), (Value.slice x80.a x80.len x80.cap), (Value.slice x81.a x81.len x81.cap), (Value.slice x82.a x82.len x82.cap), (Value.slice x83.a x83.len x83.cap), (Value.slice x84.a x84.len x84.cap)]) fun h85 =>
 ∃ x86 : Bool, H.rd h85 (Addr.add (Addr.mk r3 0 none) 0) (Value.bool x86) ∧
 ∃ x87 : Int, H.rd h85 (Addr.add (Addr.mk r3 0 none) 1) (Value.int .i64 x87) ∧
 ∃ x88 : Int, H.rd h85 (Addr.add (Addr.mk r3 0 none) 2) (Value.int .i64 x88) ∧
 ∃ x89 : SV, H.rd h85 (Addr.add (Addr.mk r3 0 none) 3) (Value.slice x89.a x89.len x89.cap) ∧
 ∃ x90 : SV, H.rd h85 (Addr.add (Addr.mk r3 0 none) 4) (Value.slice x90.a x90.len x90.cap) ∧
 ∃ x91 : SV, H.rd h85 (Addr.add (Addr.mk r3 0 none) 5) (Value.slice x91.a x91.len x91.cap) ∧
 ∃ x92 : SV, H.rd h85 (Addr.add (Addr.mk r3 0 none) 6) (Value.slice x92.a x92.len x92.cap) ∧
 ∃ x93 : SV, H.rd h85 (Addr.add (Addr.mk r3 0 none) 7) (Value.slice x93.a x93.len x93.cap) ∧
 ∃ x94 : SV, H.rd h85 (Addr.add (Addr.mk r3 0 none) 8) (Value.slice x94.a x94.len x94.cap) ∧
 ∃ x95 : SV, H.rd h85 (Addr.add (Addr.mk r3 0 none) 9) (Value.slice x95.a x95.len x95.cap) ∧
 ∃ x96 : SV, H.rd h85 (Addr.add (Addr.mk r3 0 none) 10) (Value.slice x96.a x96.len x96.cap) ∧
 VRet h85 (Value.tuple (List.toArray [(Value.agg (List.toArray [(Value.bool x86), (Value.int .i64 x87), (Value.int .i64 x88), (Value.slice x89.a x89.len x89.cap), (Value.slice x90.a x90.len x90.cap), (Value.slice x91.a x91.len x91.cap), (Value.slice x92.a x92.len x92.cap), (Value.slice x93.a x93.len x93.cap), (Value.slice x94.a x94.len x94.cap), (Value.slice x95.a x95.len x95.cap), (Value.slice x96.a x96.len x96.cap)])), (Value.bool false), (Value.int .i64 0), (Value.int .i64 0)])) post) (
 ∃ R97 : Bool → H → Prop, (
 VIf (x34 == (1 : Int)) (
 (∃ h98, Gh h7 h98 ∧ R97 true h98)) (
 (∃ h99, Gh h7 h99 ∧ R97 (x34 == (3 : Int)) h99))) ∧
 ∀ (_ : F) (x100 : Bool) (h101 : H), R97 x100 h101 →
 f11_J5 p1_p post r1 r3 x34 x100 h101)))

def f11_hint : Hint := (.node .leaf (.node .leaf (.node .leaf (.node .leaf (.node (.node .leaf (.node (.node (.tail 12) .leaf) .leaf)) (.node (.node (.join [(53, .bool)] .leaf) (.node (.node .leaf (.node .leaf (.node (.node .leaf (.join [] (.node (.tail 9) .leaf))) .leaf))) .leaf)) (.node (.node (.join [(115, .bool)] .leaf) (.node (.node .leaf (.node (.node .leaf (.join [(9, .int)] .leaf)) .leaf)) .leaf)) (.node (.node .leaf (.join [] .leaf)) (.node .leaf (.node .leaf (.node .leaf (.node (.tail 7) (.node .any .leaf)))))))))))))

theorem f11_eq (p0_0_s : Bool) (p0_1_s : Int) (p0_2_s : Int) (p0_3_s : SV) (p0_4_s : SV) (p0_5_s : SV) (p0_6_s : SV) (p0_7_s : SV) (p0_8_s : SV) (p0_9_s : SV) (p0_10_s : SV) (p1_p : Int) (h0 : H) (post : Value → H → Prop) : exec Tryd.prog (bodyOf Tryd.f11) f11_hint (retQ Tryd.prog Tryd.f11 post) (F0 [(Value.agg (List.toArray [(Value.bool p0_0_s), (Value.int .i64 p0_1_s), (Value.int .i64 p0_2_s), (Value.slice p0_3_s.a p0_3_s.len p0_3_s.cap), (Value.slice p0_4_s.a p0_4_s.len p0_4_s.cap), (Value.slice p0_5_s.a p0_5_s.len p0_5_s.cap), (Value.slice p0_6_s.a p0_6_s.len p0_6_s.cap), (Value.slice p0_7_s.a p0_7_s.len p0_7_s.cap), (Value.slice p0_8_s.a p0_8_s.len p0_8_s.cap), (Value.slice p0_9_s.a p0_9_s.len p0_9_s.cap), (Value.slice p0_10_s.a p0_10_s.len p0_10_s.cap)])), (Value.int .i64 p1_p)]) h0 = f11_sem p0_0_s p0_1_s p0_2_s p0_3_s p0_4_s p0_5_s p0_6_s p0_7_s p0_8_s p0_9_s p0_10_s p1_p h0 post := by kernel_rfl

set_option maxRecDepth 20000 in
theorem f11_call (p0_0_s : Bool) (p0_1_s : Int) (p0_2_s : Int) (p0_3_s : SV) (p0_4_s : SV) (p0_5_s : SV) (p0_6_s : SV) (p0_7_s : SV) (p0_8_s : SV) (p0_9_s : SV) (p0_10_s : SV) (p1_p : Int) (h0 : H) (post : Value → H → Prop) (hx : f11_sem p0_0_s p0_1_s p0_2_s p0_3_s p0_4_s p0_5_s p0_6_s p0_7_s p0_8_s p0_9_s p0_10_s p1_p h0 post) : SemCall Tryd.prog 11 (List.toArray [(Value.agg (List.toArray [(Value.bool p0_0_s), (Value.int .i64 p0_1_s), (Value.int .i64 p0_2_s), (Value.slice p0_3_s.a p0_3_s.len p0_3_s.cap), (Value.slice p0_4_s.a p0_4_s.len p0_4_s.cap), (Value.slice p0_5_s.a p0_5_s.len p0_5_s.cap), (Value.slice p0_6_s.a p0_6_s.len p0_6_s.cap), (Value.slice p0_7_s.a p0_7_s.len p0_7_s.cap), (Value.slice p0_8_s.a p0_8_s.len p0_8_s.cap), (Value.slice p0_9_s.a p0_9_s.len p0_9_s.cap), (Value.slice p0_10_s.a p0_10_s.len p0_10_s.cap)])), (Value.int .i64 p1_p)]) h0 post :=
 sem_of_exec (g := f11_hint) mixed Tryd.func11 (bodyOf_eq (by kernel_rfl)) (by kernel_rfl) ((f11_eq p0_0_s p0_1_s p0_2_s p0_3_s p0_4_s p0_5_s p0_6_s p0_7_s p0_8_s p0_9_s p0_10_s p1_p h0 post).mpr hx)

/- latchgarth/core.Cas[int] -/
def f37_sem (p0_word : Option Addr) (p1_old : Int) (p2_new : Int) (h0 : H) (post : Value → H → Prop) : Prop :=
 ∃ a1 : Addr, p0_word = some a1 ∧
 ∃ x2 : Int, H.rd h0 (Addr.add a1 0) (Value.int .i64 x2) ∧
 VIf (x2 != p1_old) (
 VRet h0 (Value.bool false) post) (
 ∃ a3 : Addr, p0_word = some a3 ∧
 H.wr h0 a3 ([(Value.int .i64 p2_new)]) fun h4 =>
 VRet h4 (Value.bool true) post)

def f37_hint : Hint := .leaf

theorem f37_eq (p0_word : Option Addr) (p1_old : Int) (p2_new : Int) (h0 : H) (post : Value → H → Prop) : exec Tryd.prog (bodyOf Tryd.f37) f37_hint (retQ Tryd.prog Tryd.f37 post) (F0 [(Value.pointer p0_word), (Value.int .i64 p1_old), (Value.int .i64 p2_new)]) h0 = f37_sem p0_word p1_old p2_new h0 post := by kernel_rfl

set_option maxRecDepth 20000 in
theorem f37_call (p0_word : Option Addr) (p1_old : Int) (p2_new : Int) (h0 : H) (post : Value → H → Prop) (hx : f37_sem p0_word p1_old p2_new h0 post) : SemCall Tryd.prog 37 (List.toArray [(Value.pointer p0_word), (Value.int .i64 p1_old), (Value.int .i64 p2_new)]) h0 post :=
 sem_of_exec (g := f37_hint) mixed Tryd.func37 (bodyOf_eq (by kernel_rfl)) (by kernel_rfl) ((f37_eq p0_word p1_old p2_new h0 post).mpr hx)

end Go.Proofs.YtogbkgimpkaemaaDoor
