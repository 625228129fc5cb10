import Derived.Test.YtockhbbpcbcenaaDoorEngG
import Derived.Test.YtockhbbpcbcenaaDoorRows
namespace Go.Proofs.YtockhbbpcbcenaaDoor
open Go.Eng
theorem mixed : Tryd.prog.follows .mixedOrders = true := by kernel_rfl
/- latchgarth/latchgarthlaw4.CombPlays -/
def f3_L1 (p0_n : Int) (post : Value → H → Prop) (x3 : Option Addr) (r24 : Nat) (R218 : H → Prop) (I219 : Nat → Int → H → Prop) (n220 : Nat) (x223_p : Int) (h224 : H) : Prop :=
 VIf (decide (x223_p < p0_n)) (
 SemCall Go.Proofs.Tryd.prog 16 (List.toArray [(Value.pointer x3), (Value.int .i64 x223_p)]) h224 fun v225 h226 =>
 ∃ x227 : Int, ∃ x228 : Int, v225 = (Value.tuple (List.toArray [(Value.int .i64 x227), (Value.int .i64 x228)])) ∧
 ∃ R229 : Bool → H → Prop, (
 In64 ((2 : Int) * x223_p) ∧
 In64 ((1 : Int) + ((2 : Int) * x223_p)) ∧
 ∃ x230 : SV, H.rd h226 (Addr.add (Addr.add (Addr.mk r24 0 none) 1) 0) (Value.slice x230.a x230.len x230.cap) ∧
 ∃ x231 : Int, H.rd h226 (Addr.add (Addr.add (Addr.mk r24 0 none) 3) 0) (Value.int .i64 x231) ∧
 ∃ b232 : Addr, x230.a = some b232 ∧ 0 ≤ x231 ∧ x231 < ((x230.len : Nat) : Int) ∧
 ∃ x233 : SV, H.rd h226 (Addr.add (Addr.add b232 ((x231).toNat * 1)) 0) (Value.slice x233.a x233.len x233.cap) ∧
 ∃ b234 : Addr, x233.a = some b234 ∧ 0 ≤ ((1 : Int) + ((2 : Int) * x223_p)) ∧ ((1 : Int) + ((2 : Int) * x223_p)) < ((x233.len : Nat) : Int) ∧
 ∃ x235 : Int, H.rd h226 (Addr.add (Addr.add b234 ((((1 : Int) + ((2 : Int) * x223_p))).toNat * 1)) 0) (Value.int .i64 x235) ∧
 VIf (x227 != x235) (
 (∃ h236, Gh h226 h236 ∧ R229 true h236)) (
 In64 ((2 : Int) * x223_p) ∧
 In64 ((2 : Int) + ((2 : Int) * x223_p)) ∧
 ∃ x237 : SV, H.rd h226 (Addr.add (Addr.add (Addr.mk r24 0 none) 1) 0) (Value.slice x237.a x237.len x237.cap) ∧
 ∃ x238 : Int, H.rd h226 (Addr.add (Addr.add (Addr.mk r24 0 none) 3) 0) (Value.int .i64 x238) ∧
 ∃ b239 : Addr, x237.a = some b239 ∧ 0 ≤ x238 ∧ x238 < ((x237.len : Nat) : Int) ∧
 ∃ x240 : SV, H.rd h226 (Addr.add (Addr.add b239 ((x238).toNat * 1)) 0) (Value.slice x240.a x240.len x240.cap) ∧
 ∃ b241 : Addr, x240.a = some b241 ∧ 0 ≤ ((2 : Int) + ((2 : Int) * x223_p)) ∧ ((2 : Int) + ((2 : Int) * x223_p)) < ((x240.len : Nat) : Int) ∧
 ∃ x242 : Int, H.rd h226 (Addr.add (Addr.add b241 ((((2 : Int) + ((2 : Int) * x223_p))).toNat * 1)) 0) (Value.int .i64 x242) ∧
 VIf (x228 != x242) (
 (∃ h243, Gh h226 h243 ∧ R229 true h243)) (
 ∃ x244 : SV, H.rd h226 (Addr.add (Addr.add (Addr.mk r24 0 none) 6) 0) (Value.slice x244.a x244.len x244.cap) ∧
 ∃ b245 : Addr, x244.a = some b245 ∧ 0 ≤ x223_p ∧ x223_p < ((x244.len : Nat) : Int) ∧
 ∃ x246 : Int, H.rd h226 (Addr.add (Addr.add b245 ((x223_p).toNat * 1)) 0) (Value.int .i64 x246) ∧
 SemCall Go.Proofs.Tryd.prog 17 (List.toArray [(Value.pointer x3), (Value.int .i64 x223_p)]) h226 fun v247 h248 => OwnExt h226 h248 ∧
 ∃ x249 : Int, v247 = (Value.int .i64 x249) ∧
 (∃ h250, Gh h248 h250 ∧ R229 (x249 != x246) h250)))) ∧
 ∀ (_ : F) (x251 : Bool) (h252 : H), R229 x251 h252 →
 VIf x251 (
 VRet h252 (Value.bool false) post) (
 In64 (x223_p + (1 : Int)) ∧
 ∃ m221, m221 < n220 ∧ (∃ h253, Gh h252 h253 ∧ I219 m221 (x223_p + (1 : Int)) h253))) (
 (∃ h254, Gh h224 h254 ∧ R218 h254))

def f3_J2 (p0_n : Int) (post : Value → H → Prop) (x3 : Option Addr) (r24 : Nat) (R39 : H → Prop) (h182 : H) : Prop :=
 SemCall Go.Proofs.Tryd.prog 13 (List.toArray [(Value.pointer x3)]) h182 fun v183 h184 =>
 ∃ x185 : SV, ∃ x186 : Int, v183 = (Value.tuple (List.toArray [(Value.slice x185.a x185.len x185.cap), (Value.int .i64 x186)])) ∧
 ∃ R187 : Bool → H → Prop, (
 ∃ x188 : SV, H.rd h184 (Addr.add (Addr.add (Addr.mk r24 0 none) 1) 0) (Value.slice x188.a x188.len x188.cap) ∧
 ∃ x189 : Int, H.rd h184 (Addr.add (Addr.add (Addr.mk r24 0 none) 3) 0) (Value.int .i64 x189) ∧
 ∃ b190 : Addr, x188.a = some b190 ∧ 0 ≤ x189 ∧ x189 < ((x188.len : Nat) : Int) ∧
 ∃ x191 : SV, H.rd h184 (Addr.add (Addr.add b190 ((x189).toNat * 1)) 0) (Value.slice x191.a x191.len x191.cap) ∧
 ∃ b192 : Addr, x191.a = some b192 ∧ 0 ≤ (0 : Int) ∧ (0 : Int) < ((x191.len : Nat) : Int) ∧
 ∃ x193 : Int, H.rd h184 (Addr.add (Addr.add b192 (((0 : Int)).toNat * 1)) 0) (Value.int .i64 x193) ∧
 SemCall Go.Proofs.Tryd.prog 14 (List.toArray [(Value.pointer x3)]) h184 fun v194 h195 => OwnExt h184 h195 ∧
 ∃ x196 : Int, v194 = (Value.int .i64 x196) ∧
 VIf (x196 != x193) (
 (∃ h197, Gh h195 h197 ∧ R187 true h197)) (
 ∃ x198 : Int, H.rd h195 (Addr.add (Addr.add (Addr.mk r24 0 none) 3) 0) (Value.int .i64 x198) ∧
 VIf (x186 != x198) (
 (∃ h199, Gh h195 h199 ∧ R187 true h199)) (
 ∃ x200 : SV, H.rd h195 (Addr.add (Addr.add (Addr.mk r24 0 none) 1) 0) (Value.slice x200.a x200.len x200.cap) ∧
 ∃ b201 : Addr, x200.a = some b201 ∧ 0 ≤ (0 : Int) ∧ (0 : Int) < ((x200.len : Nat) : Int) ∧
 ∃ x202 : SV, H.rd h195 (Addr.add (Addr.add b201 (((0 : Int)).toNat * 1)) 0) (Value.slice x202.a x202.len x202.cap) ∧
 ∃ b203 : Addr, x202.a = some b203 ∧ 0 ≤ (0 : Int) ∧ (0 : Int) < ((x202.len : Nat) : Int) ∧
 ∃ x204 : Int, H.rd h195 (Addr.add (Addr.add b203 (((0 : Int)).toNat * 1)) 0) (Value.int .i64 x204) ∧
 ∃ x205 : SV, H.rd h195 (Addr.add (Addr.add (Addr.mk r24 0 none) 1) 0) (Value.slice x205.a x205.len x205.cap) ∧
 ∃ b206 : Addr, x205.a = some b206 ∧ 0 ≤ (1 : Int) ∧ (1 : Int) < ((x205.len : Nat) : Int) ∧
 ∃ x207 : SV, H.rd h195 (Addr.add (Addr.add b206 (((1 : Int)).toNat * 1)) 0) (Value.slice x207.a x207.len x207.cap) ∧
 ∃ b208 : Addr, x207.a = some b208 ∧ 0 ≤ (0 : Int) ∧ (0 : Int) < ((x207.len : Nat) : Int) ∧
 ∃ x209 : Int, H.rd h195 (Addr.add (Addr.add b208 (((0 : Int)).toNat * 1)) 0) (Value.int .i64 x209) ∧
 H.new h195 [(Value.int .i64 x204), (Value.int .i64 x209)] fun r210 h211 =>
 SemCall Go.Proofs.Tryd.prog 15 (List.toArray [(Value.slice x185.a x185.len x185.cap), (Value.slice (some (Addr.mk r210 0 none)) 2 2)]) h211 fun v212 h213 =>
 ∃ x214 : Bool, v212 = (Value.bool x214) ∧
 (∃ h215, Gh h213 h215 ∧ R187 (!x214) h215)))) ∧
 ∀ (_ : F) (x216 : Bool) (h217 : H), R187 x216 h217 →
 VIf x216 (
 VRet h217 (Value.bool false) post) (
 ∃ R218 : H → Prop, (
 ∃ I219 : Nat → Int → H → Prop, (∃ n220, (∃ h222, Gh h217 h222 ∧ I219 n220 (0 : Int) h222)) ∧
 ∀ (n220 : Nat) (_ : F) (x223_p : Int) (h224 : H), I219 n220 x223_p h224 →
 f3_L1 p0_n post x3 r24 R218 I219 n220 x223_p h224) ∧
 ∀ (_ : F) (h255 : H), R218 h255 →
 (∃ h256, Gh h255 h256 ∧ R39 h256))

def f3_J3 (p0_n : Int) (post : Value → H → Prop) (x3 : Option Addr) (r24 : Nat) (R39 : H → Prop) (x41 : SV) (h151 : H) : Prop :=
 ∃ R152 : H → Prop, (
 VIf (((x41.len : Nat) : Int) == (3 : Int)) (
 ∃ x153 : Int, H.rd h151 (Addr.add (Addr.mk r24 0 none) 0) (Value.int .i64 x153) ∧
 ∃ x154 : SV, H.rd h151 (Addr.add (Addr.mk r24 0 none) 1) (Value.slice x154.a x154.len x154.cap) ∧
 ∃ x155 : SV, H.rd h151 (Addr.add (Addr.mk r24 0 none) 2) (Value.slice x155.a x155.len x155.cap) ∧
 ∃ x156 : Int, H.rd h151 (Addr.add (Addr.mk r24 0 none) 3) (Value.int .i64 x156) ∧
 ∃ x157 : Int, H.rd h151 (Addr.add (Addr.mk r24 0 none) 4) (Value.int .i64 x157) ∧
 ∃ x158 : SV, H.rd h151 (Addr.add (Addr.mk r24 0 none) 5) (Value.slice x158.a x158.len x158.cap) ∧
 ∃ x159 : SV, H.rd h151 (Addr.add (Addr.mk r24 0 none) 6) (Value.slice x159.a x159.len x159.cap) ∧
 ∃ x160 : SV, H.rd h151 (Addr.add (Addr.mk r24 0 none) 7) (Value.slice x160.a x160.len x160.cap) ∧
 ∃ x161 : SV, H.rd h151 (Addr.add (Addr.mk r24 0 none) 8) (Value.slice x161.a x161.len x161.cap) ∧
 ∃ b162 : Addr, x41.a = some b162 ∧ 0 ≤ (2 : Int) ∧ (2 : Int) < ((x41.len : Nat) : Int) ∧
 ∃ x163 : Int, H.rd h151 (Addr.add (Addr.add b162 (((2 : Int)).toNat * 1)) 0) (Value.int .i64 x163) ∧
 SemCall Go.Proofs.Tryd.prog 11 (List.toArray [(Value.agg (List.toArray [(Value.int .i64 x153), (Value.slice x154.a x154.len x154.cap), (Value.slice x155.a x155.len x155.cap), (Value.int .i64 x156), (Value.int .i64 x157), (Value.slice x158.a x158.len x158.cap), (Value.slice x159.a x159.len x159.cap), (Value.slice x160.a x160.len x160.cap), (Value.slice x161.a x161.len x161.cap)])), (Value.bool (x163 == (1 : Int)))]) h151 fun v164 h165 =>
 ∃ x166 : Int, ∃ x167 : SV, ∃ x168 : SV, ∃ x169 : Int, ∃ x170 : Int, ∃ x171 : SV, ∃ x172 : SV, ∃ x173 : SV, ∃ x174 : SV, v164 = (Value.agg (List.toArray [(Value.int .i64 x166), (Value.slice x167.a x167.len x167.cap), (Value.slice x168.a x168.len x168.cap), (Value.int .i64 x169), (Value.int .i64 x170), (Value.slice x171.a x171.len x171.cap), (Value.slice x172.a x172.len x172.cap), (Value.slice x173.a x173.len x173.cap), (Value.slice x174.a x174.len x174.cap)])) ∧
 ([(Value.int .i64 x166), (Value.slice x167.a x167.len x167.cap), (Value.slice x168.a x168.len x168.cap), (Value.int .i64 x169), (Value.int .i64 x170), (Value.slice x171.a x171.len x171.cap), (Value.slice x172.a x172.len x172.cap), (Value.slice x173.a x173.len x173.cap), (Value.slice x174.a x174.len x174.cap)]).length = 9 ∧ (Program.underlying Go.Proofs.Tryd.prog 31).isSome = true ∧
 H.wr h165 (Addr.mk r24 0 none) ([(Value.int .i64 x166), (Value.slice x167.a x167.len x167.cap), (Value.slice x168.a x168.len x168.cap), (Value.int .i64 x169), (Value.int .i64 x170), (Value.slice x171.a x171.len x171.cap), (Value.slice x172.a x172.len x172.cap), (Value.slice x173.a x173.len x173.cap), (Value.slice x174.a x174.len x174.cap)]) fun h175 =>
 ∃ b176 : Addr, x41.a = some b176 ∧ 0 ≤ (2 : Int) ∧ (2 : Int) < ((x41.len : Nat) : Int) ∧
 ∃ x177 : Int, H.rd h175 (Addr.add (Addr.add b176 (((2 : Int)).toNat * 1)) 0) (Value.int .i64 x177) ∧
 SemCall Go.Proofs.Tryd.prog 12 (List.toArray [(Value.pointer x3), (Value.bool (x177 == (1 : Int)))]) h175 fun v178 h179 =>
 v178 = (Value.tuple (List.toArray [])) ∧
 (∃ h180, Gh h179 h180 ∧ R152 h180)) (
 (∃ h181, Gh h151 h181 ∧ R152 h181))) ∧
 ∀ (_ : F) (h182 : H), R152 h182 →
 f3_J2 p0_n post x3 r24 R39 h182

def f3_J4 (p0_n : Int) (post : Value → H → Prop) (x3 : Option Addr) (r24 : Nat) (R39 : H → Prop) (x41 : SV) (h93 : H) : Prop :=
 ∃ R94 : H → Prop, (
 VIf (((x41.len : Nat) : Int) == (1 : Int)) (
 ∃ b95 : Addr, x41.a = some b95 ∧ 0 ≤ (0 : Int) ∧ (0 : Int) < ((x41.len : Nat) : Int) ∧
 ∃ x96 : Int, H.rd h93 (Addr.add (Addr.mk r24 0 none) 0) (Value.int .i64 x96) ∧
 ∃ x97 : SV, H.rd h93 (Addr.add (Addr.mk r24 0 none) 1) (Value.slice x97.a x97.len x97.cap) ∧
 ∃ x98 : SV, H.rd h93 (Addr.add (Addr.mk r24 0 none) 2) (Value.slice x98.a x98.len x98.cap) ∧
 ∃ x99 : Int, H.rd h93 (Addr.add (Addr.mk r24 0 none) 3) (Value.int .i64 x99) ∧
 ∃ x100 : Int, H.rd h93 (Addr.add (Addr.mk r24 0 none) 4) (Value.int .i64 x100) ∧
 ∃ x101 : SV, H.rd h93 (Addr.add (Addr.mk r24 0 none) 5) (Value.slice x101.a x101.len x101.cap) ∧
 ∃ x102 : SV, H.rd h93 (Addr.add (Addr.mk r24 0 none) 6) (Value.slice x102.a x102.len x102.cap) ∧
 ∃ x103 : SV, H.rd h93 (Addr.add (Addr.mk r24 0 none) 7) (Value.slice x103.a x103.len x103.cap) ∧
 ∃ x104 : SV, H.rd h93 (Addr.add (Addr.mk r24 0 none) 8) (Value.slice x104.a x104.len x104.cap) ∧
 ∃ x105 : Int, H.rd h93 (Addr.add (Addr.add b95 (((0 : Int)).toNat * 1)) 0) (Value.int .i64 x105) ∧
 SemCall Go.Proofs.Tryd.prog 9 (List.toArray [(Value.agg (List.toArray [(Value.int .i64 x96), (Value.slice x97.a x97.len x97.cap), (Value.slice x98.a x98.len x98.cap), (Value.int .i64 x99), (Value.int .i64 x100), (Value.slice x101.a x101.len x101.cap), (Value.slice x102.a x102.len x102.cap), (Value.slice x103.a x103.len x103.cap), (Value.slice x104.a x104.len x104.cap)])), (Value.int .i64 x105)]) h93 fun v106 h107 => OwnExt h93 h107 ∧
 ∃ x108 : Int, ∃ x109 : SV, ∃ x110 : SV, ∃ x111 : Int, ∃ x112 : Int, ∃ x113 : SV, ∃ x114 : SV, ∃ x115 : SV, ∃ x116 : SV, ∃ x117 : Bool, ∃ x118 : Int, ∃ x119 : Int, v106 = (Value.tuple (List.toArray [(Value.agg (List.toArray [(Value.int .i64 x108), (Value.slice x109.a x109.len x109.cap), (Value.slice x110.a x110.len x110.cap), (Value.int .i64 x111), (Value.int .i64 x112), (Value.slice x113.a x113.len x113.cap), (Value.slice x114.a x114.len x114.cap), (Value.slice x115.a x115.len x115.cap), (Value.slice x116.a x116.len x116.cap)])), (Value.bool x117), (Value.int .i64 x118), (Value.int .i64 x119)])) ∧
 H.new h107 [(Value.int .i64 0), (Value.slice none 0 0), (Value.slice none 0 0), (Value.int .i64 0), (Value.int .i64 0), (Value.slice none 0 0), (Value.slice none 0 0), (Value.slice none 0 0), (Value.slice none 0 0)] fun r120 h121 =>
 ([(Value.int .i64 x108), (Value.slice x109.a x109.len x109.cap), (Value.slice x110.a x110.len x110.cap), (Value.int .i64 x111), (Value.int .i64 x112), (Value.slice x113.a x113.len x113.cap), (Value.slice x114.a x114.len x114.cap), (Value.slice x115.a x115.len x115.cap), (Value.slice x116.a x116.len x116.cap)]).length = 9 ∧ (Program.underlying Go.Proofs.Tryd.prog 31).isSome = true ∧
 H.wr h121 (Addr.mk r120 0 none) ([(Value.int .i64 x108), (Value.slice x109.a x109.len x109.cap), (Value.slice x110.a x110.len x110.cap), (Value.int .i64 x111), (Value.int .i64 x112), (Value.slice x113.a x113.len x113.cap), (Value.slice x114.a x114.len x114.cap), (Value.slice x115.a x115.len x115.cap), (Value.slice x116.a x116.len x116.cap)]) fun h122 =>
 ∃ x123 : Int, H.rd h122 (Addr.add (Addr.mk r120 0 none) 0) (Value.int .i64 x123) ∧
 ∃ x124 : SV, H.rd h122 (Addr.add (Addr.mk r120 0 none) 1) (Value.slice x124.a x124.len x124.cap) ∧
 ∃ x125 : SV, H.rd h122 (Addr.add (Addr.mk r120 0 none) 2) (Value.slice x125.a x125.len x125.cap) ∧
 ∃ x126 : Int, H.rd h122 (Addr.add (Addr.mk r120 0 none) 3) (Value.int .i64 x126) ∧
 ∃ x127 : Int, H.rd h122 (Addr.add (Addr.mk r120 0 none) 4) (Value.int .i64 x127) ∧
 ∃ x128 : SV, H.rd h122 (Addr.add (Addr.mk r120 0 none) 5) (Value.slice x128.a x128.len x128.cap) ∧
 ∃ x129 : SV, H.rd h122 (Addr.add (Addr.mk r120 0 none) 6) (Value.slice x129.a x129.len x129.cap) ∧
 ∃ x130 : SV, H.rd h122 (Addr.add (Addr.mk r120 0 none) 7) (Value.slice x130.a x130.len x130.cap) ∧
 ∃ x131 : SV, H.rd h122 (Addr.add (Addr.mk r120 0 none) 8) (Value.slice x131.a x131.len x131.cap) ∧
 ([(Value.int .i64 x123), (Value.slice x124.a x124.len x124.cap), (Value.slice x125.a x125.len x125.cap), (Value.int .i64 x126), (Value.int .i64 x127), (Value.slice x128.a x128.len x128.cap), (Value.slice x129.a x129.len x129.cap), (Value.slice x130.a x130.len x130.cap), (Value.slice x131.a x131.len x131.cap)]).length = 9 ∧ (Program.underlying Go.Proofs.Tryd.prog 31).isSome = true ∧
 H.wr h122 (Addr.mk r24 0 none) ([(Value.int .i64 x123), (Value.slice x124.a x124.len x124.cap), (Value.slice x125.a x125.len x125.cap), (Value.int .i64 x126), (Value.int .i64 x127), (Value.slice x128.a x128.len x128.cap), (Value.slice x129.a x129.len x129.cap), (Value.slice x130.a x130.len x130.cap), (Value.slice x131.a x131.len x131.cap)]) fun h132 =>
 ∃ b133 : Addr, x41.a = some b133 ∧ 0 ≤ (0 : Int) ∧ (0 : Int) < ((x41.len : Nat) : Int) ∧
 ∃ x134 : Int, H.rd h132 (Addr.add (Addr.add b133 (((0 : Int)).toNat * 1)) 0) (Value.int .i64 x134) ∧
 SemCall Go.Proofs.Tryd.prog 10 (List.toArray [(Value.pointer x3), (Value.int .i64 x134)]) h132 fun v135 h136 =>
 ∃ x137 : Bool, ∃ x138 : Int, ∃ x139 : Option (TypeId × Value), v135 = (Value.tuple (List.toArray [(Value.bool x137), (Value.int .i64 x138), (errV x139)])) ∧
 ∃ R140 : Bool → H → Prop, (
 SemCall Go.Proofs.Tryd.prog 5 (List.toArray [(errV x139), (Value.int .i64 x119)]) h136 fun v141 h142 =>
 ∃ x143 : Bool, v141 = (Value.bool x143) ∧
 VIf (!x143) (
 (∃ h144, Gh h142 h144 ∧ R140 true h144)) (
 VIf (!(x137 == x117)) (
 (∃ h145, Gh h142 h145 ∧ R140 true h145)) (
 (∃ h146, Gh h142 h146 ∧ R140 (x138 != x118) h146)))) ∧
 ∀ (_ : F) (x147 : Bool) (h148 : H), R140 x147 h148 →
 VIf x147 (
 VRet h148 (Value.bool false) post) (
 (∃ h149, Gh h148 h149 ∧ R94 h149))) (
 (∃ h150, Gh h93 h150 ∧ R94 h150))) ∧
 ∀ (_ : F) (h151 : H), R94 h151 →
 f3_J3 p0_n post x3 r24 R39 x41 h151

def f3_J5 (p0_n : Int) (p1_steps : SV) (post : Value → H → Prop) (x3 : Option Addr) (r24 : Nat) (R27 : H → Prop) (I28 : Nat → Int → H → Prop) (n29 : Nat) (x32_i : Int) (x37 : Bool) (h38 : H) : Prop :=
 VIf x37 (
 ∃ R39 : H → Prop, (
 ∃ b40 : Addr, p1_steps.a = some b40 ∧ 0 ≤ x32_i ∧ x32_i < ((p1_steps.len : Nat) : Int) ∧
 ∃ x41 : SV, H.rd h38 (Addr.add (Addr.add b40 ((x32_i).toNat * 1)) 0) (Value.slice x41.a x41.len x41.cap) ∧
 ∃ R42 : H → Prop, (
 VIf (((x41.len : Nat) : Int) == (2 : Int)) (
 ∃ b43 : Addr, x41.a = some b43 ∧ 0 ≤ (0 : Int) ∧ (0 : Int) < ((x41.len : Nat) : Int) ∧
 ∃ b44 : Addr, x41.a = some b44 ∧ 0 ≤ (1 : Int) ∧ (1 : Int) < ((x41.len : Nat) : Int) ∧
 ∃ x45 : Int, H.rd h38 (Addr.add (Addr.mk r24 0 none) 0) (Value.int .i64 x45) ∧
 ∃ x46 : SV, H.rd h38 (Addr.add (Addr.mk r24 0 none) 1) (Value.slice x46.a x46.len x46.cap) ∧
 ∃ x47 : SV, H.rd h38 (Addr.add (Addr.mk r24 0 none) 2) (Value.slice x47.a x47.len x47.cap) ∧
 ∃ x48 : Int, H.rd h38 (Addr.add (Addr.mk r24 0 none) 3) (Value.int .i64 x48) ∧
 ∃ x49 : Int, H.rd h38 (Addr.add (Addr.mk r24 0 none) 4) (Value.int .i64 x49) ∧
 ∃ x50 : SV, H.rd h38 (Addr.add (Addr.mk r24 0 none) 5) (Value.slice x50.a x50.len x50.cap) ∧
 ∃ x51 : SV, H.rd h38 (Addr.add (Addr.mk r24 0 none) 6) (Value.slice x51.a x51.len x51.cap) ∧
 ∃ x52 : SV, H.rd h38 (Addr.add (Addr.mk r24 0 none) 7) (Value.slice x52.a x52.len x52.cap) ∧
 ∃ x53 : SV, H.rd h38 (Addr.add (Addr.mk r24 0 none) 8) (Value.slice x53.a x53.len x53.cap) ∧
 ∃ x54 : Int, H.rd h38 (Addr.add (Addr.add b43 (((0 : Int)).toNat * 1)) 0) (Value.int .i64 x54) ∧
 ∃ x55 : Int, H.rd h38 (Addr.add (Addr.add b44 (((1 : Int)).toNat * 1)) 0) (Value.int .i64 x55) ∧
 SemCall Go.Proofs.Tryd.prog 7 (List.toArray [(Value.agg (List.toArray [(Value.int .i64 x45), (Value.slice x46.a x46.len x46.cap), (Value.slice x47.a x47.len x47.cap), (Value.int .i64 x48), (Value.int .i64 x49), (Value.slice x50.a x50.len x50.cap), (Value.slice x51.a x51.len x51.cap), (Value.slice x52.a x52.len x52.cap), (Value.slice x53.a x53.len x53.cap)])), (Value.int .i64 x54), (Value.int .i64 x55)]) h38 fun v56 h57 => OwnExt h38 h57 ∧
 ∃ x58 : Int, ∃ x59 : SV, ∃ x60 : SV, ∃ x61 : Int, ∃ x62 : Int, ∃ x63 : SV, ∃ x64 : SV, ∃ x65 : SV, ∃ x66 : SV, ∃ x67 : Int, v56 = (Value.tuple (List.toArray [(Value.agg (List.toArray [(Value.int .i64 x58), (Value.slice x59.a x59.len x59.cap), (Value.slice x60.a x60.len x60.cap), (Value.int .i64 x61), (Value.int .i64 x62), (Value.slice x63.a x63.len x63.cap), (Value.slice x64.a x64.len x64.cap), (Value.slice x65.a x65.len x65.cap), (Value.slice x66.a x66.len x66.cap)])), (Value.int .i64 x67)])) ∧
 H.new h57 [(Value.int .i64 0), (Value.slice none 0 0), (Value.slice none 0 0), (Value.int .i64 0), (Value.int .i64 0), (Value.slice none 0 0), (Value.slice none 0 0), (Value.slice none 0 0), (Value.slice none 0 0)] fun r68 h69 =>
 ([(Value.int .i64 x58), (Value.slice x59.a x59.len x59.cap), (Value.slice x60.a x60.len x60.cap), (Value.int .i64 x61), (Value.int .i64 x62), (Value.slice x63.a x63.len x63.cap), (Value.slice x64.a x64.len x64.cap), (Value.slice x65.a x65.len x65.cap), (Value.slice x66.a x66.len x66.cap)]).length = 9 ∧ (Program.underlying Go.Proofs.Tryd.prog 31).isSome = true ∧
 H.wr h69 (Addr.mk r68 0 none) ([(Value.int .i64 x58), (Value.slice x59.a x59.len x59.cap), (Value.slice x60.a x60.len x60.cap), (Value.int .i64 x61), (Value.int .i64 x62), (Value.slice x63.a x63.len x63.cap), (Value.slice x64.a x64.len x64.cap), (Value.slice x65.a x65.len x65.cap), (Value.slice x66.a x66.len x66.cap)]) fun h70 =>
 ∃ x71 : Int, H.rd h70 (Addr.add (Addr.mk r68 0 none) 0) (Value.int .i64 x71) ∧
 ∃ x72 : SV, H.rd h70 (Addr.add (Addr.mk r68 0 none) 1) (Value.slice x72.a x72.len x72.cap) ∧
 ∃ x73 : SV, H.rd h70 (Addr.add (Addr.mk r68 0 none) 2) (Value.slice x73.a x73.len x73.cap) ∧
 ∃ x74 : Int, H.rd h70 (Addr.add (Addr.mk r68 0 none) 3) (Value.int .i64 x74) ∧
 ∃ x75 : Int, H.rd h70 (Addr.add (Addr.mk r68 0 none) 4) (Value.int .i64 x75) ∧
 ∃ x76 : SV, H.rd h70 (Addr.add (Addr.mk r68 0 none) 5) (Value.slice x76.a x76.len x76.cap) ∧
 ∃ x77 : SV, H.rd h70 (Addr.add (Addr.mk r68 0 none) 6) (Value.slice x77.a x77.len x77.cap) ∧
 ∃ x78 : SV, H.rd h70 (Addr.add (Addr.mk r68 0 none) 7) (Value.slice x78.a x78.len x78.cap) ∧
 ∃ x79 : SV, H.rd h70 (Addr.add (Addr.mk r68 0 none) 8) (Value.slice x79.a x79.len x79.cap) ∧
 ([(Value.int .i64 x71), (Value.slice x72.a x72.len x72.cap), (Value.slice x73.a x73.len x73.cap), (Value.int .i64 x74), (Value.int .i64 x75), (Value.slice x76.a x76.len x76.cap), (Value.slice x77.a x77.len x77.cap), (Value.slice x78.a x78.len x78.cap), (Value.slice x79.a x79.len x79.cap)]).length = 9 ∧ (Program.underlying Go.Proofs.Tryd.prog 31).isSome = true ∧
 H.wr h70 (Addr.mk r24 0 none) ([(Value.int .i64 x71), (Value.slice x72.a x72.len x72.cap), (Value.slice x73.a x73.len x73.cap), (Value.int .i64 x74), (Value.int .i64 x75), (Value.slice x76.a x76.len x76.cap), (Value.slice x77.a x77.len x77.cap), (Value.slice x78.a x78.len x78.cap), (Value.slice x79.a x79.len x79.cap)]) fun h80 =>
 ∃ b81 : Addr, x41.a = some b81 ∧ 0 ≤ (0 : Int) ∧ (0 : Int) < ((x41.len : Nat) : Int) ∧
 ∃ b82 : Addr, x41.a = some b82 ∧ 0 ≤ (1 : Int) ∧ (1 : Int) < ((x41.len : Nat) : Int) ∧
 ∃ x83 : Int, H.rd h80 (Addr.add (Addr.add b81 (((0 : Int)).toNat * 1)) 0) (Value.int .i64 x83) ∧
 ∃ x84 : Int, H.rd h80 (Addr.add (Addr.add b82 (((1 : Int)).toNat * 1)) 0) (Value.int .i64 x84) ∧
 SemCall Go.Proofs.Tryd.prog 8 (List.toArray [(Value.pointer x3), (Value.int .i64 x83), (Value.int .i64 x84)]) h80 fun v85 h86 =>
 ∃ x87 : Option (TypeId × Value), v85 = (errV x87) ∧
 SemCall Go.Proofs.Tryd.prog 5 (List.toArray [(errV x87), (Value.int .i64 x67)]) h86 fun v88 h89 =>
 ∃ x90 : Bool, v88 = (Value.bool x90) ∧
 VIf (!x90) (
 VRet h89 (Value.bool false) post) (
 (∃ h91, Gh h89 h91 ∧ R42 h91))) (
 (∃ h92, Gh h38 h92 ∧ R42 h92))) ∧
 ∀ (_ : F) (h93 : H), R42 h93 →
 f3_J4 p0_n post x3 r24 R39 x41 h93) ∧
 ∀ (_ : F) (h257 : H), R39 h257 →
 In64 (x32_i + (1 : Int)) ∧
 ∃ m30, m30 < n29 ∧ (∃ h258, Gh h257 h258 ∧ I28 m30 (x32_i + (1 : Int)) h258)) (
 (∃ h259, Gh h38 h259 ∧ R27 h259))

def f3_L6 (p0_n : Int) (p1_steps : SV) (post : Value → H → Prop) (x3 : Option Addr) (r24 : Nat) (R27 : H → Prop) (I28 : Nat → Int → H → Prop) (n29 : Nat) (x32_i : Int) (h33 : H) : Prop :=
 ∃ R34 : Bool → H → Prop, (
 VIf (decide (x32_i < ((p1_steps.len : Nat) : Int))) (
 (∃ h35, Gh h33 h35 ∧ R34 (decide (x32_i < (300 : Int))) h35)) (
 (∃ h36, Gh h33 h36 ∧ R34 false h36))) ∧
 ∀ (_ : F) (x37 : Bool) (h38 : H), R34 x37 h38 →
 f3_J5 p0_n p1_steps post x3 r24 R27 I28 n29 x32_i x37 h38

def f3_J7 (p0_n : Int) (post : Value → H → Prop) (x3 : Option Addr) (h260 : H) : Prop :=
 SemCall Go.Proofs.Tryd.prog 16 (List.toArray [(Value.pointer x3), (Value.int .i64 (-1 : Int))]) h260 fun v261 h262 =>
 ∃ x263 : Int, ∃ x264 : Int, v261 = (Value.tuple (List.toArray [(Value.int .i64 x263), (Value.int .i64 x264)])) ∧
 ∃ R265 : Bool → H → Prop, (
 VIf (x263 == (0 : Int)) (
 VIf (x264 == (0 : Int)) (
 SemCall Go.Proofs.Tryd.prog 17 (List.toArray [(Value.pointer x3), (Value.int .i64 p0_n)]) h262 fun v266 h267 =>
 ∃ x268 : Int, v266 = (Value.int .i64 x268) ∧
 (∃ h269, Gh h267 h269 ∧ R265 (x268 == (0 : Int)) h269)) (
 (∃ h270, Gh h262 h270 ∧ R265 false h270))) (
 (∃ h271, Gh h262 h271 ∧ R265 false h271))) ∧
 ∀ (_ : F) (x272 : Bool) (h273 : H), R265 x272 h273 →
 VRet h273 (Value.bool x272) post

def f3_J8 (p0_n : Int) (p1_steps : SV) (post : Value → H → Prop) (x3 : Option Addr) (x4 : Option (TypeId × Value)) (x8 : Bool) (h9 : H) : Prop :=
 VIf x8 (
 SemCall Go.Proofs.Tryd.prog 5 (List.toArray [(errV x4), (Value.int .i64 (1 : Int))]) h9 fun v10 h11 =>
 ∃ x12 : Bool, v10 = (Value.bool x12) ∧
 VRet h11 (Value.bool x12) post) (
 isIfaceV (errV x4) = true ∧
 VIf (!(isNilV (errV x4))) (
 VRet h9 (Value.bool false) post) (
 SemCall Go.Proofs.Tryd.prog 6 (List.toArray [(Value.int .i64 p0_n)]) h9 fun v13 h14 =>
 ∃ x15 : Int, ∃ x16 : SV, ∃ x17 : SV, ∃ x18 : Int, ∃ x19 : Int, ∃ x20 : SV, ∃ x21 : SV, ∃ x22 : SV, ∃ x23 : SV, v13 = (Value.agg (List.toArray [(Value.int .i64 x15), (Value.slice x16.a x16.len x16.cap), (Value.slice x17.a x17.len x17.cap), (Value.int .i64 x18), (Value.int .i64 x19), (Value.slice x20.a x20.len x20.cap), (Value.slice x21.a x21.len x21.cap), (Value.slice x22.a x22.len x22.cap), (Value.slice x23.a x23.len x23.cap)])) ∧
 H.new h14 [(Value.int .i64 0), (Value.slice none 0 0), (Value.slice none 0 0), (Value.int .i64 0), (Value.int .i64 0), (Value.slice none 0 0), (Value.slice none 0 0), (Value.slice none 0 0), (Value.slice none 0 0)] fun r24 h25 =>
 ([(Value.int .i64 x15), (Value.slice x16.a x16.len x16.cap), (Value.slice x17.a x17.len x17.cap), (Value.int .i64 x18), (Value.int .i64 x19), (Value.slice x20.a x20.len x20.cap), (Value.slice x21.a x21.len x21.cap), (Value.slice x22.a x22.len x22.cap), (Value.slice x23.a x23.len x23.cap)]).length = 9 ∧ (Program.underlying Go.Proofs.Tryd.prog 31).isSome = true ∧
 H.wr h25 (Addr.mk r24 0 none) ([(Value.int .i64 x15), (Value.slice x16.a x16.len x16.cap), (Value.slice x17.a x17.len x17.cap), (Value.int .i64 x18), (Value.int .i64 x19), (Value.slice x20.a x20.len x20.cap), (Value.slice x21.a x21.len x21.cap), (Value.slice x22.a x22.len x22.cap), (Value.slice x23.a x23.len x23.cap)]) fun h26 =>
 ∃ R27 : H → Prop, (
 ∃ I28 : Nat → Int → H → Prop, (∃ n29, (∃ h31, Gh h26 h31 ∧ I28 n29 (0 : Int) h31)) ∧
 ∀ (n29 : Nat) (_ : F) (x32_i : Int) (h33 : H), I28 n29 x32_i h33 →
 f3_L6 p0_n p1_steps post x3 r24 R27 I28 n29 x32_i h33) ∧
 ∀ (_ : F) (h260 : H), R27 h260 →
 f3_J7 p0_n post x3 h260))

def f3_sem (p0_n : Int) (p1_steps : SV) (h0 : H) (post : Value → H → Prop) : Prop :=
 SemCall Go.Proofs.Tryd.prog 4 (List.toArray [(Value.int .i64 p0_n)]) h0 fun v1 h2 =>
 ∃ x3 : Option Addr, ∃ x4 : Option (TypeId × Value), v1 = (Value.tuple (List.toArray [(Value.pointer x3), (errV x4)])) ∧
 ∃ R5 : Bool → H → Prop, (
 VIf (decide (p0_n < (1 : Int))) (
 (∃ h6, Gh h2 h6 ∧ R5 true h6)) (
 (∃ h7, Gh h2 h7 ∧ R5 (decide (p0_n > (4 : Int))) h7))) ∧
 ∀ (_ : F) (x8 : Bool) (h9 : H), R5 x8 h9 →
 f3_J8 p0_n p1_steps post x3 x4 x8 h9

def f3_hint : Hint := (.node .leaf (.node .leaf (.node (.node (.join [(36, .bool)] .leaf) .leaf) (.node .leaf (.node .leaf (.node (.node .leaf (.join [] (.node (.loop [(8, .int)] (.node (.node (.join [(50, .bool)] .leaf) .leaf) (.node (.join [] (.node (.node .leaf (.node (.node .leaf (.join [] (.node (.node .lex (.node .leaf (.node .lex .leaf))) .leaf))) (.node (.node .leaf (.join [] (.node (.node .lex (.node .leaf (.node .leaf (.node (.join [(119, .bool)] .leaf) .leaf)))) .leaf))) (.node (.node .leaf (.join [] (.node (.node (.tail 5) .leaf) .leaf))) (.node .leaf (.node (.node (.join [(174, .bool)] .lex) .leaf) (.node .leaf (.join [] (.node (.loop [(21, .int)] (.node .leaf (.node (.node (.node .leaf (.node (.join [(224, .bool)] .lex) .leaf)) .leaf) .leaf))) .leaf))))))))) .leaf)) .leaf))) .leaf))) (.node .leaf (.node (.join [(4, .bool)] .leaf) .leaf))))))))

theorem f3_eq (p0_n : Int) (p1_steps : SV) (h0 : H) (post : Value → H → Prop) : exec Tryd.prog (bodyOf Tryd.f3) f3_hint (retQ Tryd.prog Tryd.f3 post) (F0 [(Value.int .i64 p0_n), (Value.slice p1_steps.a p1_steps.len p1_steps.cap)]) h0 = f3_sem p0_n p1_steps h0 post := by kernel_rfl

set_option maxRecDepth 20000 in
theorem f3_call (p0_n : Int) (p1_steps : SV) (h0 : H) (post : Value → H → Prop) (hx : f3_sem p0_n p1_steps h0 post) : SemCall Tryd.prog 3 (List.toArray [(Value.int .i64 p0_n), (Value.slice p1_steps.a p1_steps.len p1_steps.cap)]) h0 post :=
 sem_of_exec (g := f3_hint) mixed Tryd.func3 (bodyOf_eq (by kernel_rfl)) (by kernel_rfl) ((f3_eq p0_n p1_steps h0 post).mpr hx)

/- latchgarth/comb.New -/
def f4_sem (p0_n : Int) (h0 : H) (post : Value → H → Prop) : Prop :=
 SemCall Go.Proofs.Tryd.prog 18 (List.toArray [(Value.int .i64 p0_n)]) h0 fun v1 h2 =>
 ∃ x3 : Option (TypeId × Value), v1 = (errV x3) ∧
 isIfaceV (errV x3) = true ∧
 VIf (!(isNilV (errV x3))) (
 VRet h2 (Value.tuple (List.toArray [(Value.pointer none), (errV x3)])) post) (
 H.new h2 [(Value.int .i64 p0_n), (Value.int .i64 0), (Value.int .i64 0), (Value.int .i64 0), (Value.int .i64 0), (Value.int .i64 0), (Value.int .i64 0), (Value.int .i64 0), (Value.int .i64 0), (Value.int .i64 0), (Value.int .i64 0), (Value.int .i64 0), (Value.int .i64 0), (Value.int .i64 0), (Value.int .i64 0), (Value.int .i64 0), (Value.int .i64 0), (Value.int .i64 0), (Value.int .i64 0), (Value.int .i64 0), (Value.int .i64 0), (Value.int .i64 0), (Value.int .i64 0), (Value.int .i64 0), (Value.int .i64 0), (Value.int .i64 0), (Value.int .i64 0), (Value.int .i64 0), (Value.int .i64 0), (Value.int .i64 0), (Value.int .i64 0), (Value.int .i64 0), (Value.int .i64 0), (Value.int .i64 0), (Value.int .i64 0), (Value.int .i64 0), (Value.int .i64 0), (Value.int .i64 0), (Value.int .i64 0), (Value.int .i64 0), (Value.int .i64 0), (Value.int .i64 0), (Value.int .i64 0), (Value.int .i64 0), (Value.int .i64 0), (Value.int .i64 0), (Value.int .i64 0), (Value.int .i64 0), (Value.int .i64 0), (Value.int .i64 0), (Value.int .i64 0), (Value.int .i64 0), (Value.int .i64 0), (Value.int .i64 0), (Value.int .i64 0), (Value.int .i64 0), (Value.int .i64 0), (Value.int .i64 0), (Value.int .i64 0)] fun r4 h5 =>
 VRet h5 (Value.tuple (List.toArray [(Value.pointer (some (Addr.mk r4 0 none))), Value.nilIface])) post)

def f4_hint : Hint := .leaf

theorem f4_eq (p0_n : Int) (h0 : H) (post : Value → H → Prop) : exec Tryd.prog (bodyOf Tryd.f4) f4_hint (retQ Tryd.prog Tryd.f4 post) (F0 [(Value.int .i64 p0_n)]) h0 = f4_sem p0_n h0 post := by kernel_rfl

set_option maxRecDepth 20000 in
theorem f4_call (p0_n : Int) (h0 : H) (post : Value → H → Prop) (hx : f4_sem p0_n h0 post) : SemCall Tryd.prog 4 (List.toArray [(Value.int .i64 p0_n)]) h0 post :=
 sem_of_exec (g := f4_hint) mixed Tryd.func4 (bodyOf_eq (by kernel_rfl)) (by kernel_rfl) ((f4_eq p0_n h0 post).mpr hx)

/- latchgarth/latchgarthsame.Error -/
def f5_sem (p0_err : Option (TypeId × Value)) (p1_e : Int) (h0 : H) (post : Value → H → Prop) : Prop :=
 SemCall Go.Proofs.Tryd.prog 19 (List.toArray [(errV p0_err)]) h0 fun v1 h2 =>
 ∃ x3 : Int, v1 = (Value.int .i64 x3) ∧
 VRet h2 (Value.bool (x3 == p1_e)) post

def f5_hint : Hint := .leaf

theorem f5_eq (p0_err : Option (TypeId × Value)) (p1_e : Int) (h0 : H) (post : Value → H → Prop) : exec Tryd.prog (bodyOf Tryd.f5) f5_hint (retQ Tryd.prog Tryd.f5 post) (F0 [(errV p0_err), (Value.int .i64 p1_e)]) h0 = f5_sem p0_err p1_e h0 post := by kernel_rfl

set_option maxRecDepth 20000 in
theorem f5_call (p0_err : Option (TypeId × Value)) (p1_e : Int) (h0 : H) (post : Value → H → Prop) (hx : f5_sem p0_err p1_e h0 post) : SemCall Tryd.prog 5 (List.toArray [(errV p0_err), (Value.int .i64 p1_e)]) h0 post :=
 sem_of_exec (g := f5_hint) mixed Tryd.func5 (bodyOf_eq (by kernel_rfl)) (by kernel_rfl) ((f5_eq p0_err p1_e h0 post).mpr hx)

/- latchgarth/latchgarthref4.NewComb -/
def f6_sem (p0_n : Int) (h0 : H) (post : Value → H → Prop) : Prop :=
 H.new h0 [(Value.int .i64 0), (Value.slice none 0 0), (Value.slice none 0 0), (Value.int .i64 0), (Value.int .i64 0), (Value.slice none 0 0), (Value.slice none 0 0), (Value.slice none 0 0), (Value.slice none 0 0)] fun r1 h2 =>
 SemCall Go.Proofs.Tryd.prog 21 (List.toArray [(Value.int .i64 p0_n)]) h2 fun v3 h4 =>
 ∃ x5 : SV, v3 = (Value.slice x5.a x5.len x5.cap) ∧
 SemCall Go.Proofs.Tryd.prog 21 (List.toArray [(Value.int .i64 p0_n)]) h4 fun v6 h7 =>
 ∃ x8 : SV, v6 = (Value.slice x8.a x8.len x8.cap) ∧
 SemCall Go.Proofs.Tryd.prog 20 (List.toArray [(Value.agg (List.toArray [(Value.int .i64 p0_n), (Value.slice x5.a x5.len x5.cap), (Value.slice x8.a x8.len x8.cap), (Value.int .i64 0), (Value.int .i64 0), (Value.slice none 0 0), (Value.slice none 0 0), (Value.slice none 0 0), (Value.slice none 0 0)]))]) h7 fun v9 h10 =>
 ∃ x11 : Int, ∃ x12 : SV, ∃ x13 : SV, ∃ x14 : Int, ∃ x15 : Int, ∃ x16 : SV, ∃ x17 : SV, ∃ x18 : SV, ∃ x19 : SV, v9 = (Value.agg (List.toArray [(Value.int .i64 x11), (Value.slice x12.a x12.len x12.cap), (Value.slice x13.a x13.len x13.cap), (Value.int .i64 x14), (Value.int .i64 x15), (Value.slice x16.a x16.len x16.cap), (Value.slice x17.a x17.len x17.cap), (Value.slice x18.a x18.len x18.cap), (Value.slice x19.a x19.len x19.cap)])) ∧
 ([(Value.int .i64 x11), (Value.slice x12.a x12.len x12.cap), (Value.slice x13.a x13.len x13.cap), (Value.int .i64 x14), (Value.int .i64 x15), (Value.slice x16.a x16.len x16.cap), (Value.slice x17.a x17.len x17.cap), (Value.slice x18.a x18.len x18.cap), (Value.slice x19.a x19.len x19.cap)]).length = 9 ∧ (Program.underlying Go.Proofs.Tryd.prog 31).isSome = true ∧
 H.wr h10 (Addr.mk r1 0 none) ([(Value.int .i64 x11), (Value.slice x12.a x12.len x12.cap), (Value.slice x13.a x13.len x13.cap), (Value.int .i64 x14), (Value.int .i64 x15), (Value.slice x16.a x16.len x16.cap), (Value.slice x17.a x17.len x17.cap), (Value.slice x18.a x18.len x18.cap), (Value.slice x19.a x19.len x19.cap)]) fun h20 =>
 ∃ x21 : Int, H.rd h20 (Addr.add (Addr.mk r1 0 none) 0) (Value.int .i64 x21) ∧
 ∃ x22 : SV, H.rd h20 (Addr.add (Addr.mk r1 0 none) 1) (Value.slice x22.a x22.len x22.cap) ∧
 ∃ x23 : SV, H.rd h20 (Addr.add (Addr.mk r1 0 none) 2) (Value.slice x23.a x23.len x23.cap) ∧
 ∃ x24 : Int, H.rd h20 (Addr.add (Addr.mk r1 0 none) 3) (Value.int .i64 x24) ∧
 ∃ x25 : Int, H.rd h20 (Addr.add (Addr.mk r1 0 none) 4) (Value.int .i64 x25) ∧
 ∃ x26 : SV, H.rd h20 (Addr.add (Addr.mk r1 0 none) 5) (Value.slice x26.a x26.len x26.cap) ∧
 ∃ x27 : SV, H.rd h20 (Addr.add (Addr.mk r1 0 none) 6) (Value.slice x27.a x27.len x27.cap) ∧
 ∃ x28 : SV, H.rd h20 (Addr.add (Addr.mk r1 0 none) 7) (Value.slice x28.a x28.len x28.cap) ∧
 ∃ x29 : SV, H.rd h20 (Addr.add (Addr.mk r1 0 none) 8) (Value.slice x29.a x29.len x29.cap) ∧
 VRet h20 (Value.agg (List.toArray [(Value.int .i64 x21), (Value.slice x22.a x22.len x22.cap), (Value.slice x23.a x23.len x23.cap), (Value.int .i64 x24), (Value.int .i64 x25), (Value.slice x26.a x26.len x26.cap), (Value.slice x27.a x27.len x27.cap), (Value.slice x28.a x28.len x28.cap), (Value.slice x29.a x29.len x29.cap)])) post

def f6_hint : Hint := .leaf

theorem f6_eq (p0_n : Int) (h0 : H) (post : Value → H → Prop) : exec Tryd.prog (bodyOf Tryd.f6) f6_hint (retQ Tryd.prog Tryd.f6 post) (F0 [(Value.int .i64 p0_n)]) h0 = f6_sem p0_n h0 post := by kernel_rfl

set_option maxRecDepth 20000 in
theorem f6_call (p0_n : Int) (h0 : H) (post : Value → H → Prop) (hx : f6_sem p0_n h0 post) : SemCall Tryd.prog 6 (List.toArray [(Value.int .i64 p0_n)]) h0 post :=
 sem_of_exec (g := f6_hint) mixed Tryd.func6 (bodyOf_eq (by kernel_rfl)) (by kernel_rfl) ((f6_eq p0_n h0 post).mpr hx)

/- latchgarth/latchgarthref4.BeginComb -/
def f7_J1 (p1_p : Int) (p2_add : Int) (post : Value → H → Prop) (r1 : Nat) (r3 : Nat) (x15 : Bool) (h16 : H) : Prop :=
 VIf x15 (
 ∃ x17 : Int, H.rd h16 (Addr.add (Addr.mk r1 0 none) 0) (Value.int .i64 x17) ∧
 ∃ x18 : SV, H.rd h16 (Addr.add (Addr.mk r1 0 none) 1) (Value.slice x18.a x18.len x18.cap) ∧
 ∃ x19 : SV, H.rd h16 (Addr.add (Addr.mk r1 0 none) 2) (Value.slice x19.a x19.len x19.cap) ∧
 ∃ x20 : Int, H.rd h16 (Addr.add (Addr.mk r1 0 none) 3) (Value.int .i64 x20) ∧
 ∃ x21 : Int, H.rd h16 (Addr.add (Addr.mk r1 0 none) 4) (Value.int .i64 x21) ∧
 ∃ x22 : SV, H.rd h16 (Addr.add (Addr.mk r1 0 none) 5) (Value.slice x22.a x22.len x22.cap) ∧
 ∃ x23 : SV, H.rd h16 (Addr.add (Addr.mk r1 0 none) 6) (Value.slice x23.a x23.len x23.cap) ∧
 ∃ x24 : SV, H.rd h16 (Addr.add (Addr.mk r1 0 none) 7) (Value.slice x24.a x24.len x24.cap) ∧
 ∃ x25 : SV, H.rd h16 (Addr.add (Addr.mk r1 0 none) 8) (Value.slice x25.a x25.len x25.cap) ∧
 ([(Value.int .i64 x17), (Value.slice x18.a x18.len x18.cap), (Value.slice x19.a x19.len x19.cap), (Value.int .i64 x20), (Value.int .i64 x21), (Value.slice x22.a x22.len x22.cap), (Value.slice x23.a x23.len x23.cap), (Value.slice x24.a x24.len x24.cap), (Value.slice x25.a x25.len x25.cap)]).length = 9 ∧ (Program.underlying Go.Proofs.Tryd.prog 31).isSome = true ∧
 H.wr h16 (Addr.mk r3 0 none) ([(Value.int .i64 x17), (Value.slice x18.a x18.len x18.cap), (Value.slice x19.a x19.len x19.cap), (Value.int .i64 x20), (Value.int .i64 x21), (Value.slice x22.a x22.len x22.cap), (Value.slice x23.a x23.len x23.cap), (Value.slice x24.a x24.len x24.cap), (Value.slice x25.a x25.len x25.cap)]) fun h26 =>
 ∃ x27 : Int, H.rd h26 (Addr.add (Addr.mk r3 0 none) 0) (Value.int .i64 x27) ∧
 ∃ x28 : SV, H.rd h26 (Addr.add (Addr.mk r3 0 none) 1) (Value.slice x28.a x28.len x28.cap) ∧
 ∃ x29 : SV, H.rd h26 (Addr.add (Addr.mk r3 0 none) 2) (Value.slice x29.a x29.len x29.cap) ∧
 ∃ x30 : Int, H.rd h26 (Addr.add (Addr.mk r3 0 none) 3) (Value.int .i64 x30) ∧
 ∃ x31 : Int, H.rd h26 (Addr.add (Addr.mk r3 0 none) 4) (Value.int .i64 x31) ∧
 ∃ x32 : SV, H.rd h26 (Addr.add (Addr.mk r3 0 none) 5) (Value.slice x32.a x32.len x32.cap) ∧
 ∃ x33 : SV, H.rd h26 (Addr.add (Addr.mk r3 0 none) 6) (Value.slice x33.a x33.len x33.cap) ∧
 ∃ x34 : SV, H.rd h26 (Addr.add (Addr.mk r3 0 none) 7) (Value.slice x34.a x34.len x34.cap) ∧
 ∃ x35 : SV, H.rd h26 (Addr.add (Addr.mk r3 0 none) 8) (Value.slice x35.a x35.len x35.cap) ∧
 VRet h26 (Value.tuple (List.toArray [(Value.agg (List.toArray [(Value.int .i64 x27), (Value.slice x28.a x28.len x28.cap), (Value.slice x29.a x29.len x29.cap), (Value.int .i64 x30), (Value.int .i64 x31), (Value.slice x32.a x32.len x32.cap), (Value.slice x33.a x33.len x33.cap), (Value.slice x34.a x34.len x34.cap), (Value.slice x35.a x35.len x35.cap)])), (Value.int .i64 (1 : Int))])) post) (
 ∃ x36 : SV, H.rd h16 (Addr.add (Addr.add (Addr.mk r1 0 none) 6) 0) (Value.slice x36.a x36.len x36.cap) ∧
 ∃ b37 : Addr, x36.a = some b37 ∧ 0 ≤ p1_p ∧ p1_p < ((x36.len : Nat) : Int) ∧
 ∃ x38 : Int, H.rd h16 (Addr.add (Addr.add b37 ((p1_p).toNat * 1)) 0) (Value.int .i64 x38) ∧
 VIf (x38 != (0 : Int)) (
 ∃ x39 : Int, H.rd h16 (Addr.add (Addr.mk r1 0 none) 0) (Value.int .i64 x39) ∧
 ∃ x40 : SV, H.rd h16 (Addr.add (Addr.mk r1 0 none) 1) (Value.slice x40.a x40.len x40.cap) ∧
 ∃ x41 : SV, H.rd h16 (Addr.add (Addr.mk r1 0 none) 2) (Value.slice x41.a x41.len x41.cap) ∧
 ∃ x42 : Int, H.rd h16 (Addr.add (Addr.mk r1 0 none) 3) (Value.int .i64 x42) ∧
 ∃ x43 : Int, H.rd h16 (Addr.add (Addr.mk r1 0 none) 4) (Value.int .i64 x43) ∧
 ∃ x44 : SV, H.rd h16 (Addr.add (Addr.mk r1 0 none) 5) (Value.slice x44.a x44.len x44.cap) ∧
 ∃ x45 : SV, H.rd h16 (Addr.add (Addr.mk r1 0 none) 6) (Value.slice x45.a x45.len x45.cap) ∧
 ∃ x46 : SV, H.rd h16 (Addr.add (Addr.mk r1 0 none) 7) (Value.slice x46.a x46.len x46.cap) ∧
 ∃ x47 : SV, H.rd h16 (Addr.add (Addr.mk r1 0 none) 8) (Value.slice x47.a x47.len x47.cap) ∧
 ([(Value.int .i64 x39), (Value.slice x40.a x40.len x40.cap), (Value.slice x41.a x41.len x41.cap), (Value.int .i64 x42), (Value.int .i64 x43), (Value.slice x44.a x44.len x44.cap), (Value.slice x45.a x45.len x45.cap), (Value.slice x46.a x46.len x46.cap), (Value.slice x47.a x47.len x47.cap)]).length = 9 ∧ (Program.underlying Go.Proofs.Tryd.prog 31).isSome = true ∧
 H.wr h16 (Addr.mk r3 0 none) ([(Value.int .i64 x39), (Value.slice x40.a x40.len x40.cap), (Value.slice x41.a x41.len x41.cap), (Value.int .i64 x42), (Value.int .i64 x43), (Value.slice x44.a x44.len x44.cap), (Value.slice x45.a x45.len x45.cap), (Value.slice x46.a x46.len x46.cap), (Value.slice x47.a x47.len x47.cap)]) fun h48 =>
 ∃ x49 : Int, H.rd h48 (Addr.add (Addr.mk r3 0 none) 0) (Value.int .i64 x49) ∧
 ∃ x50 : SV, H.rd h48 (Addr.add (Addr.mk r3 0 none) 1) (Value.slice x50.a x50.len x50.cap) ∧
 ∃ x51 : SV, H.rd h48 (Addr.add (Addr.mk r3 0 none) 2) (Value.slice x51.a x51.len x51.cap) ∧
 ∃ x52 : Int, H.rd h48 (Addr.add (Addr.mk r3 0 none) 3) (Value.int .i64 x52) ∧
 ∃ x53 : Int, H.rd h48 (Addr.add (Addr.mk r3 0 none) 4) (Value.int .i64 x53) ∧
 ∃ x54 : SV, H.rd h48 (Addr.add (Addr.mk r3 0 none) 5) (Value.slice x54.a x54.len x54.cap) ∧
 ∃ x55 : SV, H.rd h48 (Addr.add (Addr.mk r3 0 none) 6) (Value.slice x55.a x55.len x55.cap) ∧
 ∃ x56 : SV, H.rd h48 (Addr.add (Addr.mk r3 0 none) 7) (Value.slice x56.a x56.len x56.cap) ∧
 ∃ x57 : SV, H.rd h48 (Addr.add (Addr.mk r3 0 none) 8) (Value.slice x57.a x57.len x57.cap) ∧
 VRet h48 (Value.tuple (List.toArray [(Value.agg (List.toArray [(Value.int .i64 x49), (Value.slice x50.a x50.len x50.cap), (Value.slice x51.a x51.len x51.cap), (Value.int .i64 x52), (Value.int .i64 x53), (Value.slice x54.a x54.len x54.cap), (Value.slice x55.a x55.len x55.cap), (Value.slice x56.a x56.len x56.cap), (Value.slice x57.a x57.len x57.cap)])), (Value.int .i64 (7 : Int))])) post) (
 ∃ x58 : SV, H.rd h16 (Addr.add (Addr.add (Addr.mk r1 0 none) 6) 0) (Value.slice x58.a x58.len x58.cap) ∧
 SemCall Go.Proofs.Tryd.prog 23 (List.toArray [(Value.slice x58.a x58.len x58.cap), (Value.int .i64 p1_p), (Value.int .i64 (1 : Int))]) h16 fun v59 h60 =>
 ∃ x61 : SV, v59 = (Value.slice x61.a x61.len x61.cap) ∧
 H.wr h60 (Addr.add (Addr.mk r1 0 none) 6) ([(Value.slice x61.a x61.len x61.cap)]) fun h62 =>
 ∃ x63 : SV, H.rd h62 (Addr.add (Addr.add (Addr.mk r1 0 none) 7) 0) (Value.slice x63.a x63.len x63.cap) ∧
 SemCall Go.Proofs.Tryd.prog 23 (List.toArray [(Value.slice x63.a x63.len x63.cap), (Value.int .i64 p1_p), (Value.int .i64 p2_add)]) h62 fun v64 h65 =>
 ∃ x66 : SV, v64 = (Value.slice x66.a x66.len x66.cap) ∧
 H.wr h65 (Addr.add (Addr.mk r1 0 none) 7) ([(Value.slice x66.a x66.len x66.cap)]) fun h67 =>
 ∃ x68 : SV, H.rd h67 (Addr.add (Addr.add (Addr.mk r1 0 none) 8) 0) (Value.slice x68.a x68.len x68.cap) ∧
 ∃ x69 : SV, H.rd h67 (Addr.add (Addr.add (Addr.mk r1 0 none) 1) 0) (Value.slice x69.a x69.len x69.cap) ∧
 ∃ x70 : Int, H.rd h67 (Addr.add (Addr.add (Addr.mk r1 0 none) 3) 0) (Value.int .i64 x70) ∧
 ∃ b71 : Addr, x69.a = some b71 ∧ 0 ≤ x70 ∧ x70 < ((x69.len : Nat) : Int) ∧
 ∃ x72 : SV, H.rd h67 (Addr.add (Addr.add b71 ((x70).toNat * 1)) 0) (Value.slice x72.a x72.len x72.cap) ∧
 In64 ((2 : Int) * p1_p) ∧
 In64 ((1 : Int) + ((2 : Int) * p1_p)) ∧
 ∃ b73 : Addr, x72.a = some b73 ∧ 0 ≤ ((1 : Int) + ((2 : Int) * p1_p)) ∧ ((1 : Int) + ((2 : Int) * p1_p)) < ((x72.len : Nat) : Int) ∧
 ∃ x74 : Int, H.rd h67 (Addr.add (Addr.add b73 ((((1 : Int) + ((2 : Int) * p1_p))).toNat * 1)) 0) (Value.int .i64 x74) ∧
 In64 (x74 + (1 : Int)) ∧
 SemCall Go.Proofs.Tryd.prog 23 (List.toArray [(Value.slice x68.a x68.len x68.cap), (Value.int .i64 p1_p), (Value.int .i64 (x74 + (1 : Int)))]) h67 fun v75 h76 =>
 ∃ x77 : SV, v75 = (Value.slice x77.a x77.len x77.cap) ∧
 H.wr h76 (Addr.add (Addr.mk r1 0 none) 8) ([(Value.slice x77.a x77.len x77.cap)]) fun h78 =>
 ∃ x79 : Int, H.rd h78 (Addr.add (Addr.mk r1 0 none) 0) (Value.int .i64 x79) ∧
 ∃ x80 : SV, H.rd h78 (Addr.add (Addr.mk r1 0 none) 1) (Value.slice x80.a x80.len x80.cap) ∧
 ∃ x81 : SV, H.rd h78 (Addr.add (Addr.mk r1 0 none) 2) (Value.slice x81.a x81.len x81.cap) ∧
 ∃ x82 : Int, H.rd h78 (Addr.add (Addr.mk r1 0 none) 3) (Value.int .i64 x82) ∧
 ∃ x83 : Int, H.rd h78 (Addr.add (Addr.mk r1 0 none) 4) (Value.int .i64 x83) ∧
 ∃ x84 : SV, H.rd h78 (Addr.add (Addr.mk r1 0 none) 5) (Value.slice x84.a x84.len x84.cap) ∧
 ∃ x85 : SV, H.rd h78 (Addr.add (Addr.mk r1 0 none) 6) (Value.slice x85.a x85.len x85.cap) ∧
 ∃ x86 : SV, H.rd h78 (Addr.add (Addr.mk r1 0 none) 7) (Value.slice x86.a x86.len x86.cap) ∧
 ∃ x87 : SV, H.rd h78 (Addr.add (Addr.mk r1 0 none) 8) (Value.slice x87.a x87.len x87.cap) ∧
 ([(Value.int .i64 x79), (Value.slice x80.a x80.len x80.cap), (Value.slice x81.a x81.len x81.cap), (Value.int .i64 x82), (Value.int .i64 x83), (Value.slice x84.a x84.len x84.cap), (Value.slice x85.a x85.len x85.cap), (Value.slice x86.a x86.len x86.cap), (Value.slice x87.a x87.len x87.cap)]).length = 9 ∧ (Program.underlying Go.Proofs.Tryd.prog 31).isSome = true ∧
 H.wr h78 (Addr.mk r3 0 none) ([(Value.int .i64 x79), (Value.slice x80.a x80.len x80.cap), (Value.slice x81.a x81.len x81.cap), (Value.int .i64 x82), (Value.int .i64 x83), (Value.slice x84.a x84.len x84.cap), (Value.slice x85.a x85.len x85.cap), (Value.slice x86.a x86.len x86.cap), (Value.slice x87.a x87.len x87.cap)]) fun h88 =>
 ∃ x89 : Int, H.rd h88 (Addr.add (Addr.mk r3 0 none) 0) (Value.int .i64 x89) ∧
 ∃ x90 : SV, H.rd h88 (Addr.add (Addr.mk r3 0 none) 1) (Value.slice x90.a x90.len x90.cap) ∧
 ∃ x91 : SV, H.rd h88 (Addr.add (Addr.mk r3 0 none) 2) (Value.slice x91.a x91.len x91.cap) ∧
 ∃ x92 : Int, H.rd h88 (Addr.add (Addr.mk r3 0 none) 3) (Value.int .i64 x92) ∧
 ∃ x93 : Int, H.rd h88 (Addr.add (Addr.mk r3 0 none) 4) (Value.int .i64 x93) ∧
 ∃ x94 : SV, H.rd h88 (Addr.add (Addr.mk r3 0 none) 5) (Value.slice x94.a x94.len x94.cap) ∧
 ∃ x95 : SV, H.rd h88 (Addr.add (Addr.mk r3 0 none) 6) (Value.slice x95.a x95.len x95.cap) ∧
 ∃ x96 : SV, H.rd h88 (Addr.add (Addr.mk r3 0 none) 7) (Value.slice x96.a x96.len x96.cap) ∧
 ∃ x97 : SV, H.rd h88 (Addr.add (Addr.mk r3 0 none) 8) (Value.slice x97.a x97.len x97.cap) ∧
 VRet h88 (Value.tuple (List.toArray [(Value.agg (List.toArray [(Value.int .i64 x89), (Value.slice x90.a x90.len x90.cap), (Value.slice x91.a x91.len x91.cap), (Value.int .i64 x92), (Value.int .i64 x93), (Value.slice x94.a x94.len x94.cap), (Value.slice x95.a x95.len x95.cap), (Value.slice x96.a x96.len x96.cap), (Value.slice x97.a x97.len x97.cap)])), (Value.int .i64 0)])) post))

def f7_sem (p0_0_c : Int) (p0_1_c : SV) (p0_2_c : SV) (p0_3_c : Int) (p0_4_c : Int) (p0_5_c : SV) (p0_6_c : SV) (p0_7_c : SV) (p0_8_c : SV) (p1_p : Int) (p2_add : Int) (h0 : H) (post : Value → H → Prop) : Prop :=
 H.new h0 [(Value.int .i64 p0_0_c), (Value.slice p0_1_c.a p0_1_c.len p0_1_c.cap), (Value.slice p0_2_c.a p0_2_c.len p0_2_c.cap), (Value.int .i64 p0_3_c), (Value.int .i64 p0_4_c), (Value.slice p0_5_c.a p0_5_c.len p0_5_c.cap), (Value.slice p0_6_c.a p0_6_c.len p0_6_c.cap), (Value.slice p0_7_c.a p0_7_c.len p0_7_c.cap), (Value.slice p0_8_c.a p0_8_c.len p0_8_c.cap)] fun r1 h2 =>
 H.new h2 [(Value.int .i64 0), (Value.slice none 0 0), (Value.slice none 0 0), (Value.int .i64 0), (Value.int .i64 0), (Value.slice none 0 0), (Value.slice none 0 0), (Value.slice none 0 0), (Value.slice none 0 0)] fun r3 h4 =>
 ∃ R5 : Bool → H → Prop, (
 ∃ x6 : Int, H.rd h4 (Addr.add (Addr.add (Addr.mk r1 0 none) 0) 0) (Value.int .i64 x6) ∧
 In64 (x6 - (1 : Int)) ∧
 SemCall Go.Proofs.Tryd.prog 22 (List.toArray [(Value.int .i64 p1_p), (Value.int .i64 0), (Value.int .i64 (x6 - (1 : Int)))]) h4 fun v7 h8 =>
 ∃ x9 : Bool, v7 = (Value.bool x9) ∧
 VIf (!x9) (
 (∃ h10, Gh h8 h10 ∧ R5 true h10)) (
 SemCall Go.Proofs.Tryd.prog 22 (List.toArray [(Value.int .i64 p2_add), (Value.int .i64 0), (Value.int .i64 (1000 : Int))]) h8 fun v11 h12 =>
 ∃ x13 : Bool, v11 = (Value.bool x13) ∧
 (∃ h14, Gh h12 h14 ∧ R5 (!x13) h14))) ∧
 ∀ (_ : F) (x15 : Bool) (h16 : H), R5 x15 h16 →
 f7_J1 p1_p p2_add post r1 r3 x15 h16

def f7_hint : Hint := (.node .leaf (.node (.node (.join [(18, .bool)] .leaf) .leaf) (.node .leaf (.node .leaf (.node .leaf (.node (.tail 15) .leaf))))))

theorem f7_eq (p0_0_c : Int) (p0_1_c : SV) (p0_2_c : SV) (p0_3_c : Int) (p0_4_c : Int) (p0_5_c : SV) (p0_6_c : SV) (p0_7_c : SV) (p0_8_c : SV) (p1_p : Int) (p2_add : Int) (h0 : H) (post : Value → H → Prop) : exec Tryd.prog (bodyOf Tryd.f7) f7_hint (retQ Tryd.prog Tryd.f7 post) (F0 [(Value.agg (List.toArray [(Value.int .i64 p0_0_c), (Value.slice p0_1_c.a p0_1_c.len p0_1_c.cap), (Value.slice p0_2_c.a p0_2_c.len p0_2_c.cap), (Value.int .i64 p0_3_c), (Value.int .i64 p0_4_c), (Value.slice p0_5_c.a p0_5_c.len p0_5_c.cap), (Value.slice p0_6_c.a p0_6_c.len p0_6_c.cap), (Value.slice p0_7_c.a p0_7_c.len p0_7_c.cap), (Value.slice p0_8_c.a p0_8_c.len p0_8_c.cap)])), (Value.int .i64 p1_p), (Value.int .i64 p2_add)]) h0 = f7_sem p0_0_c p0_1_c p0_2_c p0_3_c p0_4_c p0_5_c p0_6_c p0_7_c p0_8_c p1_p p2_add h0 post := by kernel_rfl

set_option maxRecDepth 20000 in
theorem f7_call (p0_0_c : Int) (p0_1_c : SV) (p0_2_c : SV) (p0_3_c : Int) (p0_4_c : Int) (p0_5_c : SV) (p0_6_c : SV) (p0_7_c : SV) (p0_8_c : SV) (p1_p : Int) (p2_add : Int) (h0 : H) (post : Value → H → Prop) (hx : f7_sem p0_0_c p0_1_c p0_2_c p0_3_c p0_4_c p0_5_c p0_6_c p0_7_c p0_8_c p1_p p2_add h0 post) : SemCall Tryd.prog 7 (List.toArray [(Value.agg (List.toArray [(Value.int .i64 p0_0_c), (Value.slice p0_1_c.a p0_1_c.len p0_1_c.cap), (Value.slice p0_2_c.a p0_2_c.len p0_2_c.cap), (Value.int .i64 p0_3_c), (Value.int .i64 p0_4_c), (Value.slice p0_5_c.a p0_5_c.len p0_5_c.cap), (Value.slice p0_6_c.a p0_6_c.len p0_6_c.cap), (Value.slice p0_7_c.a p0_7_c.len p0_7_c.cap), (Value.slice p0_8_c.a p0_8_c.len p0_8_c.cap)])), (Value.int .i64 p1_p), (Value.int .i64 p2_add)]) h0 post :=
 sem_of_exec (g := f7_hint) mixed Tryd.func7 (bodyOf_eq (by kernel_rfl)) (by kernel_rfl) ((f7_eq p0_0_c p0_1_c p0_2_c p0_3_c p0_4_c p0_5_c p0_6_c p0_7_c p0_8_c p1_p p2_add h0 post).mpr hx)

/- (*latchgarth/comb.Comb).Begin -/
def f8_J1 (p0_c : Option Addr) (p1_p : Int) (p2_add : Int) (post : Value → H → Prop) (x12 : Bool) (h13 : H) : Prop :=
 VIf x12 (
 VRet h13 (Value.iface 63 (Value.int .i64 (1 : Int))) post) (
 ∃ a14 : Addr, p0_c = some a14 ∧
 0 ≤ p1_p ∧ p1_p < ((4 : Nat) : Int) ∧
 ∃ x15 : Int, H.rd h13 (Addr.add (Addr.add (Addr.add (Addr.add a14 47) ((p1_p).toNat * 3)) 0) 0) (Value.int .i64 x15) ∧
 VIf (x15 != (0 : Int)) (
 VRet h13 (Value.iface 63 (Value.int .i64 (7 : Int))) post) (
 ∃ a16 : Addr, p0_c = some a16 ∧
 ∃ x17 : Int, H.rd h13 (Addr.add (Addr.add a16 37) 0) (Value.int .i64 x17) ∧
 ∃ a18 : Addr, p0_c = some a18 ∧
 0 ≤ x17 ∧ x17 < ((2 : Nat) : Int) ∧
 0 ≤ p1_p ∧ p1_p < ((4 : Nat) : Int) ∧
 ∃ x19 : Int, H.rd h13 (Addr.add (Addr.add (Addr.add (Addr.add (Addr.add a18 1) ((x17).toNat * 9)) 1) ((p1_p).toNat * 1)) 0) (Value.int .i64 x19) ∧
 In64 (x19 + (1 : Int)) ∧
 ∃ a20 : Addr, p0_c = some a20 ∧
 0 ≤ p1_p ∧ p1_p < ((4 : Nat) : Int) ∧
 ([(Value.int .i64 (1 : Int)), (Value.int .i64 p2_add), (Value.int .i64 (x19 + (1 : Int)))]).length = 3 ∧ (Program.underlying Go.Proofs.Tryd.prog 59).isSome = true ∧
 H.wr h13 (Addr.add (Addr.add a20 47) ((p1_p).toNat * 3)) ([(Value.int .i64 (1 : Int)), (Value.int .i64 p2_add), (Value.int .i64 (x19 + (1 : Int)))]) fun h21 =>
 VRet h21 Value.nilIface post))

def f8_sem (p0_c : Option Addr) (p1_p : Int) (p2_add : Int) (h0 : H) (post : Value → H → Prop) : Prop :=
 ∃ R1 : Bool → H → Prop, (
 ∃ a2 : Addr, p0_c = some a2 ∧
 ∃ x3 : Int, H.rd h0 (Addr.add (Addr.add a2 0) 0) (Value.int .i64 x3) ∧
 In64 (x3 - (1 : Int)) ∧
 SemCall Go.Proofs.Tryd.prog 24 (List.toArray [(Value.int .i64 p1_p), (Value.int .i64 0), (Value.int .i64 (x3 - (1 : Int)))]) h0 fun v4 h5 =>
 ∃ x6 : Bool, v4 = (Value.bool x6) ∧
 VIf (!x6) (
 (∃ h7, Gh h5 h7 ∧ R1 true h7)) (
 SemCall Go.Proofs.Tryd.prog 24 (List.toArray [(Value.int .i64 p2_add), (Value.int .i64 0), (Value.int .i64 (1000 : Int))]) h5 fun v8 h9 =>
 ∃ x10 : Bool, v8 = (Value.bool x10) ∧
 (∃ h11, Gh h9 h11 ∧ R1 (!x10) h11))) ∧
 ∀ (_ : F) (x12 : Bool) (h13 : H), R1 x12 h13 →
 f8_J1 p0_c p1_p p2_add post x12 h13

def f8_hint : Hint := (.node .leaf (.node (.node (.join [(19, .bool)] .leaf) .leaf) (.node .leaf (.node (.tail 20) .leaf))))

theorem f8_eq (p0_c : Option Addr) (p1_p : Int) (p2_add : Int) (h0 : H) (post : Value → H → Prop) : exec Tryd.prog (bodyOf Tryd.f8) f8_hint (retQ Tryd.prog Tryd.f8 post) (F0 [(Value.pointer p0_c), (Value.int .i64 p1_p), (Value.int .i64 p2_add)]) h0 = f8_sem p0_c p1_p p2_add h0 post := by kernel_rfl

set_option maxRecDepth 20000 in
theorem f8_call (p0_c : Option Addr) (p1_p : Int) (p2_add : Int) (h0 : H) (post : Value → H → Prop) (hx : f8_sem p0_c p1_p p2_add h0 post) : SemCall Tryd.prog 8 (List.toArray [(Value.pointer p0_c), (Value.int .i64 p1_p), (Value.int .i64 p2_add)]) h0 post :=
 sem_of_exec (g := f8_hint) mixed Tryd.func8 (bodyOf_eq (by kernel_rfl)) (by kernel_rfl) ((f8_eq p0_c p1_p p2_add h0 post).mpr hx)

/- latchgarth/latchgarthref4.StepComb -/
def f9_L1 (r1 : Nat) (R572 : SV → H → Prop) (I573 : Nat → SV → Int → H → Prop) (n574 : Nat) (x577_x : SV) (x578_q : Int) (h579 : H) : Prop :=
 ∃ x580 : Int, H.rd h579 (Addr.add (Addr.add (Addr.mk r1 0 none) 0) 0) (Value.int .i64 x580) ∧
 VIf (decide (x578_q < x580)) (
 ∃ x581 : SV, H.rd h579 (Addr.add (Addr.add (Addr.mk r1 0 none) 5) 0) (Value.slice x581.a x581.len x581.cap) ∧
 ∃ b582 : Addr, x581.a = some b582 ∧ 0 ≤ x578_q ∧ x578_q < ((x581.len : Nat) : Int) ∧
 ∃ x583 : SV, H.rd h579 (Addr.add (Addr.add b582 ((x578_q).toNat * 1)) 0) (Value.slice x583.a x583.len x583.cap) ∧
 ∃ b584 : Addr, x583.a = some b584 ∧ 0 ≤ (1 : Int) ∧ (1 : Int) < ((x583.len : Nat) : Int) ∧
 ∃ x585 : Int, H.rd h579 (Addr.add (Addr.add b584 (((1 : Int)).toNat * 1)) 0) (Value.int .i64 x585) ∧
 In64 ((2 : Int) * x578_q) ∧
 In64 ((1 : Int) + ((2 : Int) * x578_q)) ∧
 ∃ b586 : Addr, x577_x.a = some b586 ∧ 0 ≤ ((1 : Int) + ((2 : Int) * x578_q)) ∧ ((1 : Int) + ((2 : Int) * x578_q)) < ((x577_x.len : Nat) : Int) ∧
 ∃ x587 : Int, H.rd h579 (Addr.add (Addr.add b586 ((((1 : Int) + ((2 : Int) * x578_q))).toNat * 1)) 0) (Value.int .i64 x587) ∧
 In64 (x587 + (1 : Int)) ∧
 VIf (x585 == (x587 + (1 : Int))) (
 In64 ((2 : Int) * x578_q) ∧
 In64 ((2 : Int) + ((2 : Int) * x578_q)) ∧
 ∃ b588 : Addr, x577_x.a = some b588 ∧ 0 ≤ (0 : Int) ∧ (0 : Int) < ((x577_x.len : Nat) : Int) ∧
 In64 ((2 : Int) * x578_q) ∧
 In64 ((1 : Int) + ((2 : Int) * x578_q)) ∧
 In64 ((2 : Int) * x578_q) ∧
 In64 ((1 : Int) + ((2 : Int) * x578_q)) ∧
 ∃ b589 : Addr, x577_x.a = some b589 ∧ 0 ≤ ((1 : Int) + ((2 : Int) * x578_q)) ∧ ((1 : Int) + ((2 : Int) * x578_q)) < ((x577_x.len : Nat) : Int) ∧
 ∃ b590 : Addr, x577_x.a = some b590 ∧ 0 ≤ (0 : Int) ∧ (0 : Int) < ((x577_x.len : Nat) : Int) ∧
 ∃ x591 : Int, H.rd h579 (Addr.add (Addr.add b588 (((0 : Int)).toNat * 1)) 0) (Value.int .i64 x591) ∧
 ∃ x592 : Int, H.rd h579 (Addr.add (Addr.add b589 ((((1 : Int) + ((2 : Int) * x578_q))).toNat * 1)) 0) (Value.int .i64 x592) ∧
 In64 (x592 + (1 : Int)) ∧
 ∃ x593 : Int, H.rd h579 (Addr.add (Addr.add b590 (((0 : Int)).toNat * 1)) 0) (Value.int .i64 x593) ∧
 ∃ x594 : SV, H.rd h579 (Addr.add (Addr.add (Addr.mk r1 0 none) 5) 0) (Value.slice x594.a x594.len x594.cap) ∧
 ∃ b595 : Addr, x594.a = some b595 ∧ 0 ≤ x578_q ∧ x578_q < ((x594.len : Nat) : Int) ∧
 ∃ x596 : SV, H.rd h579 (Addr.add (Addr.add b595 ((x578_q).toNat * 1)) 0) (Value.slice x596.a x596.len x596.cap) ∧
 ∃ b597 : Addr, x596.a = some b597 ∧ 0 ≤ (0 : Int) ∧ (0 : Int) < ((x596.len : Nat) : Int) ∧
 ∃ x598 : Int, H.rd h579 (Addr.add (Addr.add b597 (((0 : Int)).toNat * 1)) 0) (Value.int .i64 x598) ∧
 In64 (x593 + x598) ∧
 SemCall Go.Proofs.Tryd.prog 23 (List.toArray [(Value.slice x577_x.a x577_x.len x577_x.cap), (Value.int .i64 ((2 : Int) + ((2 : Int) * x578_q))), (Value.int .i64 x591)]) h579 fun v599 h600 => OwnExt h579 h600 ∧
 ∃ x601 : SV, v599 = (Value.slice x601.a x601.len x601.cap) ∧
 SemCall Go.Proofs.Tryd.prog 23 (List.toArray [(Value.slice x601.a x601.len x601.cap), (Value.int .i64 ((1 : Int) + ((2 : Int) * x578_q))), (Value.int .i64 (x592 + (1 : Int)))]) h600 fun v602 h603 => OwnExt h600 h603 ∧
 ∃ x604 : SV, v602 = (Value.slice x604.a x604.len x604.cap) ∧
 SemCall Go.Proofs.Tryd.prog 23 (List.toArray [(Value.slice x604.a x604.len x604.cap), (Value.int .i64 0), (Value.int .i64 (x593 + x598))]) h603 fun v605 h606 =>
 ∃ x607 : SV, v605 = (Value.slice x607.a x607.len x607.cap) ∧
 In64 (x578_q + (1 : Int)) ∧
 ∃ m575, m575 < n574 ∧ (∃ h608, Gh h606 h608 ∧ I573 m575 x607 (x578_q + (1 : Int)) h608)) (
 In64 (x578_q + (1 : Int)) ∧
 ∃ m575, m575 < n574 ∧ (∃ h609, Gh h579 h609 ∧ I573 m575 x577_x (x578_q + (1 : Int)) h609))) (
 (∃ h610, Gh h579 h610 ∧ R572 x577_x h610))

def f9_J2 (p1_p : Int) (post : Value → H → Prop) (r1 : Nat) (r3 : Nat) (x637_next : Int) (h638 : H) : Prop :=
 ∃ x639 : SV, H.rd h638 (Addr.add (Addr.add (Addr.mk r1 0 none) 6) 0) (Value.slice x639.a x639.len x639.cap) ∧
 SemCall Go.Proofs.Tryd.prog 23 (List.toArray [(Value.slice x639.a x639.len x639.cap), (Value.int .i64 p1_p), (Value.int .i64 x637_next)]) h638 fun v640 h641 =>
 ∃ x642 : SV, v640 = (Value.slice x642.a x642.len x642.cap) ∧
 H.wr h641 (Addr.add (Addr.mk r1 0 none) 6) ([(Value.slice x642.a x642.len x642.cap)]) fun h643 =>
 ∃ x644 : Int, H.rd h643 (Addr.add (Addr.mk r1 0 none) 0) (Value.int .i64 x644) ∧
 ∃ x645 : SV, H.rd h643 (Addr.add (Addr.mk r1 0 none) 1) (Value.slice x645.a x645.len x645.cap) ∧
 ∃ x646 : SV, H.rd h643 (Addr.add (Addr.mk r1 0 none) 2) (Value.slice x646.a x646.len x646.cap) ∧
 ∃ x647 : Int, H.rd h643 (Addr.add (Addr.mk r1 0 none) 3) (Value.int .i64 x647) ∧
 ∃ x648 : Int, H.rd h643 (Addr.add (Addr.mk r1 0 none) 4) (Value.int .i64 x648) ∧
 ∃ x649 : SV, H.rd h643 (Addr.add (Addr.mk r1 0 none) 5) (Value.slice x649.a x649.len x649.cap) ∧
 ∃ x650 : SV, H.rd h643 (Addr.add (Addr.mk r1 0 none) 6) (Value.slice x650.a x650.len x650.cap) ∧
 ∃ x651 : SV, H.rd h643 (Addr.add (Addr.mk r1 0 none) 7) (Value.slice x651.a x651.len x651.cap) ∧
 ∃ x652 : SV, H.rd h643 (Addr.add (Addr.mk r1 0 none) 8) (Value.slice x652.a x652.len x652.cap) ∧
 ([(Value.int .i64 x644), (Value.slice x645.a x645.len x645.cap), (Value.slice x646.a x646.len x646.cap), (Value.int .i64 x647), (Value.int .i64 x648), (Value.slice x649.a x649.len x649.cap), (Value.slice x650.a x650.len x650.cap), (Value.slice x651.a x651.len x651.cap), (Value.slice x652.a x652.len x652.cap)]).length = 9 ∧ (Program.underlying Go.Proofs.Tryd.prog 31).isSome = true ∧
 H.wr h643 (Addr.mk r3 0 none) ([(Value.int .i64 x644), (Value.slice x645.a x645.len x645.cap), (Value.slice x646.a x646.len x646.cap), (Value.int .i64 x647), (Value.int .i64 x648), (Value.slice x649.a x649.len x649.cap), (Value.slice x650.a x650.len x650.cap), (Value.slice x651.a x651.len x651.cap), (Value.slice x652.a x652.len x652.cap)]) fun h653 =>
 ∃ x654 : Int, H.rd h653 (Addr.add (Addr.mk r3 0 none) 0) (Value.int .i64 x654) ∧
 ∃ x655 : SV, H.rd h653 (Addr.add (Addr.mk r3 0 none) 1) (Value.slice x655.a x655.len x655.cap) ∧
 ∃ x656 : SV, H.rd h653 (Addr.add (Addr.mk r3 0 none) 2) (Value.slice x656.a x656.len x656.cap) ∧
 ∃ x657 : Int, H.rd h653 (Addr.add (Addr.mk r3 0 none) 3) (Value.int .i64 x657) ∧
 ∃ x658 : Int, H.rd h653 (Addr.add (Addr.mk r3 0 none) 4) (Value.int .i64 x658) ∧
 ∃ x659 : SV, H.rd h653 (Addr.add (Addr.mk r3 0 none) 5) (Value.slice x659.a x659.len x659.cap) ∧
 ∃ x660 : SV, H.rd h653 (Addr.add (Addr.mk r3 0 none) 6) (Value.slice x660.a x660.len x660.cap) ∧
 ∃ x661 : SV, H.rd h653 (Addr.add (Addr.mk r3 0 none) 7) (Value.slice x661.a x661.len x661.cap) ∧
 ∃ x662 : SV, H.rd h653 (Addr.add (Addr.mk r3 0 none) 8) (Value.slice x662.a x662.len x662.cap) ∧
 VRet h653 (Value.tuple (List.toArray [(Value.agg (List.toArray [(Value.int .i64 x654), (Value.slice x655.a x655.len x655.cap), (Value.slice x656.a x656.len x656.cap), (Value.int .i64 x657), (Value.int .i64 x658), (Value.slice x659.a x659.len x659.cap), (Value.slice x660.a x660.len x660.cap), (Value.slice x661.a x661.len x661.cap), (Value.slice x662.a x662.len x662.cap)])), (Value.bool false), (Value.int .i64 0), (Value.int .i64 0)])) post

def f9_sem (p0_0_c : Int) (p0_1_c : SV) (p0_2_c : SV) (p0_3_c : Int) (p0_4_c : Int) (p0_5_c : SV) (p0_6_c : SV) (p0_7_c : SV) (p0_8_c : SV) (p1_p : Int) (h0 : H) (post : Value → H → Prop) : Prop :=
 H.new h0 [(Value.int .i64 p0_0_c), (Value.slice p0_1_c.a p0_1_c.len p0_1_c.cap), (Value.slice p0_2_c.a p0_2_c.len p0_2_c.cap), (Value.int .i64 p0_3_c), (Value.int .i64 p0_4_c), (Value.slice p0_5_c.a p0_5_c.len p0_5_c.cap), (Value.slice p0_6_c.a p0_6_c.len p0_6_c.cap), (Value.slice p0_7_c.a p0_7_c.len p0_7_c.cap), (Value.slice p0_8_c.a p0_8_c.len p0_8_c.cap)] fun r1 h2 =>
 H.new h2 [(Value.int .i64 0), (Value.slice none 0 0), (Value.slice none 0 0), (Value.int .i64 0), (Value.int .i64 0), (Value.slice none 0 0), (Value.slice none 0 0), (Value.slice none 0 0), (Value.slice none 0 0)] fun r3 h4 =>
 ∃ x5 : Int, H.rd h4 (Addr.add (Addr.add (Addr.mk r1 0 none) 0) 0) (Value.int .i64 x5) ∧
 In64 (x5 - (1 : Int)) ∧
 SemCall Go.Proofs.Tryd.prog 22 (List.toArray [(Value.int .i64 p1_p), (Value.int .i64 0), (Value.int .i64 (x5 - (1 : Int)))]) h4 fun v6 h7 =>
 ∃ x8 : Bool, v6 = (Value.bool x8) ∧
 VIf (!x8) (
 ∃ x9 : Int, H.rd h7 (Addr.add (Addr.mk r1 0 none) 0) (Value.int .i64 x9) ∧
 ∃ x10 : SV, H.rd h7 (Addr.add (Addr.mk r1 0 none) 1) (Value.slice x10.a x10.len x10.cap) ∧
 ∃ x11 : SV, H.rd h7 (Addr.add (Addr.mk r1 0 none) 2) (Value.slice x11.a x11.len x11.cap) ∧
 ∃ x12 : Int, H.rd h7 (Addr.add (Addr.mk r1 0 none) 3) (Value.int .i64 x12) ∧
 ∃ x13 : Int, H.rd h7 (Addr.add (Addr.mk r1 0 none) 4) (Value.int .i64 x13) ∧
 ∃ x14 : SV, H.rd h7 (Addr.add (Addr.mk r1 0 none) 5) (Value.slice x14.a x14.len x14.cap) ∧
 ∃ x15 : SV, H.rd h7 (Addr.add (Addr.mk r1 0 none) 6) (Value.slice x15.a x15.len x15.cap) ∧
 ∃ x16 : SV, H.rd h7 (Addr.add (Addr.mk r1 0 none) 7) (Value.slice x16.a x16.len x16.cap) ∧
 ∃ x17 : SV, H.rd h7 (Addr.add (Addr.mk r1 0 none) 8) (Value.slice x17.a x17.len x17.cap) ∧
 ([(Value.int .i64 x9), (Value.slice x10.a x10.len x10.cap), (Value.slice x11.a x11.len x11.cap), (Value.int .i64 x12), (Value.int .i64 x13), (Value.slice x14.a x14.len x14.cap), (Value.slice x15.a x15.len x15.cap), (Value.slice x16.a x16.len x16.cap), (Value.slice x17.a x17.len x17.cap)]).length = 9 ∧ (Program.underlying Go.Proofs.Tryd.prog 31).isSome = true ∧
 H.wr h7 (Addr.mk r3 0 none) ([(Value.int .i64 x9), (Value.slice x10.a x10.len x10.cap), (Value.slice x11.a x11.len x11.cap), (Value.int .i64 x12), (Value.int .i64 x13), (Value.slice x14.a x14.len x14.cap), (Value.slice x15.a x15.len x15.cap), (Value.slice x16.a x16.len x16.cap), (Value.slice x17.a x17.len x17.cap)]) fun h18 =>
 ∃ x19 : Int, H.rd h18 (Addr.add (Addr.mk r3 0 none) 0) (Value.int .i64 x19) ∧
 ∃ x20 : SV, H.rd h18 (Addr.add (Addr.mk r3 0 none) 1) (Value.slice x20.a x20.len x20.cap) ∧
 ∃ x21 : SV, H.rd h18 (Addr.add (Addr.mk r3 0 none) 2) (Value.slice x21.a x21.len x21.cap) ∧
 ∃ x22 : Int, H.rd h18 (Addr.add (Addr.mk r3 0 none) 3) (Value.int .i64 x22) ∧
 ∃ x23 : Int, H.rd h18 (Addr.add (Addr.mk r3 0 none) 4) (Value.int .i64 x23) ∧
 ∃ x24 : SV, H.rd h18 (Addr.add (Addr.mk r3 0 none) 5) (Value.slice x24.a x24.len x24.cap) ∧
 ∃ x25 : SV, H.rd h18 (Addr.add (Addr.mk r3 0 none) 6) (Value.slice x25.a x25.len x25.cap) ∧
 ∃ x26 : SV, H.rd h18 (Addr.add (Addr.mk r3 0 none) 7) (Value.slice x26.a x26.len x26.cap) ∧
 ∃ x27 : SV, H.rd h18 (Addr.add (Addr.mk r3 0 none) 8) (Value.slice x27.a x27.len x27.cap) ∧
 VRet h18 (Value.tuple (List.toArray [(Value.agg (List.toArray [(Value.int .i64 x19), (Value.slice x20.a x20.len x20.cap), (Value.slice x21.a x21.len x21.cap), (Value.int .i64 x22), (Value.int .i64 x23), (Value.slice x24.a x24.len x24.cap), (Value.slice x25.a x25.len x25.cap), (Value.slice x26.a x26.len x26.cap), (Value.slice x27.a x27.len x27.cap)])), (Value.bool false), (Value.int .i64 0), (Value.int .i64 (1 : Int))])) post) (
 ∃ x28 : SV, H.rd h7 (Addr.add (Addr.add (Addr.mk r1 0 none) 6) 0) (Value.slice x28.a x28.len x28.cap) ∧
 ∃ b29 : Addr, x28.a = some b29 ∧ 0 ≤ p1_p ∧ p1_p < ((x28.len : Nat) : Int) ∧
 ∃ x30 : Int, H.rd h7 (Addr.add (Addr.add b29 ((p1_p).toNat * 1)) 0) (Value.int .i64 x30) ∧
 In64 (x30 + (1 : Int)) ∧
 ∃ R31 : Int → H → Prop, (
 VIf (x30 == (0 : Int)) (
 ∃ x32 : Int, H.rd h7 (Addr.add (Addr.mk r1 0 none) 0) (Value.int .i64 x32) ∧
 ∃ x33 : SV, H.rd h7 (Addr.add (Addr.mk r1 0 none) 1) (Value.slice x33.a x33.len x33.cap) ∧
 ∃ x34 : SV, H.rd h7 (Addr.add (Addr.mk r1 0 none) 2) (Value.slice x34.a x34.len x34.cap) ∧
 ∃ x35 : Int, H.rd h7 (Addr.add (Addr.mk r1 0 none) 3) (Value.int .i64 x35) ∧
 ∃ x36 : Int, H.rd h7 (Addr.add (Addr.mk r1 0 none) 4) (Value.int .i64 x36) ∧
 ∃ x37 : SV, H.rd h7 (Addr.add (Addr.mk r1 0 none) 5) (Value.slice x37.a x37.len x37.cap) ∧
 ∃ x38 : SV, H.rd h7 (Addr.add (Addr.mk r1 0 none) 6) (Value.slice x38.a x38.len x38.cap) ∧
 ∃ x39 : SV, H.rd h7 (Addr.add (Addr.mk r1 0 none) 7) (Value.slice x39.a x39.len x39.cap) ∧
 ∃ x40 : SV, H.rd h7 (Addr.add (Addr.mk r1 0 none) 8) (Value.slice x40.a x40.len x40.cap) ∧
 ([(Value.int .i64 x32), (Value.slice x33.a x33.len x33.cap), (Value.slice x34.a x34.len x34.cap), (Value.int .i64 x35), (Value.int .i64 x36), (Value.slice x37.a x37.len x37.cap), (Value.slice x38.a x38.len x38.cap), (Value.slice x39.a x39.len x39.cap), (Value.slice x40.a x40.len x40.cap)]).length = 9 ∧ (Program.underlying Go.Proofs.Tryd.prog 31).isSome = true ∧
 H.wr h7 (Addr.mk r3 0 none) ([(Value.int .i64 x32), (Value.slice x33.a x33.len x33.cap), (Value.slice x34.a x34.len x34.cap), (Value.int .i64 x35), (Value.int .i64 x36), (Value.slice x37.a x37.len x37.cap), (Value.slice x38.a x38.len x38.cap), (Value.slice x39.a x39.len x39.cap), (Value.slice x40.a x40.len x40.cap)]) fun h41 =>
 ∃ x42 : Int, H.rd h41 (Addr.add (Addr.mk r3 0 none) 0) (Value.int .i64 x42) ∧
 ∃ x43 : SV, H.rd h41 (Addr.add (Addr.mk r3 0 none) 1) (Value.slice x43.a x43.len x43.cap) ∧
 ∃ x44 : SV, H.rd h41 (Addr.add (Addr.mk r3 0 none) 2) (Value.slice x44.a x44.len x44.cap) ∧
 ∃ x45 : Int, H.rd h41 (Addr.add (Addr.mk r3 0 none) 3) (Value.int .i64 x45) ∧
 ∃ x46 : Int, H.rd h41 (Addr.add (Addr.mk r3 0 none) 4) (Value.int .i64 x46) ∧
 ∃ x47 : SV, H.rd h41 (Addr.add (Addr.mk r3 0 none) 5) (Value.slice x47.a x47.len x47.cap) ∧
 ∃ x48 : SV, H.rd h41 (Addr.add (Addr.mk r3 0 none) 6) (Value.slice x48.a x48.len x48.cap) ∧
 ∃ x49 : SV, H.rd h41 (Addr.add (Addr.mk r3 0 none) 7) (Value.slice x49.a x49.len x49.cap) ∧
 ∃ x50 : SV, H.rd h41 (Addr.add (Addr.mk r3 0 none) 8) (Value.slice x50.a x50.len x50.cap) ∧
 VRet h41 (Value.tuple (List.toArray [(Value.agg (List.toArray [(Value.int .i64 x42), (Value.slice x43.a x43.len x43.cap), (Value.slice x44.a x44.len x44.cap), (Value.int .i64 x45), (Value.int .i64 x46), (Value.slice x47.a x47.len x47.cap), (Value.slice x48.a x48.len x48.cap), (Value.slice x49.a x49.len x49.cap), (Value.slice x50.a x50.len x50.cap)])), (Value.bool false), (Value.int .i64 0), (Value.int .i64 (7 : Int))])) post) (
 VIf (x30 == (1 : Int)) (
 ∃ x51 : SV, H.rd h7 (Addr.add (Addr.add (Addr.mk r1 0 none) 5) 0) (Value.slice x51.a x51.len x51.cap) ∧
 appVC Go.Proofs.Tryd.prog 22 (Value.slice none 0 0) (Value.slice x51.a x51.len x51.cap) h7 fun x52 h53 =>
 ∃ x54 : SV, H.rd h53 (Addr.add (Addr.add (Addr.mk r1 0 none) 7) 0) (Value.slice x54.a x54.len x54.cap) ∧
 ∃ b55 : Addr, x54.a = some b55 ∧ 0 ≤ p1_p ∧ p1_p < ((x54.len : Nat) : Int) ∧
 ∃ x56 : Int, H.rd h53 (Addr.add (Addr.add b55 ((p1_p).toNat * 1)) 0) (Value.int .i64 x56) ∧
 ∃ x57 : SV, H.rd h53 (Addr.add (Addr.add (Addr.mk r1 0 none) 8) 0) (Value.slice x57.a x57.len x57.cap) ∧
 ∃ b58 : Addr, x57.a = some b58 ∧ 0 ≤ p1_p ∧ p1_p < ((x57.len : Nat) : Int) ∧
 ∃ x59 : Int, H.rd h53 (Addr.add (Addr.add b58 ((p1_p).toNat * 1)) 0) (Value.int .i64 x59) ∧
 H.new h53 [(Value.int .i64 x56), (Value.int .i64 x59)] fun r60 h61 =>
 ∃ b62 : Addr, x52.a = some b62 ∧ 0 ≤ p1_p ∧ p1_p < ((x52.len : Nat) : Int) ∧
 H.wr h61 (Addr.add b62 ((p1_p).toNat * 1)) ([(Value.slice (some (Addr.mk r60 0 none)) 2 2)]) fun h63 =>
 H.wr h63 (Addr.add (Addr.mk r1 0 none) 5) ([(Value.slice x52.a x52.len x52.cap)]) fun h64 =>
 (∃ h65, Gh h64 h65 ∧ R31 (x30 + (1 : Int)) h65)) (
 VIf (x30 == (2 : Int)) (
 ∃ x66 : Int, H.rd h7 (Addr.add (Addr.add (Addr.mk r1 0 none) 4) 0) (Value.int .i64 x66) ∧
 VIf (x66 == (0 : Int)) (
 In64 (p1_p + (1 : Int)) ∧
 H.wr h7 (Addr.add (Addr.mk r1 0 none) 4) ([(Value.int .i64 (p1_p + (1 : Int)))]) fun h67 =>
 (∃ h68, Gh h67 h68 ∧ R31 (5 : Int) h68)) (
 (∃ h69, Gh h7 h69 ∧ R31 (x30 + (1 : Int)) h69))) (
 VIf (x30 == (3 : Int)) (
 ∃ x70 : Int, H.rd h7 (Addr.add (Addr.add (Addr.mk r1 0 none) 4) 0) (Value.int .i64 x70) ∧
 VIf (x70 != (0 : Int)) (
 (∃ h71, Gh h7 h71 ∧ R31 (3 : Int) h71)) (
 (∃ h72, Gh h7 h72 ∧ R31 (x30 + (1 : Int)) h72))) (
 VIf (x30 == (4 : Int)) (
 ∃ x73 : SV, H.rd h7 (Addr.add (Addr.add (Addr.mk r1 0 none) 1) 0) (Value.slice x73.a x73.len x73.cap) ∧
 ∃ x74 : Int, H.rd h7 (Addr.add (Addr.add (Addr.mk r1 0 none) 3) 0) (Value.int .i64 x74) ∧
 ∃ b75 : Addr, x73.a = some b75 ∧ 0 ≤ x74 ∧ x74 < ((x73.len : Nat) : Int) ∧
 ∃ x76 : SV, H.rd h7 (Addr.add (Addr.add b75 ((x74).toNat * 1)) 0) (Value.slice x76.a x76.len x76.cap) ∧
 In64 ((2 : Int) * p1_p) ∧
 In64 ((1 : Int) + ((2 : Int) * p1_p)) ∧
 ∃ b77 : Addr, x76.a = some b77 ∧ 0 ≤ ((1 : Int) + ((2 : Int) * p1_p)) ∧ ((1 : Int) + ((2 : Int) * p1_p)) < ((x76.len : Nat) : Int) ∧
 ∃ x78 : Int, H.rd h7 (Addr.add (Addr.add b77 ((((1 : Int) + ((2 : Int) * p1_p))).toNat * 1)) 0) (Value.int .i64 x78) ∧
 ∃ x79 : SV, H.rd h7 (Addr.add (Addr.add (Addr.mk r1 0 none) 8) 0) (Value.slice x79.a x79.len x79.cap) ∧
 ∃ b80 : Addr, x79.a = some b80 ∧ 0 ≤ p1_p ∧ p1_p < ((x79.len : Nat) : Int) ∧
 ∃ x81 : Int, H.rd h7 (Addr.add (Addr.add b80 ((p1_p).toNat * 1)) 0) (Value.int .i64 x81) ∧
 VIf (x78 == x81) (
 ∃ x82 : SV, H.rd h7 (Addr.add (Addr.add (Addr.mk r1 0 none) 6) 0) (Value.slice x82.a x82.len x82.cap) ∧
 SemCall Go.Proofs.Tryd.prog 23 (List.toArray [(Value.slice x82.a x82.len x82.cap), (Value.int .i64 p1_p), (Value.int .i64 0)]) h7 fun v83 h84 =>
 ∃ x85 : SV, v83 = (Value.slice x85.a x85.len x85.cap) ∧
 H.wr h84 (Addr.add (Addr.mk r1 0 none) 6) ([(Value.slice x85.a x85.len x85.cap)]) fun h86 =>
 In64 ((2 : Int) * p1_p) ∧
 In64 ((2 : Int) + ((2 : Int) * p1_p)) ∧
 (
 ∃ x87 : Int, H.rd h86 (Addr.add (Addr.mk r1 0 none) 0) (Value.int .i64 x87) ∧
 ∃ x88 : SV, H.rd h86 (Addr.add (Addr.mk r1 0 none) 1) (Value.slice x88.a x88.len x88.cap) ∧
 ∃ x89 : SV, H.rd h86 (Addr.add (Addr.mk r1 0 none) 2) (Value.slice x89.a x89.len x89.cap) ∧
 ∃ x90 : Int, H.rd h86 (Addr.add (Addr.mk r1 0 none) 3) (Value.int .i64 x90) ∧
 ∃ x91 : Int, H.rd h86 (Addr.add (Addr.mk r1 0 none) 4) (Value.int .i64 x91) ∧
 ∃ x92 : SV, H.rd h86 (Addr.add (Addr.mk r1 0 none) 5) (Value.slice x92.a x92.len x92.cap) ∧
 ∃ x93 : SV, H.rd h86 (Addr.add (Addr.mk r1 0 none) 6) (Value.slice x93.a x93.len x93.cap) ∧
 ∃ x94 : SV, H.rd h86 (Addr.add (Addr.mk r1 0 none) 7) (Value.slice x94.a x94.len x94.cap) ∧
 ∃ x95 : SV, H.rd h86 (Addr.add (Addr.mk r1 0 none) 8) (Value.slice x95.a x95.len x95.cap) ∧
 (
 ∃ x96 : SV, H.rd h86 (Addr.add (Addr.add (Addr.mk r1 0 none) 1) 0) (Value.slice x96.a x96.len x96.cap) ∧
 (
 ∃ x97 : Int, H.rd h86 (Addr.add (Addr.add (Addr.mk r1 0 none) 3) 0) (Value.int .i64 x97) ∧
 ∃ b98 : Addr, x96.a = some b98 ∧ 0 ≤ x97 ∧ x97 < ((x96.len : Nat) : Int) ∧
 (
 ∃ x99 : SV, H.rd h86 (Addr.add (Addr.add b98 ((x97).toNat * 1)) 0) (Value.slice x99.a x99.len x99.cap) ∧
 ∃ b100 : Addr, x99.a = some b100 ∧ 0 ≤ ((2 : Int) + ((2 : Int) * p1_p)) ∧ ((2 : Int) + ((2 : Int) * p1_p)) < ((x99.len : Nat) : Int) ∧
 (
 ∃ x101 : Int, H.rd h86 (Addr.add (Addr.add b100 ((((2 : Int) + ((2 : Int) * p1_p))).toNat * 1)) 0) (Value.int .i64 x101) ∧
 ([(Value.int .i64 x87), (Value.slice x88.a x88.len x88.cap), (Value.slice x89.a x89.len x89.cap), (Value.int .i64 x90), (Value.int .i64 x91), (Value.slice x92.a x92.len x92.cap), (Value.slice x93.a x93.len x93.cap), (Value.slice x94.a x94.len x94.cap), (Value.slice x95.a x95.len x95.cap)]).length = 9 ∧ (Program.underlying Go.Proofs.Tryd.prog 31).isSome = true ∧
 H.wr h86 (Addr.mk r3 0 none) ([(Value.int .i64 x87), (Value.slice x88.a x88.len x88.cap), (Value.slice x89.a x89.len x89.cap), (Value.int .i64 x90), (Value.int .i64 x91), (Value.slice x92.a x92.len x92.cap), (Value.slice x93.a x93.len x93.cap), (Value.slice x94.a x94.len x94.cap), (Value.slice x95.a x95.len x95.cap)]) fun h102 =>
 ∃ x103 : Int, H.rd h102 (Addr.add (Addr.mk r3 0 none) 0) (Value.int .i64 x103) ∧
 ∃ x104 : SV, H.rd h102 (Addr.add (Addr.mk r3 0 none) 1) (Value.slice x104.a x104.len x104.cap) ∧
 ∃ x105 : SV, H.rd h102 (Addr.add (Addr.mk r3 0 none) 2) (Value.slice x105.a x105.len x105.cap) ∧
 ∃ x106 : Int, H.rd h102 (Addr.add (Addr.mk r3 0 none) 3) (Value.int .i64 x106) ∧
 ∃ x107 : Int, H.rd h102 (Addr.add (Addr.mk r3 0 none) 4) (Value.int .i64 x107) ∧
 ∃ x108 : SV, H.rd h102 (Addr.add (Addr.mk r3 0 none) 5) (Value.slice x108.a x108.len x108.cap) ∧
 ∃ x109 : SV, H.rd h102 (Addr.add (Addr.mk r3 0 none) 6) (Value.slice x109.a x109.len x109.cap) ∧
 ∃ x110 : SV, H.rd h102 (Addr.add (Addr.mk r3 0 none) 7) (Value.slice x110.a x110.len x110.cap) ∧
 ∃ x111 : SV, H.rd h102 (Addr.add (Addr.mk r3 0 none) 8) (Value.slice x111.a x111.len x111.cap) ∧
 VRet h102 (Value.tuple (List.toArray [(Value.agg (List.toArray [(Value.int .i64 x103), (Value.slice x104.a x104.len x104.cap), (Value.slice x105.a x105.len x105.cap), (Value.int .i64 x106), (Value.int .i64 x107), (Value.slice x108.a x108.len x108.cap), (Value.slice x109.a x109.len x109.cap), (Value.slice x110.a x110.len x110.cap), (Value.slice x111.a x111.len x111.cap)])), (Value.bool true), (Value.int .i64 x101), (Value.int .i64 0)])) post) ∧
 (
 ([(Value.int .i64 x87), (Value.slice x88.a x88.len x88.cap), (Value.slice x89.a x89.len x89.cap), (Value.int .i64 x90), (Value.int .i64 x91), (Value.slice x92.a x92.len x92.cap), (Value.slice x93.a x93.len x93.cap), (Value.slice x94.a x94.len x94.cap), (Value.slice x95.a x95.len x95.cap)]).length = 9 ∧ (Program.underlying Go.Proofs.Tryd.prog 31).isSome = true ∧
 H.wr h86 (Addr.mk r3 0 none) ([(Value.int .i64 x87), (Value.slice x88.a x88.len x88.cap), (Value.slice x89.a x89.len x89.cap), (Value.int .i64 x90), (Value.int .i64 x91), (Value.slice x92.a x92.len x92.cap), (Value.slice x93.a x93.len x93.cap), (Value.slice x94.a x94.len x94.cap), (Value.slice x95.a x95.len x95.cap)]) fun h112 =>
 ∃ x113 : Int, H.rd h112 (Addr.add (Addr.add b100 ((((2 : Int) + ((2 : Int) * p1_p))).toNat * 1)) 0) (Value.int .i64 x113) ∧
 ∃ x114 : Int, H.rd h112 (Addr.add (Addr.mk r3 0 none) 0) (Value.int .i64 x114) ∧
 ∃ x115 : SV, H.rd h112 (Addr.add (Addr.mk r3 0 none) 1) (Value.slice x115.a x115.len x115.cap) ∧
 ∃ x116 : SV, H.rd h112 (Addr.add (Addr.mk r3 0 none) 2) (Value.slice x116.a x116.len x116.cap) ∧
 ∃ x117 : Int, H.rd h112 (Addr.add (Addr.mk r3 0 none) 3) (Value.int .i64 x117) ∧
 ∃ x118 : Int, H.rd h112 (Addr.add (Addr.mk r3 0 none) 4) (Value.int .i64 x118) ∧
 ∃ x119 : SV, H.rd h112 (Addr.add (Addr.mk r3 0 none) 5) (Value.slice x119.a x119.len x119.cap) ∧
 ∃ x120 : SV, H.rd h112 (Addr.add (Addr.mk r3 0 none) 6) (Value.slice x120.a x120.len x120.cap) ∧
 ∃ x121 : SV, H.rd h112 (Addr.add (Addr.mk r3 0 none) 7) (Value.slice x121.a x121.len x121.cap) ∧
 ∃ x122 : SV, H.rd h112 (Addr.add (Addr.mk r3 0 none) 8) (Value.slice x122.a x122.len x122.cap) ∧
 VRet h112 (Value.tuple (List.toArray [(Value.agg (List.toArray [(Value.int .i64 x114), (Value.slice x115.a x115.len x115.cap), (Value.slice x116.a x116.len x116.cap), (Value.int .i64 x117), (Value.int .i64 x118), (Value.slice x119.a x119.len x119.cap), (Value.slice x120.a x120.len x120.cap), (Value.slice x121.a x121.len x121.cap), (Value.slice x122.a x122.len x122.cap)])), (Value.bool true), (Value.int .i64 x113), (Value.int .i64 0)])) post)) ∧
 (
 ([(Value.int .i64 x87), (Value.slice x88.a x88.len x88.cap), (Value.slice x89.a x89.len x89.cap), (Value.int .i64 x90), (Value.int .i64 x91), (Value.slice x92.a x92.len x92.cap), (Value.slice x93.a x93.len x93.cap), (Value.slice x94.a x94.len x94.cap), (Value.slice x95.a x95.len x95.cap)]).length = 9 ∧ (Program.underlying Go.Proofs.Tryd.prog 31).isSome = true ∧
 H.wr h86 (Addr.mk r3 0 none) ([(Value.int .i64 x87), (Value.slice x88.a x88.len x88.cap), (Value.slice x89.a x89.len x89.cap), (Value.int .i64 x90), (Value.int .i64 x91), (Value.slice x92.a x92.len x92.cap), (Value.slice x93.a x93.len x93.cap), (Value.slice x94.a x94.len x94.cap), (Value.slice x95.a x95.len x95.cap)]) fun h123 =>
 ∃ x124 : SV, H.rd h123 (Addr.add (Addr.add b98 ((x97).toNat * 1)) 0) (Value.slice x124.a x124.len x124.cap) ∧
 ∃ b125 : Addr, x124.a = some b125 ∧ 0 ≤ ((2 : Int) + ((2 : Int) * p1_p)) ∧ ((2 : Int) + ((2 : Int) * p1_p)) < ((x124.len : Nat) : Int) ∧
 ∃ x126 : Int, H.rd h123 (Addr.add (Addr.add b125 ((((2 : Int) + ((2 : Int) * p1_p))).toNat * 1)) 0) (Value.int .i64 x126) ∧
 ∃ x127 : Int, H.rd h123 (Addr.add (Addr.mk r3 0 none) 0) (Value.int .i64 x127) ∧
 ∃ x128 : SV, H.rd h123 (Addr.add (Addr.mk r3 0 none) 1) (Value.slice x128.a x128.len x128.cap) ∧
 ∃ x129 : SV, H.rd h123 (Addr.add (Addr.mk r3 0 none) 2) (Value.slice x129.a x129.len x129.cap) ∧
 ∃ x130 : Int, H.rd h123 (Addr.add (Addr.mk r3 0 none) 3) (Value.int .i64 x130) ∧
 ∃ x131 : Int, H.rd h123 (Addr.add (Addr.mk r3 0 none) 4) (Value.int .i64 x131) ∧
 ∃ x132 : SV, H.rd h123 (Addr.add (Addr.mk r3 0 none) 5) (Value.slice x132.a x132.len x132.cap) ∧
 ∃ x133 : SV, H.rd h123 (Addr.add (Addr.mk r3 0 none) 6) (Value.slice x133.a x133.len x133.cap) ∧
 ∃ x134 : SV, H.rd h123 (Addr.add (Addr.mk r3 0 none) 7) (Value.slice x134.a x134.len x134.cap) ∧
 ∃ x135 : SV, H.rd h123 (Addr.add (Addr.mk r3 0 none) 8) (Value.slice x135.a x135.len x135.cap) ∧
 VRet h123 (Value.tuple (List.toArray [(Value.agg (List.toArray [(Value.int .i64 x127), (Value.slice x128.a x128.len x128.cap), (Value.slice x129.a x129.len x129.cap), (Value.int .i64 x130), (Value.int .i64 x131), (Value.slice x132.a x132.len x132.cap), (Value.slice x133.a x133.len x133.cap), (Value.slice x134.a x134.len x134.cap), (Value.slice x135.a x135.len x135.cap)])), (Value.bool true), (Value.int .i64 x126), (Value.int .i64 0)])) post)) ∧
 (
 ([(Value.int .i64 x87), (Value.slice x88.a x88.len x88.cap), (Value.slice x89.a x89.len x89.cap), (Value.int .i64 x90), (Value.int .i64 x91), (Value.slice x92.a x92.len x92.cap), (Value.slice x93.a x93.len x93.cap), (Value.slice x94.a x94.len x94.cap), (Value.slice x95.a x95.len x95.cap)]).length = 9 ∧ (Program.underlying Go.Proofs.Tryd.prog 31).isSome = true ∧
 H.wr h86 (Addr.mk r3 0 none) ([(Value.int .i64 x87), (Value.slice x88.a x88.len x88.cap), (Value.slice x89.a x89.len x89.cap), (Value.int .i64 x90), (Value.int .i64 x91), (Value.slice x92.a x92.len x92.cap), (Value.slice x93.a x93.len x93.cap), (Value.slice x94.a x94.len x94.cap), (Value.slice x95.a x95.len x95.cap)]) fun h136 =>
 ∃ x137 : Int, H.rd h136 (Addr.add (Addr.add (Addr.mk r1 0 none) 3) 0) (Value.int .i64 x137) ∧
 ∃ b138 : Addr, x96.a = some b138 ∧ 0 ≤ x137 ∧ x137 < ((x96.len : Nat) : Int) ∧
 ∃ x139 : SV, H.rd h136 (Addr.add (Addr.add b138 ((x137).toNat * 1)) 0) (Value.slice x139.a x139.len x139.cap) ∧
 ∃ b140 : Addr, x139.a = some b140 ∧ 0 ≤ ((2 : Int) + ((2 : Int) * p1_p)) ∧ ((2 : Int) + ((2 : Int) * p1_p)) < ((x139.len : Nat) : Int) ∧
 ∃ x141 : Int, H.rd h136 (Addr.add (Addr.add b140 ((((2 : Int) + ((2 : Int) * p1_p))).toNat * 1)) 0) (Value.int .i64 x141) ∧
 ∃ x142 : Int, H.rd h136 (Addr.add (Addr.mk r3 0 none) 0) (Value.int .i64 x142) ∧
 ∃ x143 : SV, H.rd h136 (Addr.add (Addr.mk r3 0 none) 1) (Value.slice x143.a x143.len x143.cap) ∧
 ∃ x144 : SV, H.rd h136 (Addr.add (Addr.mk r3 0 none) 2) (Value.slice x144.a x144.len x144.cap) ∧
 ∃ x145 : Int, H.rd h136 (Addr.add (Addr.mk r3 0 none) 3) (Value.int .i64 x145) ∧
 ∃ x146 : Int, H.rd h136 (Addr.add (Addr.mk r3 0 none) 4) (Value.int .i64 x146) ∧
 ∃ x147 : SV, H.rd h136 (Addr.add (Addr.mk r3 0 none) 5) (Value.slice x147.a x147.len x147.cap) ∧
 ∃ x148 : SV, H.rd h136 (Addr.add (Addr.mk r3 0 none) 6) (Value.slice x148.a x148.len x148.cap) ∧
 ∃ x149 : SV, H.rd h136 (Addr.add (Addr.mk r3 0 none) 7) (Value.slice x149.a x149.len x149.cap) ∧
 ∃ x150 : SV, H.rd h136 (Addr.add (Addr.mk r3 0 none) 8) (Value.slice x150.a x150.len x150.cap) ∧
 VRet h136 (Value.tuple (List.toArray [(Value.agg (List.toArray [(Value.int .i64 x142), (Value.slice x143.a x143.len x143.cap), (Value.slice x144.a x144.len x144.cap), (Value.int .i64 x145), (Value.int .i64 x146), (Value.slice x147.a x147.len x147.cap), (Value.slice x148.a x148.len x148.cap), (Value.slice x149.a x149.len x149.cap), (Value.slice x150.a x150.len x150.cap)])), (Value.bool true), (Value.int .i64 x141), (Value.int .i64 0)])) post)) ∧
 (
 (
 ∃ x151 : Int, H.rd h86 (Addr.add (Addr.add (Addr.mk r1 0 none) 3) 0) (Value.int .i64 x151) ∧
 (
 ∃ x152 : SV, H.rd h86 (Addr.add (Addr.add (Addr.mk r1 0 none) 1) 0) (Value.slice x152.a x152.len x152.cap) ∧
 ∃ b153 : Addr, x152.a = some b153 ∧ 0 ≤ x151 ∧ x151 < ((x152.len : Nat) : Int) ∧
 (
 ∃ x154 : SV, H.rd h86 (Addr.add (Addr.add b153 ((x151).toNat * 1)) 0) (Value.slice x154.a x154.len x154.cap) ∧
 ∃ b155 : Addr, x154.a = some b155 ∧ 0 ≤ ((2 : Int) + ((2 : Int) * p1_p)) ∧ ((2 : Int) + ((2 : Int) * p1_p)) < ((x154.len : Nat) : Int) ∧
 (
 ∃ x156 : Int, H.rd h86 (Addr.add (Addr.add b155 ((((2 : Int) + ((2 : Int) * p1_p))).toNat * 1)) 0) (Value.int .i64 x156) ∧
 ([(Value.int .i64 x87), (Value.slice x88.a x88.len x88.cap), (Value.slice x89.a x89.len x89.cap), (Value.int .i64 x90), (Value.int .i64 x91), (Value.slice x92.a x92.len x92.cap), (Value.slice x93.a x93.len x93.cap), (Value.slice x94.a x94.len x94.cap), (Value.slice x95.a x95.len x95.cap)]).length = 9 ∧ (Program.underlying Go.Proofs.Tryd.prog 31).isSome = true ∧
 H.wr h86 (Addr.mk r3 0 none) ([(Value.int .i64 x87), (Value.slice x88.a x88.len x88.cap), (Value.slice x89.a x89.len x89.cap), (Value.int .i64 x90), (Value.int .i64 x91), (Value.slice x92.a x92.len x92.cap), (Value.slice x93.a x93.len x93.cap), (Value.slice x94.a x94.len x94.cap), (Value.slice x95.a x95.len x95.cap)]) fun h157 =>
 ∃ x158 : Int, H.rd h157 (Addr.add (Addr.mk r3 0 none) 0) (Value.int .i64 x158) ∧
 ∃ x159 : SV, H.rd h157 (Addr.add (Addr.mk r3 0 none) 1) (Value.slice x159.a x159.len x159.cap) ∧
 ∃ x160 : SV, H.rd h157 (Addr.add (Addr.mk r3 0 none) 2) (Value.slice x160.a x160.len x160.cap) ∧
 ∃ x161 : Int, H.rd h157 (Addr.add (Addr.mk r3 0 none) 3) (Value.int .i64 x161) ∧
 ∃ x162 : Int, H.rd h157 (Addr.add (Addr.mk r3 0 none) 4) (Value.int .i64 x162) ∧
 ∃ x163 : SV, H.rd h157 (Addr.add (Addr.mk r3 0 none) 5) (Value.slice x163.a x163.len x163.cap) ∧
 ∃ x164 : SV, H.rd h157 (Addr.add (Addr.mk r3 0 none) 6) (Value.slice x164.a x164.len x164.cap) ∧
 ∃ x165 : SV, H.rd h157 (Addr.add (Addr.mk r3 0 none) 7) (Value.slice x165.a x165.len x165.cap) ∧
 ∃ x166 : SV, H.rd h157 (Addr.add (Addr.mk r3 0 none) 8) (Value.slice x166.a x166.len x166.cap) ∧
 VRet h157 (Value.tuple (List.toArray [(Value.agg (List.toArray [(Value.int .i64 x158), (Value.slice x159.a x159.len x159.cap), (Value.slice x160.a x160.len x160.cap), (Value.int .i64 x161), (Value.int .i64 x162), (Value.slice x163.a x163.len x163.cap), (Value.slice x164.a x164.len x164.cap), (Value.slice x165.a x165.len x165.cap), (Value.slice x166.a x166.len x166.cap)])), (Value.bool true), (Value.int .i64 x156), (Value.int .i64 0)])) post) ∧
 (
 ([(Value.int .i64 x87), (Value.slice x88.a x88.len x88.cap), (Value.slice x89.a x89.len x89.cap), (Value.int .i64 x90), (Value.int .i64 x91), (Value.slice x92.a x92.len x92.cap), (Value.slice x93.a x93.len x93.cap), (Value.slice x94.a x94.len x94.cap), (Value.slice x95.a x95.len x95.cap)]).length = 9 ∧ (Program.underlying Go.Proofs.Tryd.prog 31).isSome = true ∧
 H.wr h86 (Addr.mk r3 0 none) ([(Value.int .i64 x87), (Value.slice x88.a x88.len x88.cap), (Value.slice x89.a x89.len x89.cap), (Value.int .i64 x90), (Value.int .i64 x91), (Value.slice x92.a x92.len x92.cap), (Value.slice x93.a x93.len x93.cap), (Value.slice x94.a x94.len x94.cap), (Value.slice x95.a x95.len x95.cap)]) fun h167 =>
 ∃ x168 : Int, H.rd h167 (Addr.add (Addr.add b155 ((((2 : Int) + ((2 : Int) * p1_p))).toNat * 1)) 0) (Value.int .i64 x168) ∧
 ∃ x169 : Int, H.rd h167 (Addr.add (Addr.mk r3 0 none) 0) (Value.int .i64 x169) ∧
 ∃ x170 : SV, H.rd h167 (Addr.add (Addr.mk r3 0 none) 1) (Value.slice x170.a x170.len x170.cap) ∧
 ∃ x171 : SV, H.rd h167 (Addr.add (Addr.mk r3 0 none) 2) (Value.slice x171.a x171.len x171.cap) ∧
 ∃ x172 : Int, H.rd h167 (Addr.add (Addr.mk r3 0 none) 3) (Value.int .i64 x172) ∧
 ∃ x173 : Int, H.rd h167 (Addr.add (Addr.mk r3 0 none) 4) (Value.int .i64 x173) ∧
 ∃ x174 : SV, H.rd h167 (Addr.add (Addr.mk r3 0 none) 5) (Value.slice x174.a x174.len x174.cap) ∧
 ∃ x175 : SV, H.rd h167 (Addr.add (Addr.mk r3 0 none) 6) (Value.slice x175.a x175.len x175.cap) ∧
 ∃ x176 : SV, H.rd h167 (Addr.add (Addr.mk r3 0 none) 7) (Value.slice x176.a x176.len x176.cap) ∧
 ∃ x177 : SV, H.rd h167 (Addr.add (Addr.mk r3 0 none) 8) (Value.slice x177.a x177.len x177.cap) ∧
 VRet h167 (Value.tuple (List.toArray [(Value.agg (List.toArray [(Value.int .i64 x169), (Value.slice x170.a x170.len x170.cap), (Value.slice x171.a x171.len x171.cap), (Value.int .i64 x172), (Value.int .i64 x173), (Value.slice x174.a x174.len x174.cap), (Value.slice x175.a x175.len x175.cap), (Value.slice x176.a x176.len x176.cap), (Value.slice x177.a x177.len x177.cap)])), (Value.bool true), (Value.int .i64 x168), (Value.int .i64 0)])) post)) ∧
 (
 ([(Value.int .i64 x87), (Value.slice x88.a x88.len x88.cap), (Value.slice x89.a x89.len x89.cap), (Value.int .i64 x90), (Value.int .i64 x91), (Value.slice x92.a x92.len x92.cap), (Value.slice x93.a x93.len x93.cap), (Value.slice x94.a x94.len x94.cap), (Value.slice x95.a x95.len x95.cap)]).length = 9 ∧ (Program.underlying Go.Proofs.Tryd.prog 31).isSome = true ∧
 H.wr h86 (Addr.mk r3 0 none) ([(Value.int .i64 x87), (Value.slice x88.a x88.len x88.cap), (Value.slice x89.a x89.len x89.cap), (Value.int .i64 x90), (Value.int .i64 x91), (Value.slice x92.a x92.len x92.cap), (Value.slice x93.a x93.len x93.cap), (Value.slice x94.a x94.len x94.cap), (Value.slice x95.a x95.len x95.cap)]) fun h178 =>
 ∃ x179 : SV, H.rd h178 (Addr.add (Addr.add b153 ((x151).toNat * 1)) 0) (Value.slice x179.a x179.len x179.cap) ∧
 ∃ b180 : Addr, x179.a = some b180 ∧ 0 ≤ ((2 : Int) + ((2 : Int) * p1_p)) ∧ ((2 : Int) + ((2 : Int) * p1_p)) < ((x179.len : Nat) : Int) ∧
 ∃ x181 : Int, H.rd h178 (Addr.add (Addr.add b180 ((((2 : Int) + ((2 : Int) * p1_p))).toNat * 1)) 0) (Value.int .i64 x181) ∧
 ∃ x182 : Int, H.rd h178 (Addr.add (Addr.mk r3 0 none) 0) (Value.int .i64 x182) ∧
 ∃ x183 : SV, H.rd h178 (Addr.add (Addr.mk r3 0 none) 1) (Value.slice x183.a x183.len x183.cap) ∧
 ∃ x184 : SV, H.rd h178 (Addr.add (Addr.mk r3 0 none) 2) (Value.slice x184.a x184.len x184.cap) ∧
 ∃ x185 : Int, H.rd h178 (Addr.add (Addr.mk r3 0 none) 3) (Value.int .i64 x185) ∧
 ∃ x186 : Int, H.rd h178 (Addr.add (Addr.mk r3 0 none) 4) (Value.int .i64 x186) ∧
 ∃ x187 : SV, H.rd h178 (Addr.add (Addr.mk r3 0 none) 5) (Value.slice x187.a x187.len x187.cap) ∧
 ∃ x188 : SV, H.rd h178 (Addr.add (Addr.mk r3 0 none) 6) (Value.slice x188.a x188.len x188.cap) ∧
 ∃ x189 : SV, H.rd h178 (Addr.add (Addr.mk r3 0 none) 7) (Value.slice x189.a x189.len x189.cap) ∧
 ∃ x190 : SV, H.rd h178 (Addr.add (Addr.mk r3 0 none) 8) (Value.slice x190.a x190.len x190.cap) ∧
 VRet h178 (Value.tuple (List.toArray [(Value.agg (List.toArray [(Value.int .i64 x182), (Value.slice x183.a x183.len x183.cap), (Value.slice x184.a x184.len x184.cap), (Value.int .i64 x185), (Value.int .i64 x186), (Value.slice x187.a x187.len x187.cap), (Value.slice x188.a x188.len x188.cap), (Value.slice x189.a x189.len x189.cap), (Value.slice x190.a x190.len x190.cap)])), (Value.bool true), (Value.int .i64 x181), (Value.int .i64 0)])) post)) ∧
 (
 ([(Value.int .i64 x87), (Value.slice x88.a x88.len x88.cap), (Value.slice x89.a x89.len x89.cap), (Value.int .i64 x90), (Value.int .i64 x91), (Value.slice x92.a x92.len x92.cap), (Value.slice x93.a x93.len x93.cap), (Value.slice x94.a x94.len x94.cap), (Value.slice x95.a x95.len x95.cap)]).length = 9 ∧ (Program.underlying Go.Proofs.Tryd.prog 31).isSome = true ∧
 H.wr h86 (Addr.mk r3 0 none) ([(Value.int .i64 x87), (Value.slice x88.a x88.len x88.cap), (Value.slice x89.a x89.len x89.cap), (Value.int .i64 x90), (Value.int .i64 x91), (Value.slice x92.a x92.len x92.cap), (Value.slice x93.a x93.len x93.cap), (Value.slice x94.a x94.len x94.cap), (Value.slice x95.a x95.len x95.cap)]) fun h191 =>
 ∃ x192 : SV, H.rd h191 (Addr.add (Addr.add (Addr.mk r1 0 none) 1) 0) (Value.slice x192.a x192.len x192.cap) ∧
 ∃ b193 : Addr, x192.a = some b193 ∧ 0 ≤ x151 ∧ x151 < ((x192.len : Nat) : Int) ∧
 ∃ x194 : SV, H.rd h191 (Addr.add (Addr.add b193 ((x151).toNat * 1)) 0) (Value.slice x194.a x194.len x194.cap) ∧
 ∃ b195 : Addr, x194.a = some b195 ∧ 0 ≤ ((2 : Int) + ((2 : Int) * p1_p)) ∧ ((2 : Int) + ((2 : Int) * p1_p)) < ((x194.len : Nat) : Int) ∧
 ∃ x196 : Int, H.rd h191 (Addr.add (Addr.add b195 ((((2 : Int) + ((2 : Int) * p1_p))).toNat * 1)) 0) (Value.int .i64 x196) ∧
 ∃ x197 : Int, H.rd h191 (Addr.add (Addr.mk r3 0 none) 0) (Value.int .i64 x197) ∧
 ∃ x198 : SV, H.rd h191 (Addr.add (Addr.mk r3 0 none) 1) (Value.slice x198.a x198.len x198.cap) ∧
 ∃ x199 : SV, H.rd h191 (Addr.add (Addr.mk r3 0 none) 2) (Value.slice x199.a x199.len x199.cap) ∧
 ∃ x200 : Int, H.rd h191 (Addr.add (Addr.mk r3 0 none) 3) (Value.int .i64 x200) ∧
 ∃ x201 : Int, H.rd h191 (Addr.add (Addr.mk r3 0 none) 4) (Value.int .i64 x201) ∧
 ∃ x202 : SV, H.rd h191 (Addr.add (Addr.mk r3 0 none) 5) (Value.slice x202.a x202.len x202.cap) ∧
 ∃ x203 : SV, H.rd h191 (Addr.add (Addr.mk r3 0 none) 6) (Value.slice x203.a x203.len x203.cap) ∧
 ∃ x204 : SV, H.rd h191 (Addr.add (Addr.mk r3 0 none) 7) (Value.slice x204.a x204.len x204.cap) ∧
 ∃ x205 : SV, H.rd h191 (Addr.add (Addr.mk r3 0 none) 8) (Value.slice x205.a x205.len x205.cap) ∧
 VRet h191 (Value.tuple (List.toArray [(Value.agg (List.toArray [(Value.int .i64 x197), (Value.slice x198.a x198.len x198.cap), (Value.slice x199.a x199.len x199.cap), (Value.int .i64 x200), (Value.int .i64 x201), (Value.slice x202.a x202.len x202.cap), (Value.slice x203.a x203.len x203.cap), (Value.slice x204.a x204.len x204.cap), (Value.slice x205.a x205.len x205.cap)])), (Value.bool true), (Value.int .i64 x196), (Value.int .i64 0)])) post)) ∧
 (
 ([(Value.int .i64 x87), (Value.slice x88.a x88.len x88.cap), (Value.slice x89.a x89.len x89.cap), (Value.int .i64 x90), (Value.int .i64 x91), (Value.slice x92.a x92.len x92.cap), (Value.slice x93.a x93.len x93.cap), (Value.slice x94.a x94.len x94.cap), (Value.slice x95.a x95.len x95.cap)]).length = 9 ∧ (Program.underlying Go.Proofs.Tryd.prog 31).isSome = true ∧
 H.wr h86 (Addr.mk r3 0 none) ([(Value.int .i64 x87), (Value.slice x88.a x88.len x88.cap), (Value.slice x89.a x89.len x89.cap), (Value.int .i64 x90), (Value.int .i64 x91), (Value.slice x92.a x92.len x92.cap), (Value.slice x93.a x93.len x93.cap), (Value.slice x94.a x94.len x94.cap), (Value.slice x95.a x95.len x95.cap)]) fun h206 =>
 (
 ∃ x207 : SV, H.rd h206 (Addr.add (Addr.add (Addr.mk r1 0 none) 1) 0) (Value.slice x207.a x207.len x207.cap) ∧
 ∃ x208 : Int, H.rd h206 (Addr.add (Addr.add (Addr.mk r1 0 none) 3) 0) (Value.int .i64 x208) ∧
 ∃ b209 : Addr, x207.a = some b209 ∧ 0 ≤ x208 ∧ x208 < ((x207.len : Nat) : Int) ∧
 ∃ x210 : SV, H.rd h206 (Addr.add (Addr.add b209 ((x208).toNat * 1)) 0) (Value.slice x210.a x210.len x210.cap) ∧
 ∃ b211 : Addr, x210.a = some b211 ∧ 0 ≤ ((2 : Int) + ((2 : Int) * p1_p)) ∧ ((2 : Int) + ((2 : Int) * p1_p)) < ((x210.len : Nat) : Int) ∧
 ∃ x212 : Int, H.rd h206 (Addr.add (Addr.add b211 ((((2 : Int) + ((2 : Int) * p1_p))).toNat * 1)) 0) (Value.int .i64 x212) ∧
 ∃ x213 : Int, H.rd h206 (Addr.add (Addr.mk r3 0 none) 0) (Value.int .i64 x213) ∧
 ∃ x214 : SV, H.rd h206 (Addr.add (Addr.mk r3 0 none) 1) (Value.slice x214.a x214.len x214.cap) ∧
 ∃ x215 : SV, H.rd h206 (Addr.add (Addr.mk r3 0 none) 2) (Value.slice x215.a x215.len x215.cap) ∧
 ∃ x216 : Int, H.rd h206 (Addr.add (Addr.mk r3 0 none) 3) (Value.int .i64 x216) ∧
 ∃ x217 : Int, H.rd h206 (Addr.add (Addr.mk r3 0 none) 4) (Value.int .i64 x217) ∧
 ∃ x218 : SV, H.rd h206 (Addr.add (Addr.mk r3 0 none) 5) (Value.slice x218.a x218.len x218.cap) ∧
 ∃ x219 : SV, H.rd h206 (Addr.add (Addr.mk r3 0 none) 6) (Value.slice x219.a x219.len x219.cap) ∧
 ∃ x220 : SV, H.rd h206 (Addr.add (Addr.mk r3 0 none) 7) (Value.slice x220.a x220.len x220.cap) ∧
 ∃ x221 : SV, H.rd h206 (Addr.add (Addr.mk r3 0 none) 8) (Value.slice x221.a x221.len x221.cap) ∧
 VRet h206 (Value.tuple (List.toArray [(Value.agg (List.toArray [(Value.int .i64 x213), (Value.slice x214.a x214.len x214.cap), (Value.slice x215.a x215.len x215.cap), (Value.int .i64 x216), (Value.int .i64 x217), (Value.slice x218.a x218.len x218.cap), (Value.slice x219.a x219.len x219.cap), (Value.slice x220.a x220.len x220.cap), (Value.slice x221.a x221.len x221.cap)])), (Value.bool true), (Value.int .i64 x212), (Value.int .i64 0)])) post) ∧
 (
 ∃ x222 : Int, H.rd h206 (Addr.add (Addr.add (Addr.mk r1 0 none) 3) 0) (Value.int .i64 x222) ∧
 ∃ x223 : SV, H.rd h206 (Addr.add (Addr.add (Addr.mk r1 0 none) 1) 0) (Value.slice x223.a x223.len x223.cap) ∧
 ∃ b224 : Addr, x223.a = some b224 ∧ 0 ≤ x222 ∧ x222 < ((x223.len : Nat) : Int) ∧
 ∃ x225 : SV, H.rd h206 (Addr.add (Addr.add b224 ((x222).toNat * 1)) 0) (Value.slice x225.a x225.len x225.cap) ∧
 ∃ b226 : Addr, x225.a = some b226 ∧ 0 ≤ ((2 : Int) + ((2 : Int) * p1_p)) ∧ ((2 : Int) + ((2 : Int) * p1_p)) < ((x225.len : Nat) : Int) ∧
 ∃ x227 : Int, H.rd h206 (Addr.add (Addr.add b226 ((((2 : Int) + ((2 : Int) * p1_p))).toNat * 1)) 0) (Value.int .i64 x227) ∧
 ∃ x228 : Int, H.rd h206 (Addr.add (Addr.mk r3 0 none) 0) (Value.int .i64 x228) ∧
 ∃ x229 : SV, H.rd h206 (Addr.add (Addr.mk r3 0 none) 1) (Value.slice x229.a x229.len x229.cap) ∧
 ∃ x230 : SV, H.rd h206 (Addr.add (Addr.mk r3 0 none) 2) (Value.slice x230.a x230.len x230.cap) ∧
 ∃ x231 : Int, H.rd h206 (Addr.add (Addr.mk r3 0 none) 3) (Value.int .i64 x231) ∧
 ∃ x232 : Int, H.rd h206 (Addr.add (Addr.mk r3 0 none) 4) (Value.int .i64 x232) ∧
 ∃ x233 : SV, H.rd h206 (Addr.add (Addr.mk r3 0 none) 5) (Value.slice x233.a x233.len x233.cap) ∧
 ∃ x234 : SV, H.rd h206 (Addr.add (Addr.mk r3 0 none) 6) (Value.slice x234.a x234.len x234.cap) ∧
 ∃ x235 : SV, H.rd h206 (Addr.add (Addr.mk r3 0 none) 7) (Value.slice x235.a x235.len x235.cap) ∧
 ∃ x236 : SV, H.rd h206 (Addr.add (Addr.mk r3 0 none) 8) (Value.slice x236.a x236.len x236.cap) ∧
 VRet h206 (Value.tuple (List.toArray [(Value.agg (List.toArray [(Value.int .i64 x228), (Value.slice x229.a x229.len x229.cap), (Value.slice x230.a x230.len x230.cap), (Value.int .i64 x231), (Value.int .i64 x232), (Value.slice x233.a x233.len x233.cap), (Value.slice x234.a x234.len x234.cap), (Value.slice x235.a x235.len x235.cap), (Value.slice x236.a x236.len x236.cap)])), (Value.bool true), (Value.int .i64 x227), (Value.int .i64 0)])) post)))) ∧
 (
 (
 ∃ x237 : SV, H.rd h86 (Addr.add (Addr.add (Addr.mk r1 0 none) 1) 0) (Value.slice x237.a x237.len x237.cap) ∧
 (
 ∃ x238 : Int, H.rd h86 (Addr.add (Addr.mk r1 0 none) 0) (Value.int .i64 x238) ∧
 ∃ x239 : SV, H.rd h86 (Addr.add (Addr.mk r1 0 none) 1) (Value.slice x239.a x239.len x239.cap) ∧
 ∃ x240 : SV, H.rd h86 (Addr.add (Addr.mk r1 0 none) 2) (Value.slice x240.a x240.len x240.cap) ∧
 ∃ x241 : Int, H.rd h86 (Addr.add (Addr.mk r1 0 none) 3) (Value.int .i64 x241) ∧
 ∃ x242 : Int, H.rd h86 (Addr.add (Addr.mk r1 0 none) 4) (Value.int .i64 x242) ∧
 ∃ x243 : SV, H.rd h86 (Addr.add (Addr.mk r1 0 none) 5) (Value.slice x243.a x243.len x243.cap) ∧
 ∃ x244 : SV, H.rd h86 (Addr.add (Addr.mk r1 0 none) 6) (Value.slice x244.a x244.len x244.cap) ∧
 ∃ x245 : SV, H.rd h86 (Addr.add (Addr.mk r1 0 none) 7) (Value.slice x245.a x245.len x245.cap) ∧
 ∃ x246 : SV, H.rd h86 (Addr.add (Addr.mk r1 0 none) 8) (Value.slice x246.a x246.len x246.cap) ∧
 (
 ∃ x247 : Int, H.rd h86 (Addr.add (Addr.add (Addr.mk r1 0 none) 3) 0) (Value.int .i64 x247) ∧
 ∃ b248 : Addr, x237.a = some b248 ∧ 0 ≤ x247 ∧ x247 < ((x237.len : Nat) : Int) ∧
 (
 ∃ x249 : SV, H.rd h86 (Addr.add (Addr.add b248 ((x247).toNat * 1)) 0) (Value.slice x249.a x249.len x249.cap) ∧
 ∃ b250 : Addr, x249.a = some b250 ∧ 0 ≤ ((2 : Int) + ((2 : Int) * p1_p)) ∧ ((2 : Int) + ((2 : Int) * p1_p)) < ((x249.len : Nat) : Int) ∧
 (
 ∃ x251 : Int, H.rd h86 (Addr.add (Addr.add b250 ((((2 : Int) + ((2 : Int) * p1_p))).toNat * 1)) 0) (Value.int .i64 x251) ∧
 ([(Value.int .i64 x238), (Value.slice x239.a x239.len x239.cap), (Value.slice x240.a x240.len x240.cap), (Value.int .i64 x241), (Value.int .i64 x242), (Value.slice x243.a x243.len x243.cap), (Value.slice x244.a x244.len x244.cap), (Value.slice x245.a x245.len x245.cap), (Value.slice x246.a x246.len x246.cap)]).length = 9 ∧ (Program.underlying Go.Proofs.Tryd.prog 31).isSome = true ∧
 H.wr h86 (Addr.mk r3 0 none) ([(Value.int .i64 x238), (Value.slice x239.a x239.len x239.cap), (Value.slice x240.a x240.len x240.cap), (Value.int .i64 x241), (Value.int .i64 x242), (Value.slice x243.a x243.len x243.cap), (Value.slice x244.a x244.len x244.cap), (Value.slice x245.a x245.len x245.cap), (Value.slice x246.a x246.len x246.cap)]) fun h252 =>
 ∃ x253 : Int, H.rd h252 (Addr.add (Addr.mk r3 0 none) 0) (Value.int .i64 x253) ∧
 ∃ x254 : SV, H.rd h252 (Addr.add (Addr.mk r3 0 none) 1) (Value.slice x254.a x254.len x254.cap) ∧
 ∃ x255 : SV, H.rd h252 (Addr.add (Addr.mk r3 0 none) 2) (Value.slice x255.a x255.len x255.cap) ∧
 ∃ x256 : Int, H.rd h252 (Addr.add (Addr.mk r3 0 none) 3) (Value.int .i64 x256) ∧
 ∃ x257 : Int, H.rd h252 (Addr.add (Addr.mk r3 0 none) 4) (Value.int .i64 x257) ∧
 ∃ x258 : SV, H.rd h252 (Addr.add (Addr.mk r3 0 none) 5) (Value.slice x258.a x258.len x258.cap) ∧
 ∃ x259 : SV, H.rd h252 (Addr.add (Addr.mk r3 0 none) 6) (Value.slice x259.a x259.len x259.cap) ∧
 ∃ x260 : SV, H.rd h252 (Addr.add (Addr.mk r3 0 none) 7) (Value.slice x260.a x260.len x260.cap) ∧
 ∃ x261 : SV, H.rd h252 (Addr.add (Addr.mk r3 0 none) 8) (Value.slice x261.a x261.len x261.cap) ∧
 VRet h252 (Value.tuple (List.toArray [(Value.agg (List.toArray [(Value.int .i64 x253), (Value.slice x254.a x254.len x254.cap), (Value.slice x255.a x255.len x255.cap), (Value.int .i64 x256), (Value.int .i64 x257), (Value.slice x258.a x258.len x258.cap), (Value.slice x259.a x259.len x259.cap), (Value.slice x260.a x260.len x260.cap), (Value.slice x261.a x261.len x261.cap)])), (Value.bool true), (Value.int .i64 x251), (Value.int .i64 0)])) post) ∧
 (
 ([(Value.int .i64 x238), (Value.slice x239.a x239.len x239.cap), (Value.slice x240.a x240.len x240.cap), (Value.int .i64 x241), (Value.int .i64 x242), (Value.slice x243.a x243.len x243.cap), (Value.slice x244.a x244.len x244.cap), (Value.slice x245.a x245.len x245.cap), (Value.slice x246.a x246.len x246.cap)]).length = 9 ∧ (Program.underlying Go.Proofs.Tryd.prog 31).isSome = true ∧
 H.wr h86 (Addr.mk r3 0 none) ([(Value.int .i64 x238), (Value.slice x239.a x239.len x239.cap), (Value.slice x240.a x240.len x240.cap), (Value.int .i64 x241), (Value.int .i64 x242), (Value.slice x243.a x243.len x243.cap), (Value.slice x244.a x244.len x244.cap), (Value.slice x245.a x245.len x245.cap), (Value.slice x246.a x246.len x246.cap)]) fun h262 =>
 ∃ x263 : Int, H.rd h262 (Addr.add (Addr.add b250 ((((2 : Int) + ((2 : Int) * p1_p))).toNat * 1)) 0) (Value.int .i64 x263) ∧
 ∃ x264 : Int, H.rd h262 (Addr.add (Addr.mk r3 0 none) 0) (Value.int .i64 x264) ∧
 ∃ x265 : SV, H.rd h262 (Addr.add (Addr.mk r3 0 none) 1) (Value.slice x265.a x265.len x265.cap) ∧
 ∃ x266 : SV, H.rd h262 (Addr.add (Addr.mk r3 0 none) 2) (Value.slice x266.a x266.len x266.cap) ∧
 ∃ x267 : Int, H.rd h262 (Addr.add (Addr.mk r3 0 none) 3) (Value.int .i64 x267) ∧
 ∃ x268 : Int, H.rd h262 (Addr.add (Addr.mk r3 0 none) 4) (Value.int .i64 x268) ∧
 ∃ x269 : SV, H.rd h262 (Addr.add (Addr.mk r3 0 none) 5) (Value.slice x269.a x269.len x269.cap) ∧
 ∃ x270 : SV, H.rd h262 (Addr.add (Addr.mk r3 0 none) 6) (Value.slice x270.a x270.len x270.cap) ∧
 ∃ x271 : SV, H.rd h262 (Addr.add (Addr.mk r3 0 none) 7) (Value.slice x271.a x271.len x271.cap) ∧
 ∃ x272 : SV, H.rd h262 (Addr.add (Addr.mk r3 0 none) 8) (Value.slice x272.a x272.len x272.cap) ∧
 VRet h262 (Value.tuple (List.toArray [(Value.agg (List.toArray [(Value.int .i64 x264), (Value.slice x265.a x265.len x265.cap), (Value.slice x266.a x266.len x266.cap), (Value.int .i64 x267), (Value.int .i64 x268), (Value.slice x269.a x269.len x269.cap), (Value.slice x270.a x270.len x270.cap), (Value.slice x271.a x271.len x271.cap), (Value.slice x272.a x272.len x272.cap)])), (Value.bool true), (Value.int .i64 x263), (Value.int .i64 0)])) post)) ∧
 (
 ([(Value.int .i64 x238), (Value.slice x239.a x239.len x239.cap), (Value.slice x240.a x240.len x240.cap), (Value.int .i64 x241), (Value.int .i64 x242), (Value.slice x243.a x243.len x243.cap), (Value.slice x244.a x244.len x244.cap), (Value.slice x245.a x245.len x245.cap), (Value.slice x246.a x246.len x246.cap)]).length = 9 ∧ (Program.underlying Go.Proofs.Tryd.prog 31).isSome = true ∧
 H.wr h86 (Addr.mk r3 0 none) ([(Value.int .i64 x238), (Value.slice x239.a x239.len x239.cap), (Value.slice x240.a x240.len x240.cap), (Value.int .i64 x241), (Value.int .i64 x242), (Value.slice x243.a x243.len x243.cap), (Value.slice x244.a x244.len x244.cap), (Value.slice x245.a x245.len x245.cap), (Value.slice x246.a x246.len x246.cap)]) fun h273 =>
 ∃ x274 : SV, H.rd h273 (Addr.add (Addr.add b248 ((x247).toNat * 1)) 0) (Value.slice x274.a x274.len x274.cap) ∧
 ∃ b275 : Addr, x274.a = some b275 ∧ 0 ≤ ((2 : Int) + ((2 : Int) * p1_p)) ∧ ((2 : Int) + ((2 : Int) * p1_p)) < ((x274.len : Nat) : Int) ∧
 ∃ x276 : Int, H.rd h273 (Addr.add (Addr.add b275 ((((2 : Int) + ((2 : Int) * p1_p))).toNat * 1)) 0) (Value.int .i64 x276) ∧
 ∃ x277 : Int, H.rd h273 (Addr.add (Addr.mk r3 0 none) 0) (Value.int .i64 x277) ∧
 ∃ x278 : SV, H.rd h273 (Addr.add (Addr.mk r3 0 none) 1) (Value.slice x278.a x278.len x278.cap) ∧
 ∃ x279 : SV, H.rd h273 (Addr.add (Addr.mk r3 0 none) 2) (Value.slice x279.a x279.len x279.cap) ∧
 ∃ x280 : Int, H.rd h273 (Addr.add (Addr.mk r3 0 none) 3) (Value.int .i64 x280) ∧
 ∃ x281 : Int, H.rd h273 (Addr.add (Addr.mk r3 0 none) 4) (Value.int .i64 x281) ∧
 ∃ x282 : SV, H.rd h273 (Addr.add (Addr.mk r3 0 none) 5) (Value.slice x282.a x282.len x282.cap) ∧
 ∃ x283 : SV, H.rd h273 (Addr.add (Addr.mk r3 0 none) 6) (Value.slice x283.a x283.len x283.cap) ∧
 ∃ x284 : SV, H.rd h273 (Addr.add (Addr.mk r3 0 none) 7) (Value.slice x284.a x284.len x284.cap) ∧
 ∃ x285 : SV, H.rd h273 (Addr.add (Addr.mk r3 0 none) 8) (Value.slice x285.a x285.len x285.cap) ∧
 VRet h273 (Value.tuple (List.toArray [(Value.agg (List.toArray [(Value.int .i64 x277), (Value.slice x278.a x278.len x278.cap), (Value.slice x279.a x279.len x279.cap), (Value.int .i64 x280), (Value.int .i64 x281), (Value.slice x282.a x282.len x282.cap), (Value.slice x283.a x283.len x283.cap), (Value.slice x284.a x284.len x284.cap), (Value.slice x285.a x285.len x285.cap)])), (Value.bool true), (Value.int .i64 x276), (Value.int .i64 0)])) post)) ∧
 (
 ([(Value.int .i64 x238), (Value.slice x239.a x239.len x239.cap), (Value.slice x240.a x240.len x240.cap), (Value.int .i64 x241), (Value.int .i64 x242), (Value.slice x243.a x243.len x243.cap), (Value.slice x244.a x244.len x244.cap), (Value.slice x245.a x245.len x245.cap), (Value.slice x246.a x246.len x246.cap)]).length = 9 ∧ (Program.underlying Go.Proofs.Tryd.prog 31).isSome = true ∧
 H.wr h86 (Addr.mk r3 0 none) ([(Value.int .i64 x238), (Value.slice x239.a x239.len x239.cap), (Value.slice x240.a x240.len x240.cap), (Value.int .i64 x241), (Value.int .i64 x242), (Value.slice x243.a x243.len x243.cap), (Value.slice x244.a x244.len x244.cap), (Value.slice x245.a x245.len x245.cap), (Value.slice x246.a x246.len x246.cap)]) fun h286 =>
 ∃ x287 : Int, H.rd h286 (Addr.add (Addr.add (Addr.mk r1 0 none) 3) 0) (Value.int .i64 x287) ∧
 ∃ b288 : Addr, x237.a = some b288 ∧ 0 ≤ x287 ∧ x287 < ((x237.len : Nat) : Int) ∧
 ∃ x289 : SV, H.rd h286 (Addr.add (Addr.add b288 ((x287).toNat * 1)) 0) (Value.slice x289.a x289.len x289.cap) ∧
 ∃ b290 : Addr, x289.a = some b290 ∧ 0 ≤ ((2 : Int) + ((2 : Int) * p1_p)) ∧ ((2 : Int) + ((2 : Int) * p1_p)) < ((x289.len : Nat) : Int) ∧
 ∃ x291 : Int, H.rd h286 (Addr.add (Addr.add b290 ((((2 : Int) + ((2 : Int) * p1_p))).toNat * 1)) 0) (Value.int .i64 x291) ∧
 ∃ x292 : Int, H.rd h286 (Addr.add (Addr.mk r3 0 none) 0) (Value.int .i64 x292) ∧
 ∃ x293 : SV, H.rd h286 (Addr.add (Addr.mk r3 0 none) 1) (Value.slice x293.a x293.len x293.cap) ∧
 ∃ x294 : SV, H.rd h286 (Addr.add (Addr.mk r3 0 none) 2) (Value.slice x294.a x294.len x294.cap) ∧
 ∃ x295 : Int, H.rd h286 (Addr.add (Addr.mk r3 0 none) 3) (Value.int .i64 x295) ∧
 ∃ x296 : Int, H.rd h286 (Addr.add (Addr.mk r3 0 none) 4) (Value.int .i64 x296) ∧
 ∃ x297 : SV, H.rd h286 (Addr.add (Addr.mk r3 0 none) 5) (Value.slice x297.a x297.len x297.cap) ∧
 ∃ x298 : SV, H.rd h286 (Addr.add (Addr.mk r3 0 none) 6) (Value.slice x298.a x298.len x298.cap) ∧
 ∃ x299 : SV, H.rd h286 (Addr.add (Addr.mk r3 0 none) 7) (Value.slice x299.a x299.len x299.cap) ∧
 ∃ x300 : SV, H.rd h286 (Addr.add (Addr.mk r3 0 none) 8) (Value.slice x300.a x300.len x300.cap) ∧
 VRet h286 (Value.tuple (List.toArray [(Value.agg (List.toArray [(Value.int .i64 x292), (Value.slice x293.a x293.len x293.cap), (Value.slice x294.a x294.len x294.cap), (Value.int .i64 x295), (Value.int .i64 x296), (Value.slice x297.a x297.len x297.cap), (Value.slice x298.a x298.len x298.cap), (Value.slice x299.a x299.len x299.cap), (Value.slice x300.a x300.len x300.cap)])), (Value.bool true), (Value.int .i64 x291), (Value.int .i64 0)])) post)) ∧
 (
 ∃ x301 : Int, H.rd h86 (Addr.add (Addr.add (Addr.mk r1 0 none) 3) 0) (Value.int .i64 x301) ∧
 ∃ b302 : Addr, x237.a = some b302 ∧ 0 ≤ x301 ∧ x301 < ((x237.len : Nat) : Int) ∧
 (
 ∃ x303 : Int, H.rd h86 (Addr.add (Addr.mk r1 0 none) 0) (Value.int .i64 x303) ∧
 ∃ x304 : SV, H.rd h86 (Addr.add (Addr.mk r1 0 none) 1) (Value.slice x304.a x304.len x304.cap) ∧
 ∃ x305 : SV, H.rd h86 (Addr.add (Addr.mk r1 0 none) 2) (Value.slice x305.a x305.len x305.cap) ∧
 ∃ x306 : Int, H.rd h86 (Addr.add (Addr.mk r1 0 none) 3) (Value.int .i64 x306) ∧
 ∃ x307 : Int, H.rd h86 (Addr.add (Addr.mk r1 0 none) 4) (Value.int .i64 x307) ∧
 ∃ x308 : SV, H.rd h86 (Addr.add (Addr.mk r1 0 none) 5) (Value.slice x308.a x308.len x308.cap) ∧
 ∃ x309 : SV, H.rd h86 (Addr.add (Addr.mk r1 0 none) 6) (Value.slice x309.a x309.len x309.cap) ∧
 ∃ x310 : SV, H.rd h86 (Addr.add (Addr.mk r1 0 none) 7) (Value.slice x310.a x310.len x310.cap) ∧
 ∃ x311 : SV, H.rd h86 (Addr.add (Addr.mk r1 0 none) 8) (Value.slice x311.a x311.len x311.cap) ∧
 (
 ∃ x312 : SV, H.rd h86 (Addr.add (Addr.add b302 ((x301).toNat * 1)) 0) (Value.slice x312.a x312.len x312.cap) ∧
 ∃ b313 : Addr, x312.a = some b313 ∧ 0 ≤ ((2 : Int) + ((2 : Int) * p1_p)) ∧ ((2 : Int) + ((2 : Int) * p1_p)) < ((x312.len : Nat) : Int) ∧
 (
 ∃ x314 : Int, H.rd h86 (Addr.add (Addr.add b313 ((((2 : Int) + ((2 : Int) * p1_p))).toNat * 1)) 0) (Value.int .i64 x314) ∧
 ([(Value.int .i64 x303), (Value.slice x304.a x304.len x304.cap), (Value.slice x305.a x305.len x305.cap), (Value.int .i64 x306), (Value.int .i64 x307), (Value.slice x308.a x308.len x308.cap), (Value.slice x309.a x309.len x309.cap), (Value.slice x310.a x310.len x310.cap), (Value.slice x311.a x311.len x311.cap)]).length = 9 ∧ (Program.underlying Go.Proofs.Tryd.prog 31).isSome = true ∧
 H.wr h86 (Addr.mk r3 0 none) ([(Value.int .i64 x303), (Value.slice x304.a x304.len x304.cap), (Value.slice x305.a x305.len x305.cap), (Value.int .i64 x306), (Value.int .i64 x307), (Value.slice x308.a x308.len x308.cap), (Value.slice x309.a x309.len x309.cap), (Value.slice x310.a x310.len x310.cap), (Value.slice x311.a x311.len x311.cap)]) fun h315 =>
 ∃ x316 : Int, H.rd h315 (Addr.add (Addr.mk r3 0 none) 0) (Value.int .i64 x316) ∧
 ∃ x317 : SV, H.rd h315 (Addr.add (Addr.mk r3 0 none) 1) (Value.slice x317.a x317.len x317.cap) ∧
 ∃ x318 : SV, H.rd h315 (Addr.add (Addr.mk r3 0 none) 2) (Value.slice x318.a x318.len x318.cap) ∧
 ∃ x319 : Int, H.rd h315 (Addr.add (Addr.mk r3 0 none) 3) (Value.int .i64 x319) ∧
 ∃ x320 : Int, H.rd h315 (Addr.add (Addr.mk r3 0 none) 4) (Value.int .i64 x320) ∧
 ∃ x321 : SV, H.rd h315 (Addr.add (Addr.mk r3 0 none) 5) (Value.slice x321.a x321.len x321.cap) ∧
 ∃ x322 : SV, H.rd h315 (Addr.add (Addr.mk r3 0 none) 6) (Value.slice x322.a x322.len x322.cap) ∧
 ∃ x323 : SV, H.rd h315 (Addr.add (Addr.mk r3 0 none) 7) (Value.slice x323.a x323.len x323.cap) ∧
 ∃ x324 : SV, H.rd h315 (Addr.add (Addr.mk r3 0 none) 8) (Value.slice x324.a x324.len x324.cap) ∧
 VRet h315 (Value.tuple (List.toArray [(Value.agg (List.toArray [(Value.int .i64 x316), (Value.slice x317.a x317.len x317.cap), (Value.slice x318.a x318.len x318.cap), (Value.int .i64 x319), (Value.int .i64 x320), (Value.slice x321.a x321.len x321.cap), (Value.slice x322.a x322.len x322.cap), (Value.slice x323.a x323.len x323.cap), (Value.slice x324.a x324.len x324.cap)])), (Value.bool true), (Value.int .i64 x314), (Value.int .i64 0)])) post) ∧
 (
 ([(Value.int .i64 x303), (Value.slice x304.a x304.len x304.cap), (Value.slice x305.a x305.len x305.cap), (Value.int .i64 x306), (Value.int .i64 x307), (Value.slice x308.a x308.len x308.cap), (Value.slice x309.a x309.len x309.cap), (Value.slice x310.a x310.len x310.cap), (Value.slice x311.a x311.len x311.cap)]).length = 9 ∧ (Program.underlying Go.Proofs.Tryd.prog 31).isSome = true ∧
 H.wr h86 (Addr.mk r3 0 none) ([(Value.int .i64 x303), (Value.slice x304.a x304.len x304.cap), (Value.slice x305.a x305.len x305.cap), (Value.int .i64 x306), (Value.int .i64 x307), (Value.slice x308.a x308.len x308.cap), (Value.slice x309.a x309.len x309.cap), (Value.slice x310.a x310.len x310.cap), (Value.slice x311.a x311.len x311.cap)]) fun h325 =>
 ∃ x326 : Int, H.rd h325 (Addr.add (Addr.add b313 ((((2 : Int) + ((2 : Int) * p1_p))).toNat * 1)) 0) (Value.int .i64 x326) ∧
 ∃ x327 : Int, H.rd h325 (Addr.add (Addr.mk r3 0 none) 0) (Value.int .i64 x327) ∧
 ∃ x328 : SV, H.rd h325 (Addr.add (Addr.mk r3 0 none) 1) (Value.slice x328.a x328.len x328.cap) ∧
 ∃ x329 : SV, H.rd h325 (Addr.add (Addr.mk r3 0 none) 2) (Value.slice x329.a x329.len x329.cap) ∧
 ∃ x330 : Int, H.rd h325 (Addr.add (Addr.mk r3 0 none) 3) (Value.int .i64 x330) ∧
 ∃ x331 : Int, H.rd h325 (Addr.add (Addr.mk r3 0 none) 4) (Value.int .i64 x331) ∧
 ∃ x332 : SV, H.rd h325 (Addr.add (Addr.mk r3 0 none) 5) (Value.slice x332.a x332.len x332.cap) ∧
 ∃ x333 : SV, H.rd h325 (Addr.add (Addr.mk r3 0 none) 6) (Value.slice x333.a x333.len x333.cap) ∧
 ∃ x334 : SV, H.rd h325 (Addr.add (Addr.mk r3 0 none) 7) (Value.slice x334.a x334.len x334.cap) ∧
 ∃ x335 : SV, H.rd h325 (Addr.add (Addr.mk r3 0 none) 8) (Value.slice x335.a x335.len x335.cap) ∧
 VRet h325 (Value.tuple (List.toArray [(Value.agg (List.toArray [(Value.int .i64 x327), (Value.slice x328.a x328.len x328.cap), (Value.slice x329.a x329.len x329.cap), (Value.int .i64 x330), (Value.int .i64 x331), (Value.slice x332.a x332.len x332.cap), (Value.slice x333.a x333.len x333.cap), (Value.slice x334.a x334.len x334.cap), (Value.slice x335.a x335.len x335.cap)])), (Value.bool true), (Value.int .i64 x326), (Value.int .i64 0)])) post)) ∧
 (
 ([(Value.int .i64 x303), (Value.slice x304.a x304.len x304.cap), (Value.slice x305.a x305.len x305.cap), (Value.int .i64 x306), (Value.int .i64 x307), (Value.slice x308.a x308.len x308.cap), (Value.slice x309.a x309.len x309.cap), (Value.slice x310.a x310.len x310.cap), (Value.slice x311.a x311.len x311.cap)]).length = 9 ∧ (Program.underlying Go.Proofs.Tryd.prog 31).isSome = true ∧
 H.wr h86 (Addr.mk r3 0 none) ([(Value.int .i64 x303), (Value.slice x304.a x304.len x304.cap), (Value.slice x305.a x305.len x305.cap), (Value.int .i64 x306), (Value.int .i64 x307), (Value.slice x308.a x308.len x308.cap), (Value.slice x309.a x309.len x309.cap), (Value.slice x310.a x310.len x310.cap), (Value.slice x311.a x311.len x311.cap)]) fun h336 =>
 ∃ x337 : SV, H.rd h336 (Addr.add (Addr.add b302 ((x301).toNat * 1)) 0) (Value.slice x337.a x337.len x337.cap) ∧
 ∃ b338 : Addr, x337.a = some b338 ∧ 0 ≤ ((2 : Int) + ((2 : Int) * p1_p)) ∧ ((2 : Int) + ((2 : Int) * p1_p)) < ((x337.len : Nat) : Int) ∧
 ∃ x339 : Int, H.rd h336 (Addr.add (Addr.add b338 ((((2 : Int) + ((2 : Int) * p1_p))).toNat * 1)) 0) (Value.int .i64 x339) ∧
 ∃ x340 : Int, H.rd h336 (Addr.add (Addr.mk r3 0 none) 0) (Value.int .i64 x340) ∧
 ∃ x341 : SV, H.rd h336 (Addr.add (Addr.mk r3 0 none) 1) (Value.slice x341.a x341.len x341.cap) ∧
 ∃ x342 : SV, H.rd h336 (Addr.add (Addr.mk r3 0 none) 2) (Value.slice x342.a x342.len x342.cap) ∧
 ∃ x343 : Int, H.rd h336 (Addr.add (Addr.mk r3 0 none) 3) (Value.int .i64 x343) ∧
 ∃ x344 : Int, H.rd h336 (Addr.add (Addr.mk r3 0 none) 4) (Value.int .i64 x344) ∧
 ∃ x345 : SV, H.rd h336 (Addr.add (Addr.mk r3 0 none) 5) (Value.slice x345.a x345.len x345.cap) ∧
 ∃ x346 : SV, H.rd h336 (Addr.add (Addr.mk r3 0 none) 6) (Value.slice x346.a x346.len x346.cap) ∧
 ∃ x347 : SV, H.rd h336 (Addr.add (Addr.mk r3 0 none) 7) (Value.slice x347.a x347.len x347.cap) ∧
 ∃ x348 : SV, H.rd h336 (Addr.add (Addr.mk r3 0 none) 8) (Value.slice x348.a x348.len x348.cap) ∧
 VRet h336 (Value.tuple (List.toArray [(Value.agg (List.toArray [(Value.int .i64 x340), (Value.slice x341.a x341.len x341.cap), (Value.slice x342.a x342.len x342.cap), (Value.int .i64 x343), (Value.int .i64 x344), (Value.slice x345.a x345.len x345.cap), (Value.slice x346.a x346.len x346.cap), (Value.slice x347.a x347.len x347.cap), (Value.slice x348.a x348.len x348.cap)])), (Value.bool true), (Value.int .i64 x339), (Value.int .i64 0)])) post)) ∧
 (
 ∃ x349 : SV, H.rd h86 (Addr.add (Addr.add b302 ((x301).toNat * 1)) 0) (Value.slice x349.a x349.len x349.cap) ∧
 ∃ b350 : Addr, x349.a = some b350 ∧ 0 ≤ ((2 : Int) + ((2 : Int) * p1_p)) ∧ ((2 : Int) + ((2 : Int) * p1_p)) < ((x349.len : Nat) : Int) ∧
 (
 ∃ x351 : Int, H.rd h86 (Addr.add (Addr.mk r1 0 none) 0) (Value.int .i64 x351) ∧
 ∃ x352 : SV, H.rd h86 (Addr.add (Addr.mk r1 0 none) 1) (Value.slice x352.a x352.len x352.cap) ∧
 ∃ x353 : SV, H.rd h86 (Addr.add (Addr.mk r1 0 none) 2) (Value.slice x353.a x353.len x353.cap) ∧
 ∃ x354 : Int, H.rd h86 (Addr.add (Addr.mk r1 0 none) 3) (Value.int .i64 x354) ∧
 ∃ x355 : Int, H.rd h86 (Addr.add (Addr.mk r1 0 none) 4) (Value.int .i64 x355) ∧
 ∃ x356 : SV, H.rd h86 (Addr.add (Addr.mk r1 0 none) 5) (Value.slice x356.a x356.len x356.cap) ∧
 ∃ x357 : SV, H.rd h86 (Addr.add (Addr.mk r1 0 none) 6) (Value.slice x357.a x357.len x357.cap) ∧
 ∃ x358 : SV, H.rd h86 (Addr.add (Addr.mk r1 0 none) 7) (Value.slice x358.a x358.len x358.cap) ∧
 ∃ x359 : SV, H.rd h86 (Addr.add (Addr.mk r1 0 none) 8) (Value.slice x359.a x359.len x359.cap) ∧
 (
 ∃ x360 : Int, H.rd h86 (Addr.add (Addr.add b350 ((((2 : Int) + ((2 : Int) * p1_p))).toNat * 1)) 0) (Value.int .i64 x360) ∧
 ([(Value.int .i64 x351), (Value.slice x352.a x352.len x352.cap), (Value.slice x353.a x353.len x353.cap), (Value.int .i64 x354), (Value.int .i64 x355), (Value.slice x356.a x356.len x356.cap), (Value.slice x357.a x357.len x357.cap), (Value.slice x358.a x358.len x358.cap), (Value.slice x359.a x359.len x359.cap)]).length = 9 ∧ (Program.underlying Go.Proofs.Tryd.prog 31).isSome = true ∧
 H.wr h86 (Addr.mk r3 0 none) ([(Value.int .i64 x351), (Value.slice x352.a x352.len x352.cap), (Value.slice x353.a x353.len x353.cap), (Value.int .i64 x354), (Value.int .i64 x355), (Value.slice x356.a x356.len x356.cap), (Value.slice x357.a x357.len x357.cap), (Value.slice x358.a x358.len x358.cap), (Value.slice x359.a x359.len x359.cap)]) fun h361 =>
 ∃ x362 : Int, H.rd h361 (Addr.add (Addr.mk r3 0 none) 0) (Value.int .i64 x362) ∧
 ∃ x363 : SV, H.rd h361 (Addr.add (Addr.mk r3 0 none) 1) (Value.slice x363.a x363.len x363.cap) ∧
 ∃ x364 : SV, H.rd h361 (Addr.add (Addr.mk r3 0 none) 2) (Value.slice x364.a x364.len x364.cap) ∧
 ∃ x365 : Int, H.rd h361 (Addr.add (Addr.mk r3 0 none) 3) (Value.int .i64 x365) ∧
 ∃ x366 : Int, H.rd h361 (Addr.add (Addr.mk r3 0 none) 4) (Value.int .i64 x366) ∧
 ∃ x367 : SV, H.rd h361 (Addr.add (Addr.mk r3 0 none) 5) (Value.slice x367.a x367.len x367.cap) ∧
 ∃ x368 : SV, H.rd h361 (Addr.add (Addr.mk r3 0 none) 6) (Value.slice x368.a x368.len x368.cap) ∧
 ∃ x369 : SV, H.rd h361 (Addr.add (Addr.mk r3 0 none) 7) (Value.slice x369.a x369.len x369.cap) ∧
 ∃ x370 : SV, H.rd h361 (Addr.add (Addr.mk r3 0 none) 8) (Value.slice x370.a x370.len x370.cap) ∧
 VRet h361 (Value.tuple (List.toArray [(Value.agg (List.toArray [(Value.int .i64 x362), (Value.slice x363.a x363.len x363.cap), (Value.slice x364.a x364.len x364.cap), (Value.int .i64 x365), (Value.int .i64 x366), (Value.slice x367.a x367.len x367.cap), (Value.slice x368.a x368.len x368.cap), (Value.slice x369.a x369.len x369.cap), (Value.slice x370.a x370.len x370.cap)])), (Value.bool true), (Value.int .i64 x360), (Value.int .i64 0)])) post) ∧
 (
 ([(Value.int .i64 x351), (Value.slice x352.a x352.len x352.cap), (Value.slice x353.a x353.len x353.cap), (Value.int .i64 x354), (Value.int .i64 x355), (Value.slice x356.a x356.len x356.cap), (Value.slice x357.a x357.len x357.cap), (Value.slice x358.a x358.len x358.cap), (Value.slice x359.a x359.len x359.cap)]).length = 9 ∧ (Program.underlying Go.Proofs.Tryd.prog 31).isSome = true ∧
 H.wr h86 (Addr.mk r3 0 none) ([(Value.int .i64 x351), (Value.slice x352.a x352.len x352.cap), (Value.slice x353.a x353.len x353.cap), (Value.int .i64 x354), (Value.int .i64 x355), (Value.slice x356.a x356.len x356.cap), (Value.slice x357.a x357.len x357.cap), (Value.slice x358.a x358.len x358.cap), (Value.slice x359.a x359.len x359.cap)]) fun h371 =>
 ∃ x372 : Int, H.rd h371 (Addr.add (Addr.add b350 ((((2 : Int) + ((2 : Int) * p1_p))).toNat * 1)) 0) (Value.int .i64 x372) ∧
 ∃ x373 : Int, H.rd h371 (Addr.add (Addr.mk r3 0 none) 0) (Value.int .i64 x373) ∧
 ∃ x374 : SV, H.rd h371 (Addr.add (Addr.mk r3 0 none) 1) (Value.slice x374.a x374.len x374.cap) ∧
 ∃ x375 : SV, H.rd h371 (Addr.add (Addr.mk r3 0 none) 2) (Value.slice x375.a x375.len x375.cap) ∧
 ∃ x376 : Int, H.rd h371 (Addr.add (Addr.mk r3 0 none) 3) (Value.int .i64 x376) ∧
 ∃ x377 : Int, H.rd h371 (Addr.add (Addr.mk r3 0 none) 4) (Value.int .i64 x377) ∧
 ∃ x378 : SV, H.rd h371 (Addr.add (Addr.mk r3 0 none) 5) (Value.slice x378.a x378.len x378.cap) ∧
 ∃ x379 : SV, H.rd h371 (Addr.add (Addr.mk r3 0 none) 6) (Value.slice x379.a x379.len x379.cap) ∧
 ∃ x380 : SV, H.rd h371 (Addr.add (Addr.mk r3 0 none) 7) (Value.slice x380.a x380.len x380.cap) ∧
 ∃ x381 : SV, H.rd h371 (Addr.add (Addr.mk r3 0 none) 8) (Value.slice x381.a x381.len x381.cap) ∧
 VRet h371 (Value.tuple (List.toArray [(Value.agg (List.toArray [(Value.int .i64 x373), (Value.slice x374.a x374.len x374.cap), (Value.slice x375.a x375.len x375.cap), (Value.int .i64 x376), (Value.int .i64 x377), (Value.slice x378.a x378.len x378.cap), (Value.slice x379.a x379.len x379.cap), (Value.slice x380.a x380.len x380.cap), (Value.slice x381.a x381.len x381.cap)])), (Value.bool true), (Value.int .i64 x372), (Value.int .i64 0)])) post)) ∧
 (
 ∃ x382 : Int, H.rd h86 (Addr.add (Addr.add b350 ((((2 : Int) + ((2 : Int) * p1_p))).toNat * 1)) 0) (Value.int .i64 x382) ∧
 ∃ x383 : Int, H.rd h86 (Addr.add (Addr.mk r1 0 none) 0) (Value.int .i64 x383) ∧
 ∃ x384 : SV, H.rd h86 (Addr.add (Addr.mk r1 0 none) 1) (Value.slice x384.a x384.len x384.cap) ∧
 ∃ x385 : SV, H.rd h86 (Addr.add (Addr.mk r1 0 none) 2) (Value.slice x385.a x385.len x385.cap) ∧
 ∃ x386 : Int, H.rd h86 (Addr.add (Addr.mk r1 0 none) 3) (Value.int .i64 x386) ∧
 ∃ x387 : Int, H.rd h86 (Addr.add (Addr.mk r1 0 none) 4) (Value.int .i64 x387) ∧
 ∃ x388 : SV, H.rd h86 (Addr.add (Addr.mk r1 0 none) 5) (Value.slice x388.a x388.len x388.cap) ∧
 ∃ x389 : SV, H.rd h86 (Addr.add (Addr.mk r1 0 none) 6) (Value.slice x389.a x389.len x389.cap) ∧
 ∃ x390 : SV, H.rd h86 (Addr.add (Addr.mk r1 0 none) 7) (Value.slice x390.a x390.len x390.cap) ∧
 ∃ x391 : SV, H.rd h86 (Addr.add (Addr.mk r1 0 none) 8) (Value.slice x391.a x391.len x391.cap) ∧
 ([(Value.int .i64 x383), (Value.slice x384.a x384.len x384.cap), (Value.slice x385.a x385.len x385.cap), (Value.int .i64 x386), (Value.int .i64 x387), (Value.slice x388.a x388.len x388.cap), (Value.slice x389.a x389.len x389.cap), (Value.slice x390.a x390.len x390.cap), (Value.slice x391.a x391.len x391.cap)]).length = 9 ∧ (Program.underlying Go.Proofs.Tryd.prog 31).isSome = true ∧
 H.wr h86 (Addr.mk r3 0 none) ([(Value.int .i64 x383), (Value.slice x384.a x384.len x384.cap), (Value.slice x385.a x385.len x385.cap), (Value.int .i64 x386), (Value.int .i64 x387), (Value.slice x388.a x388.len x388.cap), (Value.slice x389.a x389.len x389.cap), (Value.slice x390.a x390.len x390.cap), (Value.slice x391.a x391.len x391.cap)]) fun h392 =>
 ∃ x393 : Int, H.rd h392 (Addr.add (Addr.mk r3 0 none) 0) (Value.int .i64 x393) ∧
 ∃ x394 : SV, H.rd h392 (Addr.add (Addr.mk r3 0 none) 1) (Value.slice x394.a x394.len x394.cap) ∧
 ∃ x395 : SV, H.rd h392 (Addr.add (Addr.mk r3 0 none) 2) (Value.slice x395.a x395.len x395.cap) ∧
 ∃ x396 : Int, H.rd h392 (Addr.add (Addr.mk r3 0 none) 3) (Value.int .i64 x396) ∧
 ∃ x397 : Int, H.rd h392 (Addr.add (Addr.mk r3 0 none) 4) (Value.int .i64 x397) ∧
 ∃ x398 : SV, H.rd h392 (Addr.add (Addr.mk r3 0 none) 5) (Value.slice x398.a x398.len x398.cap) ∧
 ∃ x399 : SV, H.rd h392 (Addr.add (Addr.mk r3 0 none) 6) (Value.slice x399.a x399.len x399.cap) ∧
 ∃ x400 : SV, H.rd h392 (Addr.add (Addr.mk r3 0 none) 7) (Value.slice x400.a x400.len x400.cap) ∧
 ∃ x401 : SV, H.rd h392 (Addr.add (Addr.mk r3 0 none) 8) (Value.slice x401.a x401.len x401.cap) ∧
 VRet h392 (Value.tuple (List.toArray [(Value.agg (List.toArray [(Value.int .i64 x393), (Value.slice x394.a x394.len x394.cap), (Value.slice x395.a x395.len x395.cap), (Value.int .i64 x396), (Value.int .i64 x397), (Value.slice x398.a x398.len x398.cap), (Value.slice x399.a x399.len x399.cap), (Value.slice x400.a x400.len x400.cap), (Value.slice x401.a x401.len x401.cap)])), (Value.bool true), (Value.int .i64 x382), (Value.int .i64 0)])) post)))) ∧
 (
 ∃ x402 : Int, H.rd h86 (Addr.add (Addr.add (Addr.mk r1 0 none) 3) 0) (Value.int .i64 x402) ∧
 (
 ∃ x403 : Int, H.rd h86 (Addr.add (Addr.mk r1 0 none) 0) (Value.int .i64 x403) ∧
 ∃ x404 : SV, H.rd h86 (Addr.add (Addr.mk r1 0 none) 1) (Value.slice x404.a x404.len x404.cap) ∧
 ∃ x405 : SV, H.rd h86 (Addr.add (Addr.mk r1 0 none) 2) (Value.slice x405.a x405.len x405.cap) ∧
 ∃ x406 : Int, H.rd h86 (Addr.add (Addr.mk r1 0 none) 3) (Value.int .i64 x406) ∧
 ∃ x407 : Int, H.rd h86 (Addr.add (Addr.mk r1 0 none) 4) (Value.int .i64 x407) ∧
 ∃ x408 : SV, H.rd h86 (Addr.add (Addr.mk r1 0 none) 5) (Value.slice x408.a x408.len x408.cap) ∧
 ∃ x409 : SV, H.rd h86 (Addr.add (Addr.mk r1 0 none) 6) (Value.slice x409.a x409.len x409.cap) ∧
 ∃ x410 : SV, H.rd h86 (Addr.add (Addr.mk r1 0 none) 7) (Value.slice x410.a x410.len x410.cap) ∧
 ∃ x411 : SV, H.rd h86 (Addr.add (Addr.mk r1 0 none) 8) (Value.slice x411.a x411.len x411.cap) ∧
 (
 ∃ x412 : SV, H.rd h86 (Addr.add (Addr.add (Addr.mk r1 0 none) 1) 0) (Value.slice x412.a x412.len x412.cap) ∧
 ∃ b413 : Addr, x412.a = some b413 ∧ 0 ≤ x402 ∧ x402 < ((x412.len : Nat) : Int) ∧
 (
 ∃ x414 : SV, H.rd h86 (Addr.add (Addr.add b413 ((x402).toNat * 1)) 0) (Value.slice x414.a x414.len x414.cap) ∧
 ∃ b415 : Addr, x414.a = some b415 ∧ 0 ≤ ((2 : Int) + ((2 : Int) * p1_p)) ∧ ((2 : Int) + ((2 : Int) * p1_p)) < ((x414.len : Nat) : Int) ∧
 (
 ∃ x416 : Int, H.rd h86 (Addr.add (Addr.add b415 ((((2 : Int) + ((2 : Int) * p1_p))).toNat * 1)) 0) (Value.int .i64 x416) ∧
 ([(Value.int .i64 x403), (Value.slice x404.a x404.len x404.cap), (Value.slice x405.a x405.len x405.cap), (Value.int .i64 x406), (Value.int .i64 x407), (Value.slice x408.a x408.len x408.cap), (Value.slice x409.a x409.len x409.cap), (Value.slice x410.a x410.len x410.cap), (Value.slice x411.a x411.len x411.cap)]).length = 9 ∧ (Program.underlying Go.Proofs.Tryd.prog 31).isSome = true ∧
 H.wr h86 (Addr.mk r3 0 none) ([(Value.int .i64 x403), (Value.slice x404.a x404.len x404.cap), (Value.slice x405.a x405.len x405.cap), (Value.int .i64 x406), (Value.int .i64 x407), (Value.slice x408.a x408.len x408.cap), (Value.slice x409.a x409.len x409.cap), (Value.slice x410.a x410.len x410.cap), (Value.slice x411.a x411.len x411.cap)]) fun h417 =>
 ∃ x418 : Int, H.rd h417 (Addr.add (Addr.mk r3 0 none) 0) (Value.int .i64 x418) ∧
 ∃ x419 : SV, H.rd h417 (Addr.add (Addr.mk r3 0 none) 1) (Value.slice x419.a x419.len x419.cap) ∧
 ∃ x420 : SV, H.rd h417 (Addr.add (Addr.mk r3 0 none) 2) (Value.slice x420.a x420.len x420.cap) ∧
 ∃ x421 : Int, H.rd h417 (Addr.add (Addr.mk r3 0 none) 3) (Value.int .i64 x421) ∧
 ∃ x422 : Int, H.rd h417 (Addr.add (Addr.mk r3 0 none) 4) (Value.int .i64 x422) ∧
 ∃ x423 : SV, H.rd h417 (Addr.add (Addr.mk r3 0 none) 5) (Value.slice x423.a x423.len x423.cap) ∧
 ∃ x424 : SV, H.rd h417 (Addr.add (Addr.mk r3 0 none) 6) (Value.slice x424.a x424.len x424.cap) ∧
 ∃ x425 : SV, H.rd h417 (Addr.add (Addr.mk r3 0 none) 7) (Value.slice x425.a x425.len x425.cap) ∧
 ∃ x426 : SV, H.rd h417 (Addr.add (Addr.mk r3 0 none) 8) (Value.slice x426.a x426.len x426.cap) ∧
 VRet h417 (Value.tuple (List.toArray [(Value.agg (List.toArray [(Value.int .i64 x418), (Value.slice x419.a x419.len x419.cap), (Value.slice x420.a x420.len x420.cap), (Value.int .i64 x421), (Value.int .i64 x422), (Value.slice x423.a x423.len x423.cap), (Value.slice x424.a x424.len x424.cap), (Value.slice x425.a x425.len x425.cap), (Value.slice x426.a x426.len x426.cap)])), (Value.bool true), (Value.int .i64 x416), (Value.int .i64 0)])) post) ∧
 (
 ([(Value.int .i64 x403), (Value.slice x404.a x404.len x404.cap), (Value.slice x405.a x405.len x405.cap), (Value.int .i64 x406), (Value.int .i64 x407), (Value.slice x408.a x408.len x408.cap), (Value.slice x409.a x409.len x409.cap), (Value.slice x410.a x410.len x410.cap), (Value.slice x411.a x411.len x411.cap)]).length = 9 ∧ (Program.underlying Go.Proofs.Tryd.prog 31).isSome = true ∧
 H.wr h86 (Addr.mk r3 0 none) ([(Value.int .i64 x403), (Value.slice x404.a x404.len x404.cap), (Value.slice x405.a x405.len x405.cap), (Value.int .i64 x406), (Value.int .i64 x407), (Value.slice x408.a x408.len x408.cap), (Value.slice x409.a x409.len x409.cap), (Value.slice x410.a x410.len x410.cap), (Value.slice x411.a x411.len x411.cap)]) fun h427 =>
 ∃ x428 : Int, H.rd h427 (Addr.add (Addr.add b415 ((((2 : Int) + ((2 : Int) * p1_p))).toNat * 1)) 0) (Value.int .i64 x428) ∧
 ∃ x429 : Int, H.rd h427 (Addr.add (Addr.mk r3 0 none) 0) (Value.int .i64 x429) ∧
 ∃ x430 : SV, H.rd h427 (Addr.add (Addr.mk r3 0 none) 1) (Value.slice x430.a x430.len x430.cap) ∧
 ∃ x431 : SV, H.rd h427 (Addr.add (Addr.mk r3 0 none) 2) (Value.slice x431.a x431.len x431.cap) ∧
 ∃ x432 : Int, H.rd h427 (Addr.add (Addr.mk r3 0 none) 3) (Value.int .i64 x432) ∧
 ∃ x433 : Int, H.rd h427 (Addr.add (Addr.mk r3 0 none) 4) (Value.int .i64 x433) ∧
 ∃ x434 : SV, H.rd h427 (Addr.add (Addr.mk r3 0 none) 5) (Value.slice x434.a x434.len x434.cap) ∧
 ∃ x435 : SV, H.rd h427 (Addr.add (Addr.mk r3 0 none) 6) (Value.slice x435.a x435.len x435.cap) ∧
 ∃ x436 : SV, H.rd h427 (Addr.add (Addr.mk r3 0 none) 7) (Value.slice x436.a x436.len x436.cap) ∧
 ∃ x437 : SV, H.rd h427 (Addr.add (Addr.mk r3 0 none) 8) (Value.slice x437.a x437.len x437.cap) ∧
 VRet h427 (Value.tuple (List.toArray [(Value.agg (List.toArray [(Value.int .i64 x429), (Value.slice x430.a x430.len x430.cap), (Value.slice x431.a x431.len x431.cap), (Value.int .i64 x432), (Value.int .i64 x433), (Value.slice x434.a x434.len x434.cap), (Value.slice x435.a x435.len x435.cap), (Value.slice x436.a x436.len x436.cap), (Value.slice x437.a x437.len x437.cap)])), (Value.bool true), (Value.int .i64 x428), (Value.int .i64 0)])) post)) ∧
 (
 ([(Value.int .i64 x403), (Value.slice x404.a x404.len x404.cap), (Value.slice x405.a x405.len x405.cap), (Value.int .i64 x406), (Value.int .i64 x407), (Value.slice x408.a x408.len x408.cap), (Value.slice x409.a x409.len x409.cap), (Value.slice x410.a x410.len x410.cap), (Value.slice x411.a x411.len x411.cap)]).length = 9 ∧ (Program.underlying Go.Proofs.Tryd.prog 31).isSome = true ∧
 H.wr h86 (Addr.mk r3 0 none) ([(Value.int .i64 x403), (Value.slice x404.a x404.len x404.cap), (Value.slice x405.a x405.len x405.cap), (Value.int .i64 x406), (Value.int .i64 x407), (Value.slice x408.a x408.len x408.cap), (Value.slice x409.a x409.len x409.cap), (Value.slice x410.a x410.len x410.cap), (Value.slice x411.a x411.len x411.cap)]) fun h438 =>
 ∃ x439 : SV, H.rd h438 (Addr.add (Addr.add b413 ((x402).toNat * 1)) 0) (Value.slice x439.a x439.len x439.cap) ∧
 ∃ b440 : Addr, x439.a = some b440 ∧ 0 ≤ ((2 : Int) + ((2 : Int) * p1_p)) ∧ ((2 : Int) + ((2 : Int) * p1_p)) < ((x439.len : Nat) : Int) ∧
 ∃ x441 : Int, H.rd h438 (Addr.add (Addr.add b440 ((((2 : Int) + ((2 : Int) * p1_p))).toNat * 1)) 0) (Value.int .i64 x441) ∧
 ∃ x442 : Int, H.rd h438 (Addr.add (Addr.mk r3 0 none) 0) (Value.int .i64 x442) ∧
 ∃ x443 : SV, H.rd h438 (Addr.add (Addr.mk r3 0 none) 1) (Value.slice x443.a x443.len x443.cap) ∧
 ∃ x444 : SV, H.rd h438 (Addr.add (Addr.mk r3 0 none) 2) (Value.slice x444.a x444.len x444.cap) ∧
 ∃ x445 : Int, H.rd h438 (Addr.add (Addr.mk r3 0 none) 3) (Value.int .i64 x445) ∧
 ∃ x446 : Int, H.rd h438 (Addr.add (Addr.mk r3 0 none) 4) (Value.int .i64 x446) ∧
 ∃ x447 : SV, H.rd h438 (Addr.add (Addr.mk r3 0 none) 5) (Value.slice x447.a x447.len x447.cap) ∧
 ∃ x448 : SV, H.rd h438 (Addr.add (Addr.mk r3 0 none) 6) (Value.slice x448.a x448.len x448.cap) ∧
 ∃ x449 : SV, H.rd h438 (Addr.add (Addr.mk r3 0 none) 7) (Value.slice x449.a x449.len x449.cap) ∧
 ∃ x450 : SV, H.rd h438 (Addr.add (Addr.mk r3 0 none) 8) (Value.slice x450.a x450.len x450.cap) ∧
 VRet h438 (Value.tuple (List.toArray [(Value.agg (List.toArray [(Value.int .i64 x442), (Value.slice x443.a x443.len x443.cap), (Value.slice x444.a x444.len x444.cap), (Value.int .i64 x445), (Value.int .i64 x446), (Value.slice x447.a x447.len x447.cap), (Value.slice x448.a x448.len x448.cap), (Value.slice x449.a x449.len x449.cap), (Value.slice x450.a x450.len x450.cap)])), (Value.bool true), (Value.int .i64 x441), (Value.int .i64 0)])) post)) ∧
 (
 ([(Value.int .i64 x403), (Value.slice x404.a x404.len x404.cap), (Value.slice x405.a x405.len x405.cap), (Value.int .i64 x406), (Value.int .i64 x407), (Value.slice x408.a x408.len x408.cap), (Value.slice x409.a x409.len x409.cap), (Value.slice x410.a x410.len x410.cap), (Value.slice x411.a x411.len x411.cap)]).length = 9 ∧ (Program.underlying Go.Proofs.Tryd.prog 31).isSome = true ∧
 H.wr h86 (Addr.mk r3 0 none) ([(Value.int .i64 x403), (Value.slice x404.a x404.len x404.cap), (Value.slice x405.a x405.len x405.cap), (Value.int .i64 x406), (Value.int .i64 x407), (Value.slice x408.a x408.len x408.cap), (Value.slice x409.a x409.len x409.cap), (Value.slice x410.a x410.len x410.cap), (Value.slice x411.a x411.len x411.cap)]) fun h451 =>
 ∃ x452 : SV, H.rd h451 (Addr.add (Addr.add (Addr.mk r1 0 none) 1) 0) (Value.slice x452.a x452.len x452.cap) ∧
 ∃ b453 : Addr, x452.a = some b453 ∧ 0 ≤ x402 ∧ x402 < ((x452.len : Nat) : Int) ∧
 ∃ x454 : SV, H.rd h451 (Addr.add (Addr.add b453 ((x402).toNat * 1)) 0) (Value.slice x454.a x454.len x454.cap) ∧
 ∃ b455 : Addr, x454.a = some b455 ∧ 0 ≤ ((2 : Int) + ((2 : Int) * p1_p)) ∧ ((2 : Int) + ((2 : Int) * p1_p)) < ((x454.len : Nat) : Int) ∧
 ∃ x456 : Int, H.rd h451 (Addr.add (Addr.add b455 ((((2 : Int) + ((2 : Int) * p1_p))).toNat * 1)) 0) (Value.int .i64 x456) ∧
 ∃ x457 : Int, H.rd h451 (Addr.add (Addr.mk r3 0 none) 0) (Value.int .i64 x457) ∧
 ∃ x458 : SV, H.rd h451 (Addr.add (Addr.mk r3 0 none) 1) (Value.slice x458.a x458.len x458.cap) ∧
 ∃ x459 : SV, H.rd h451 (Addr.add (Addr.mk r3 0 none) 2) (Value.slice x459.a x459.len x459.cap) ∧
 ∃ x460 : Int, H.rd h451 (Addr.add (Addr.mk r3 0 none) 3) (Value.int .i64 x460) ∧
 ∃ x461 : Int, H.rd h451 (Addr.add (Addr.mk r3 0 none) 4) (Value.int .i64 x461) ∧
 ∃ x462 : SV, H.rd h451 (Addr.add (Addr.mk r3 0 none) 5) (Value.slice x462.a x462.len x462.cap) ∧
 ∃ x463 : SV, H.rd h451 (Addr.add (Addr.mk r3 0 none) 6) (Value.slice x463.a x463.len x463.cap) ∧
 ∃ x464 : SV, H.rd h451 (Addr.add (Addr.mk r3 0 none) 7) (Value.slice x464.a x464.len x464.cap) ∧
 ∃ x465 : SV, H.rd h451 (Addr.add (Addr.mk r3 0 none) 8) (Value.slice x465.a x465.len x465.cap) ∧
 VRet h451 (Value.tuple (List.toArray [(Value.agg (List.toArray [(Value.int .i64 x457), (Value.slice x458.a x458.len x458.cap), (Value.slice x459.a x459.len x459.cap), (Value.int .i64 x460), (Value.int .i64 x461), (Value.slice x462.a x462.len x462.cap), (Value.slice x463.a x463.len x463.cap), (Value.slice x464.a x464.len x464.cap), (Value.slice x465.a x465.len x465.cap)])), (Value.bool true), (Value.int .i64 x456), (Value.int .i64 0)])) post)) ∧
 (
 ∃ x466 : SV, H.rd h86 (Addr.add (Addr.add (Addr.mk r1 0 none) 1) 0) (Value.slice x466.a x466.len x466.cap) ∧
 ∃ b467 : Addr, x466.a = some b467 ∧ 0 ≤ x402 ∧ x402 < ((x466.len : Nat) : Int) ∧
 (
 ∃ x468 : Int, H.rd h86 (Addr.add (Addr.mk r1 0 none) 0) (Value.int .i64 x468) ∧
 ∃ x469 : SV, H.rd h86 (Addr.add (Addr.mk r1 0 none) 1) (Value.slice x469.a x469.len x469.cap) ∧
 ∃ x470 : SV, H.rd h86 (Addr.add (Addr.mk r1 0 none) 2) (Value.slice x470.a x470.len x470.cap) ∧
 ∃ x471 : Int, H.rd h86 (Addr.add (Addr.mk r1 0 none) 3) (Value.int .i64 x471) ∧
 ∃ x472 : Int, H.rd h86 (Addr.add (Addr.mk r1 0 none) 4) (Value.int .i64 x472) ∧
 ∃ x473 : SV, H.rd h86 (Addr.add (Addr.mk r1 0 none) 5) (Value.slice x473.a x473.len x473.cap) ∧
 ∃ x474 : SV, H.rd h86 (Addr.add (Addr.mk r1 0 none) 6) (Value.slice x474.a x474.len x474.cap) ∧
 ∃ x475 : SV, H.rd h86 (Addr.add (Addr.mk r1 0 none) 7) (Value.slice x475.a x475.len x475.cap) ∧
 ∃ x476 : SV, H.rd h86 (Addr.add (Addr.mk r1 0 none) 8) (Value.slice x476.a x476.len x476.cap) ∧
 (
 ∃ x477 : SV, H.rd h86 (Addr.add (Addr.add b467 ((x402).toNat * 1)) 0) (Value.slice x477.a x477.len x477.cap) ∧
 ∃ b478 : Addr, x477.a = some b478 ∧ 0 ≤ ((2 : Int) + ((2 : Int) * p1_p)) ∧ ((2 : Int) + ((2 : Int) * p1_p)) < ((x477.len : Nat) : Int) ∧
 (
 ∃ x479 : Int, H.rd h86 (Addr.add (Addr.add b478 ((((2 : Int) + ((2 : Int) * p1_p))).toNat * 1)) 0) (Value.int .i64 x479) ∧
 ([(Value.int .i64 x468), (Value.slice x469.a x469.len x469.cap), (Value.slice x470.a x470.len x470.cap), (Value.int .i64 x471), (Value.int .i64 x472), (Value.slice x473.a x473.len x473.cap), (Value.slice x474.a x474.len x474.cap), (Value.slice x475.a x475.len x475.cap), (Value.slice x476.a x476.len x476.cap)]).length = 9 ∧ (Program.underlying Go.Proofs.Tryd.prog 31).isSome = true ∧
 H.wr h86 (Addr.mk r3 0 none) ([(Value.int .i64 x468), (Value.slice x469.a x469.len x469.cap), (Value.slice x470.a x470.len x470.cap), (Value.int .i64 x471), (Value.int .i64 x472), (Value.slice x473.a x473.len x473.cap), (Value.slice x474.a x474.len x474.cap), (Value.slice x475.a x475.len x475.cap), (Value.slice x476.a x476.len x476.cap)]) fun h480 =>
 ∃ x481 : Int, H.rd h480 (Addr.add (Addr.mk r3 0 none) 0) (Value.int .i64 x481) ∧
 ∃ x482 : SV, H.rd h480 (Addr.add (Addr.mk r3 0 none) 1) (Value.slice x482.a x482.len x482.cap) ∧
 ∃ x483 : SV, H.rd h480 (Addr.add (Addr.mk r3 0 none) 2) (Value.slice x483.a x483.len x483.cap) ∧
 ∃ x484 : Int, H.rd h480 (Addr.add (Addr.mk r3 0 none) 3) (Value.int .i64 x484) ∧
 ∃ x485 : Int, H.rd h480 (Addr.add (Addr.mk r3 0 none) 4) (Value.int .i64 x485) ∧
 ∃ x486 : SV, H.rd h480 (Addr.add (Addr.mk r3 0 none) 5) (Value.slice x486.a x486.len x486.cap) ∧
 ∃ x487 : SV, H.rd h480 (Addr.add (Addr.mk r3 0 none) 6) (Value.slice x487.a x487.len x487.cap) ∧
 ∃ x488 : SV, H.rd h480 (Addr.add (Addr.mk r3 0 none) 7) (Value.slice x488.a x488.len x488.cap) ∧
 ∃ x489 : SV, H.rd h480 (Addr.add (Addr.mk r3 0 none) 8) (Value.slice x489.a x489.len x489.cap) ∧
 VRet h480 (Value.tuple (List.toArray [(Value.agg (List.toArray [(Value.int .i64 x481), (Value.slice x482.a x482.len x482.cap), (Value.slice x483.a x483.len x483.cap), (Value.int .i64 x484), (Value.int .i64 x485), (Value.slice x486.a x486.len x486.cap), (Value.slice x487.a x487.len x487.cap), (Value.slice x488.a x488.len x488.cap), (Value.slice x489.a x489.len x489.cap)])), (Value.bool true), (Value.int .i64 x479), (Value.int .i64 0)])) post) ∧
 (
 ([(Value.int .i64 x468), (Value.slice x469.a x469.len x469.cap), (Value.slice x470.a x470.len x470.cap), (Value.int .i64 x471), (Value.int .i64 x472), (Value.slice x473.a x473.len x473.cap), (Value.slice x474.a x474.len x474.cap), (Value.slice x475.a x475.len x475.cap), (Value.slice x476.a x476.len x476.cap)]).length = 9 ∧ (Program.underlying Go.Proofs.Tryd.prog 31).isSome = true ∧
 H.wr h86 (Addr.mk r3 0 none) ([(Value.int .i64 x468), (Value.slice x469.a x469.len x469.cap), (Value.slice x470.a x470.len x470.cap), (Value.int .i64 x471), (Value.int .i64 x472), (Value.slice x473.a x473.len x473.cap), (Value.slice x474.a x474.len x474.cap), (Value.slice x475.a x475.len x475.cap), (Value.slice x476.a x476.len x476.cap)]) fun h490 =>
 ∃ x491 : Int, H.rd h490 (Addr.add (Addr.add b478 ((((2 : Int) + ((2 : Int) * p1_p))).toNat * 1)) 0) (Value.int .i64 x491) ∧
 ∃ x492 : Int, H.rd h490 (Addr.add (Addr.mk r3 0 none) 0) (Value.int .i64 x492) ∧
 ∃ x493 : SV, H.rd h490 (Addr.add (Addr.mk r3 0 none) 1) (Value.slice x493.a x493.len x493.cap) ∧
 ∃ x494 : SV, H.rd h490 (Addr.add (Addr.mk r3 0 none) 2) (Value.slice x494.a x494.len x494.cap) ∧
 ∃ x495 : Int, H.rd h490 (Addr.add (Addr.mk r3 0 none) 3) (Value.int .i64 x495) ∧
 ∃ x496 : Int, H.rd h490 (Addr.add (Addr.mk r3 0 none) 4) (Value.int .i64 x496) ∧
 ∃ x497 : SV, H.rd h490 (Addr.add (Addr.mk r3 0 none) 5) (Value.slice x497.a x497.len x497.cap) ∧
 ∃ x498 : SV, H.rd h490 (Addr.add (Addr.mk r3 0 none) 6) (Value.slice x498.a x498.len x498.cap) ∧
 ∃ x499 : SV, H.rd h490 (Addr.add (Addr.mk r3 0 none) 7) (Value.slice x499.a x499.len x499.cap) ∧
 ∃ x500 : SV, H.rd h490 (Addr.add (Addr.mk r3 0 none) 8) (Value.slice x500.a x500.len x500.cap) ∧
 VRet h490 (Value.tuple (List.toArray [(Value.agg (List.toArray [(Value.int .i64 x492), (Value.slice x493.a x493.len x493.cap), (Value.slice x494.a x494.len x494.cap), (Value.int .i64 x495), (Value.int .i64 x496), (Value.slice x497.a x497.len x497.cap), (Value.slice x498.a x498.len x498.cap), (Value.slice x499.a x499.len x499.cap), (Value.slice x500.a x500.len x500.cap)])), (Value.bool true), (Value.int .i64 x491), (Value.int .i64 0)])) post)) ∧
 (
 ([(Value.int .i64 x468), (Value.slice x469.a x469.len x469.cap), (Value.slice x470.a x470.len x470.cap), (Value.int .i64 x471), (Value.int .i64 x472), (Value.slice x473.a x473.len x473.cap), (Value.slice x474.a x474.len x474.cap), (Value.slice x475.a x475.len x475.cap), (Value.slice x476.a x476.len x476.cap)]).length = 9 ∧ (Program.underlying Go.Proofs.Tryd.prog 31).isSome = true ∧
 H.wr h86 (Addr.mk r3 0 none) ([(Value.int .i64 x468), (Value.slice x469.a x469.len x469.cap), (Value.slice x470.a x470.len x470.cap), (Value.int .i64 x471), (Value.int .i64 x472), (Value.slice x473.a x473.len x473.cap), (Value.slice x474.a x474.len x474.cap), (Value.slice x475.a x475.len x475.cap), (Value.slice x476.a x476.len x476.cap)]) fun h501 =>
 ∃ x502 : SV, H.rd h501 (Addr.add (Addr.add b467 ((x402).toNat * 1)) 0) (Value.slice x502.a x502.len x502.cap) ∧
 ∃ b503 : Addr, x502.a = some b503 ∧ 0 ≤ ((2 : Int) + ((2 : Int) * p1_p)) ∧ ((2 : Int) + ((2 : Int) * p1_p)) < ((x502.len : Nat) : Int) ∧
 ∃ x504 : Int, H.rd h501 (Addr.add (Addr.add b503 ((((2 : Int) + ((2 : Int) * p1_p))).toNat * 1)) 0) (Value.int .i64 x504) ∧
 ∃ x505 : Int, H.rd h501 (Addr.add (Addr.mk r3 0 none) 0) (Value.int .i64 x505) ∧
 ∃ x506 : SV, H.rd h501 (Addr.add (Addr.mk r3 0 none) 1) (Value.slice x506.a x506.len x506.cap) ∧
 ∃ x507 : SV, H.rd h501 (Addr.add (Addr.mk r3 0 none) 2) (Value.slice x507.a x507.len x507.cap) ∧
 ∃ x508 : Int, H.rd h501 (Addr.add (Addr.mk r3 0 none) 3) (Value.int .i64 x508) ∧
 ∃ x509 : Int, H.rd h501 (Addr.add (Addr.mk r3 0 none) 4) (Value.int .i64 x509) ∧
 ∃ x510 : SV, H.rd h501 (Addr.add (Addr.mk r3 0 none) 5) (Value.slice x510.a x510.len x510.cap) ∧
 ∃ x511 : SV, H.rd h501 (Addr.add (Addr.mk r3 0 none) 6) (Value.slice x511.a x511.len x511.cap) ∧
 ∃ x512 : SV, H.rd h501 (Addr.add (Addr.mk r3 0 none) 7) (Value.slice x512.a x512.len x512.cap) ∧
 ∃ x513 : SV, H.rd h501 (Addr.add (Addr.mk r3 0 none) 8) (Value.slice x513.a x513.len x513.cap) ∧
 VRet h501 (Value.tuple (List.toArray [(Value.agg (List.toArray [(Value.int .i64 x505), (Value.slice x506.a x506.len x506.cap), (Value.slice x507.a x507.len x507.cap), (Value.int .i64 x508), (Value.int .i64 x509), (Value.slice x510.a x510.len x510.cap), (Value.slice x511.a x511.len x511.cap), (Value.slice x512.a x512.len x512.cap), (Value.slice x513.a x513.len x513.cap)])), (Value.bool true), (Value.int .i64 x504), (Value.int .i64 0)])) post)) ∧
 (
 ∃ x514 : SV, H.rd h86 (Addr.add (Addr.add b467 ((x402).toNat * 1)) 0) (Value.slice x514.a x514.len x514.cap) ∧
 ∃ b515 : Addr, x514.a = some b515 ∧ 0 ≤ ((2 : Int) + ((2 : Int) * p1_p)) ∧ ((2 : Int) + ((2 : Int) * p1_p)) < ((x514.len : Nat) : Int) ∧
 (
 ∃ x516 : Int, H.rd h86 (Addr.add (Addr.mk r1 0 none) 0) (Value.int .i64 x516) ∧
 ∃ x517 : SV, H.rd h86 (Addr.add (Addr.mk r1 0 none) 1) (Value.slice x517.a x517.len x517.cap) ∧
 ∃ x518 : SV, H.rd h86 (Addr.add (Addr.mk r1 0 none) 2) (Value.slice x518.a x518.len x518.cap) ∧
 ∃ x519 : Int, H.rd h86 (Addr.add (Addr.mk r1 0 none) 3) (Value.int .i64 x519) ∧
 ∃ x520 : Int, H.rd h86 (Addr.add (Addr.mk r1 0 none) 4) (Value.int .i64 x520) ∧
 ∃ x521 : SV, H.rd h86 (Addr.add (Addr.mk r1 0 none) 5) (Value.slice x521.a x521.len x521.cap) ∧
 ∃ x522 : SV, H.rd h86 (Addr.add (Addr.mk r1 0 none) 6) (Value.slice x522.a x522.len x522.cap) ∧
 ∃ x523 : SV, H.rd h86 (Addr.add (Addr.mk r1 0 none) 7) (Value.slice x523.a x523.len x523.cap) ∧
 ∃ x524 : SV, H.rd h86 (Addr.add (Addr.mk r1 0 none) 8) (Value.slice x524.a x524.len x524.cap) ∧
 (
 ∃ x525 : Int, H.rd h86 (Addr.add (Addr.add b515 ((((2 : Int) + ((2 : Int) * p1_p))).toNat * 1)) 0) (Value.int .i64 x525) ∧
 ([(Value.int .i64 x516), (Value.slice x517.a x517.len x517.cap), (Value.slice x518.a x518.len x518.cap), (Value.int .i64 x519), (Value.int .i64 x520), (Value.slice x521.a x521.len x521.cap), (Value.slice x522.a x522.len x522.cap), (Value.slice x523.a x523.len x523.cap), (Value.slice x524.a x524.len x524.cap)]).length = 9 ∧ (Program.underlying Go.Proofs.Tryd.prog 31).isSome = true ∧
 H.wr h86 (Addr.mk r3 0 none) ([(Value.int .i64 x516), (Value.slice x517.a x517.len x517.cap), (Value.slice x518.a x518.len x518.cap), (Value.int .i64 x519), (Value.int .i64 x520), (Value.slice x521.a x521.len x521.cap), (Value.slice x522.a x522.len x522.cap), (Value.slice x523.a x523.len x523.cap), (Value.slice x524.a x524.len x524.cap)]) fun h526 =>
 ∃ x527 : Int, H.rd h526 (Addr.add (Addr.mk r3 0 none) 0) (Value.int .i64 x527) ∧
 ∃ x528 : SV, H.rd h526 (Addr.add (Addr.mk r3 0 none) 1) (Value.slice x528.a x528.len x528.cap) ∧
 ∃ x529 : SV, H.rd h526 (Addr.add (Addr.mk r3 0 none) 2) (Value.slice x529.a x529.len x529.cap) ∧
 ∃ x530 : Int, H.rd h526 (Addr.add (Addr.mk r3 0 none) 3) (Value.int .i64 x530) ∧
 ∃ x531 : Int, H.rd h526 (Addr.add (Addr.mk r3 0 none) 4) (Value.int .i64 x531) ∧
 ∃ x532 : SV, H.rd h526 (Addr.add (Addr.mk r3 0 none) 5) (Value.slice x532.a x532.len x532.cap) ∧
 ∃ x533 : SV, H.rd h526 (Addr.add (Addr.mk r3 0 none) 6) (Value.slice x533.a x533.len x533.cap) ∧
 ∃ x534 : SV, H.rd h526 (Addr.add (Addr.mk r3 0 none) 7) (Value.slice x534.a x534.len x534.cap) ∧
 ∃ x535 : SV, H.rd h526 (Addr.add (Addr.mk r3 0 none) 8) (Value.slice x535.a x535.len x535.cap) ∧
 VRet h526 (Value.tuple (List.toArray [(Value.agg (List.toArray [(Value.int .i64 x527), (Value.slice x528.a x528.len x528.cap), (Value.slice x529.a x529.len x529.cap), (Value.int .i64 x530), (Value.int .i64 x531), (Value.slice x532.a x532.len x532.cap), (Value.slice x533.a x533.len x533.cap), (Value.slice x534.a x534.len x534.cap), (Value.slice x535.a x535.len x535.cap)])), (Value.bool true), (Value.int .i64 x525), (Value.int .i64 0)])) post) ∧
 (
 ([(Value.int .i64 x516), (Value.slice x517.a x517.len x517.cap), (Value.slice x518.a x518.len x518.cap), (Value.int .i64 x519), (Value.int .i64 x520), (Value.slice x521.a x521.len x521.cap), (Value.slice x522.a x522.len x522.cap), (Value.slice x523.a x523.len x523.cap), (Value.slice x524.a x524.len x524.cap)]).length = 9 ∧ (Program.underlying Go.Proofs.Tryd.prog 31).isSome = true ∧
 H.wr h86 (Addr.mk r3 0 none) ([(Value.int .i64 x516), (Value.slice x517.a x517.len x517.cap), (Value.slice x518.a x518.len x518.cap), (Value.int .i64 x519), (Value.int .i64 x520), (Value.slice x521.a x521.len x521.cap), (Value.slice x522.a x522.len x522.cap), (Value.slice x523.a x523.len x523.cap), (Value.slice x524.a x524.len x524.cap)]) fun h536 =>
 ∃ x537 : Int, H.rd h536 (Addr.add (Addr.add b515 ((((2 : Int) + ((2 : Int) * p1_p))).toNat * 1)) 0) (Value.int .i64 x537) ∧
 ∃ x538 : Int, H.rd h536 (Addr.add (Addr.mk r3 0 none) 0) (Value.int .i64 x538) ∧
 ∃ x539 : SV, H.rd h536 (Addr.add (Addr.mk r3 0 none) 1) (Value.slice x539.a x539.len x539.cap) ∧
 ∃ x540 : SV, H.rd h536 (Addr.add (Addr.mk r3 0 none) 2) (Value.slice x540.a x540.len x540.cap) ∧
 ∃ x541 : Int, H.rd h536 (Addr.add (Addr.mk r3 0 none) 3) (Value.int .i64 x541) ∧
 ∃ x542 : Int, H.rd h536 (Addr.add (Addr.mk r3 0 none) 4) (Value.int .i64 x542) ∧
 ∃ x543 : SV, H.rd h536 (Addr.add (Addr.mk r3 0 none) 5) (Value.slice x543.a x543.len x543.cap) ∧
 ∃ x544 : SV, H.rd h536 (Addr.add (Addr.mk r3 0 none) 6) (Value.slice x544.a x544.len x544.cap) ∧
 ∃ x545 : SV, H.rd h536 (Addr.add (Addr.mk r3 0 none) 7) (Value.slice x545.a x545.len x545.cap) ∧
 ∃ x546 : SV, H.rd h536 (Addr.add (Addr.mk r3 0 none) 8) (Value.slice x546.a x546.len x546.cap) ∧
 VRet h536 (Value.tuple (List.toArray [(Value.agg (List.toArray [(Value.int .i64 x538), (Value.slice x539.a x539.len x539.cap), (Value.slice x540.a x540.len x540.cap), (Value.int .i64 x541), (Value.int .i64 x542), (Value.slice x543.a x543.len x543.cap), (Value.slice x544.a x544.len x544.cap), (Value.slice x545.a x545.len x545.cap), (Value.slice x546.a x546.len x546.cap)])), (Value.bool true), (Value.int .i64 x537), (Value.int .i64 0)])) post)) ∧
 (
 ∃ x547 : Int, H.rd h86 (Addr.add (Addr.add b515 ((((2 : Int) + ((2 : Int) * p1_p))).toNat * 1)) 0) (Value.int .i64 x547) ∧
 ∃ x548 : Int, H.rd h86 (Addr.add (Addr.mk r1 0 none) 0) (Value.int .i64 x548) ∧
 ∃ x549 : SV, H.rd h86 (Addr.add (Addr.mk r1 0 none) 1) (Value.slice x549.a x549.len x549.cap) ∧
 ∃ x550 : SV, H.rd h86 (Addr.add (Addr.mk r1 0 none) 2) (Value.slice x550.a x550.len x550.cap) ∧
 ∃ x551 : Int, H.rd h86 (Addr.add (Addr.mk r1 0 none) 3) (Value.int .i64 x551) ∧
 ∃ x552 : Int, H.rd h86 (Addr.add (Addr.mk r1 0 none) 4) (Value.int .i64 x552) ∧
 ∃ x553 : SV, H.rd h86 (Addr.add (Addr.mk r1 0 none) 5) (Value.slice x553.a x553.len x553.cap) ∧
 ∃ x554 : SV, H.rd h86 (Addr.add (Addr.mk r1 0 none) 6) (Value.slice x554.a x554.len x554.cap) ∧
 ∃ x555 : SV, H.rd h86 (Addr.add (Addr.mk r1 0 none) 7) (Value.slice x555.a x555.len x555.cap) ∧
 ∃ x556 : SV, H.rd h86 (Addr.add (Addr.mk r1 0 none) 8) (Value.slice x556.a x556.len x556.cap) ∧
 ([(Value.int .i64 x548), (Value.slice x549.a x549.len x549.cap), (Value.slice x550.a x550.len x550.cap), (Value.int .i64 x551), (Value.int .i64 x552), (Value.slice x553.a x553.len x553.cap), (Value.slice x554.a x554.len x554.cap), (Value.slice x555.a x555.len x555.cap), (Value.slice x556.a x556.len x556.cap)]).length = 9 ∧ (Program.underlying Go.Proofs.Tryd.prog 31).isSome = true ∧
 H.wr h86 (Addr.mk r3 0 none) ([(Value.int .i64 x548), (Value.slice x549.a x549.len x549.cap), (Value.slice x550.a x550.len x550.cap), (Value.int .i64 x551), (Value.int .i64 x552), (Value.slice x553.a x553.len x553.cap), (Value.slice x554.a x554.len x554.cap), (Value.slice x555.a x555.len x555.cap), (Value.slice x556.a x556.len x556.cap)]) fun h557 =>
 ∃ x558 : Int, H.rd h557 (Addr.add (Addr.mk r3 0 none) 0) (Value.int .i64 x558) ∧
 ∃ x559 : SV, H.rd h557 (Addr.add (Addr.mk r3 0 none) 1) (Value.slice x559.a x559.len x559.cap) ∧
 ∃ x560 : SV, H.rd h557 (Addr.add (Addr.mk r3 0 none) 2) (Value.slice x560.a x560.len x560.cap) ∧
 ∃ x561 : Int, H.rd h557 (Addr.add (Addr.mk r3 0 none) 3) (Value.int .i64 x561) ∧
 ∃ x562 : Int, H.rd h557 (Addr.add (Addr.mk r3 0 none) 4) (Value.int .i64 x562) ∧
 ∃ x563 : SV, H.rd h557 (Addr.add (Addr.mk r3 0 none) 5) (Value.slice x563.a x563.len x563.cap) ∧
 ∃ x564 : SV, H.rd h557 (Addr.add (Addr.mk r3 0 none) 6) (Value.slice x564.a x564.len x564.cap) ∧
 ∃ x565 : SV, H.rd h557 (Addr.add (Addr.mk r3 0 none) 7) (Value.slice x565.a x565.len x565.cap) ∧
 ∃ x566 : SV, H.rd h557 (Addr.add (Addr.mk r3 0 none) 8) (Value.slice x566.a x566.len x566.cap) ∧
 VRet h557 (Value.tuple (List.toArray [(Value.agg (List.toArray [(Value.int .i64 x558), (Value.slice x559.a x559.len x559.cap), (Value.slice x560.a x560.len x560.cap), (Value.int .i64 x561), (Value.int .i64 x562), (Value.slice x563.a x563.len x563.cap), (Value.slice x564.a x564.len x564.cap), (Value.slice x565.a x565.len x565.cap), (Value.slice x566.a x566.len x566.cap)])), (Value.bool true), (Value.int .i64 x547), (Value.int .i64 0)])) post)))))) (
 (∃ h567, Gh h7 h567 ∧ R31 (2 : Int) h567))) (
 VIf (x30 == (5 : Int)) (
 ∃ x568 : SV, H.rd h7 (Addr.add (Addr.add (Addr.mk r1 0 none) 1) 0) (Value.slice x568.a x568.len x568.cap) ∧
 ∃ x569 : Int, H.rd h7 (Addr.add (Addr.add (Addr.mk r1 0 none) 3) 0) (Value.int .i64 x569) ∧
 ∃ b570 : Addr, x568.a = some b570 ∧ 0 ≤ x569 ∧ x569 < ((x568.len : Nat) : Int) ∧
 ∃ x571 : SV, H.rd h7 (Addr.add (Addr.add b570 ((x569).toNat * 1)) 0) (Value.slice x571.a x571.len x571.cap) ∧
 ∃ R572 : SV → H → Prop, (
 ∃ I573 : Nat → SV → Int → H → Prop, (∃ n574, (∃ h576, Gh h7 h576 ∧ I573 n574 x571 (0 : Int) h576)) ∧
 ∀ (n574 : Nat) (_ : F) (x577_x : SV) (x578_q : Int) (h579 : H), I573 n574 x577_x x578_q h579 →
 f9_L1 r1 R572 I573 n574 x577_x x578_q h579) ∧
 ∀ (_ : F) (x611_x : SV) (h612 : H), R572 x611_x h612 →
 ∃ x613 : SV, H.rd h612 (Addr.add (Addr.add (Addr.mk r1 0 none) 1) 0) (Value.slice x613.a x613.len x613.cap) ∧
 ∃ x614 : Int, H.rd h612 (Addr.add (Addr.add (Addr.mk r1 0 none) 3) 0) (Value.int .i64 x614) ∧
 In64 ((1 : Int) - x614) ∧
 SemCall Go.Proofs.Tryd.prog 25 (List.toArray [(Value.slice x613.a x613.len x613.cap), (Value.int .i64 ((1 : Int) - x614)), (Value.slice x611_x.a x611_x.len x611_x.cap)]) h612 fun v615 h616 =>
 ∃ x617 : SV, v615 = (Value.slice x617.a x617.len x617.cap) ∧
 H.wr h616 (Addr.add (Addr.mk r1 0 none) 1) ([(Value.slice x617.a x617.len x617.cap)]) fun h618 =>
 (∃ h619, Gh h618 h619 ∧ R31 (x30 + (1 : Int)) h619)) (
 VIf (x30 == (6 : Int)) (
 ∃ x620 : SV, H.rd h7 (Addr.add (Addr.add (Addr.mk r1 0 none) 2) 0) (Value.slice x620.a x620.len x620.cap) ∧
 ∃ x621 : Int, H.rd h7 (Addr.add (Addr.add (Addr.mk r1 0 none) 3) 0) (Value.int .i64 x621) ∧
 In64 ((1 : Int) - x621) ∧
 ∃ x622 : SV, H.rd h7 (Addr.add (Addr.add (Addr.mk r1 0 none) 1) 0) (Value.slice x622.a x622.len x622.cap) ∧
 ∃ x623 : Int, H.rd h7 (Addr.add (Addr.add (Addr.mk r1 0 none) 3) 0) (Value.int .i64 x623) ∧
 In64 ((1 : Int) - x623) ∧
 ∃ b624 : Addr, x622.a = some b624 ∧ 0 ≤ ((1 : Int) - x623) ∧ ((1 : Int) - x623) < ((x622.len : Nat) : Int) ∧
 ∃ x625 : SV, H.rd h7 (Addr.add (Addr.add b624 ((((1 : Int) - x623)).toNat * 1)) 0) (Value.slice x625.a x625.len x625.cap) ∧
 SemCall Go.Proofs.Tryd.prog 25 (List.toArray [(Value.slice x620.a x620.len x620.cap), (Value.int .i64 ((1 : Int) - x621)), (Value.slice x625.a x625.len x625.cap)]) h7 fun v626 h627 =>
 ∃ x628 : SV, v626 = (Value.slice x628.a x628.len x628.cap) ∧
 H.wr h627 (Addr.add (Addr.mk r1 0 none) 2) ([(Value.slice x628.a x628.len x628.cap)]) fun h629 =>
 (∃ h630, Gh h629 h630 ∧ R31 (x30 + (1 : Int)) h630)) (
 VIf (x30 == (7 : Int)) (
 ∃ x631 : Int, H.rd h7 (Addr.add (Addr.add (Addr.mk r1 0 none) 3) 0) (Value.int .i64 x631) ∧
 In64 ((1 : Int) - x631) ∧
 H.wr h7 (Addr.add (Addr.mk r1 0 none) 3) ([(Value.int .i64 ((1 : Int) - x631))]) fun h632 =>
 (∃ h633, Gh h632 h633 ∧ R31 (x30 + (1 : Int)) h633)) (
 VIf (x30 == (8 : Int)) (
 H.wr h7 (Addr.add (Addr.mk r1 0 none) 4) ([(Value.int .i64 0)]) fun h634 =>
 (∃ h635, Gh h634 h635 ∧ R31 (4 : Int) h635)) (
 (∃ h636, Gh h7 h636 ∧ R31 (x30 + (1 : Int)) h636))))))))))) ∧
 ∀ (_ : F) (x637_next : Int) (h638 : H), R31 x637_next h638 →
 f9_J2 p1_p post r1 r3 x637_next h638)

def f9_hint : Hint := (.node .leaf (.node .leaf (.node .leaf (.node .leaf (.node (.node .leaf (.join [(9, .int)] (.node (.node .leaf (.node .leaf (.node .leaf (.node (.node .leaf (.node .leaf (.node .lex .leaf))) (.node .leaf (.node .leaf (.node .leaf (.node .leaf (.node .leaf (.node (.node .leaf (.node .leaf (.node (.node .leaf (.node .any .leaf)) .leaf))) (.node .leaf (.node (.node .leaf (.node (.node .leaf (.join [(11, .sl)] (.node (.loop [(11, .sl), (12, .int)] (.node .leaf (.node (.node (.node .leaf (.node .lex .leaf)) .leaf) .leaf))) .leaf))) .leaf)) (.node .leaf (.node (.tail 12) .leaf)))))))))))))) .leaf))) .leaf)))))

theorem f9_eq (p0_0_c : Int) (p0_1_c : SV) (p0_2_c : SV) (p0_3_c : Int) (p0_4_c : Int) (p0_5_c : SV) (p0_6_c : SV) (p0_7_c : SV) (p0_8_c : SV) (p1_p : Int) (h0 : H) (post : Value → H → Prop) : exec Tryd.prog (bodyOf Tryd.f9) f9_hint (retQ Tryd.prog Tryd.f9 post) (F0 [(Value.agg (List.toArray [(Value.int .i64 p0_0_c), (Value.slice p0_1_c.a p0_1_c.len p0_1_c.cap), (Value.slice p0_2_c.a p0_2_c.len p0_2_c.cap), (Value.int .i64 p0_3_c), (Value.int .i64 p0_4_c), (Value.slice p0_5_c.a p0_5_c.len p0_5_c.cap), (Value.slice p0_6_c.a p0_6_c.len p0_6_c.cap), (Value.slice p0_7_c.a p0_7_c.len p0_7_c.cap), (Value.slice p0_8_c.a p0_8_c.len p0_8_c.cap)])), (Value.int .i64 p1_p)]) h0 = f9_sem p0_0_c p0_1_c p0_2_c p0_3_c p0_4_c p0_5_c p0_6_c p0_7_c p0_8_c p1_p h0 post := by kernel_rfl

set_option maxRecDepth 20000 in
theorem f9_call (p0_0_c : Int) (p0_1_c : SV) (p0_2_c : SV) (p0_3_c : Int) (p0_4_c : Int) (p0_5_c : SV) (p0_6_c : SV) (p0_7_c : SV) (p0_8_c : SV) (p1_p : Int) (h0 : H) (post : Value → H → Prop) (hx : f9_sem p0_0_c p0_1_c p0_2_c p0_3_c p0_4_c p0_5_c p0_6_c p0_7_c p0_8_c p1_p h0 post) : SemCall Tryd.prog 9 (List.toArray [(Value.agg (List.toArray [(Value.int .i64 p0_0_c), (Value.slice p0_1_c.a p0_1_c.len p0_1_c.cap), (Value.slice p0_2_c.a p0_2_c.len p0_2_c.cap), (Value.int .i64 p0_3_c), (Value.int .i64 p0_4_c), (Value.slice p0_5_c.a p0_5_c.len p0_5_c.cap), (Value.slice p0_6_c.a p0_6_c.len p0_6_c.cap), (Value.slice p0_7_c.a p0_7_c.len p0_7_c.cap), (Value.slice p0_8_c.a p0_8_c.len p0_8_c.cap)])), (Value.int .i64 p1_p)]) h0 post :=
 sem_of_exec (g := f9_hint) mixed Tryd.func9 (bodyOf_eq (by kernel_rfl)) (by kernel_rfl) ((f9_eq p0_0_c p0_1_c p0_2_c p0_3_c p0_4_c p0_5_c p0_6_c p0_7_c p0_8_c p1_p h0 post).mpr hx)

/- (*latchgarth/comb.Comb).Step -/
def f10_sem (p0_c : Option Addr) (p1_p : Int) (h0 : H) (post : Value → H → Prop) : Prop :=
 ∃ a1 : Addr, p0_c = some a1 ∧
 ∃ x2 : Int, H.rd h0 (Addr.add (Addr.add a1 0) 0) (Value.int .i64 x2) ∧
 In64 (x2 - (1 : Int)) ∧
 SemCall Go.Proofs.Tryd.prog 24 (List.toArray [(Value.int .i64 p1_p), (Value.int .i64 0), (Value.int .i64 (x2 - (1 : Int)))]) h0 fun v3 h4 =>
 ∃ x5 : Bool, v3 = (Value.bool x5) ∧
 VIf (!x5) (
 VRet h4 (Value.tuple (List.toArray [(Value.bool false), (Value.int .i64 0), (Value.iface 63 (Value.int .i64 (1 : Int)))])) post) (
 ∃ a6 : Addr, p0_c = some a6 ∧
 0 ≤ p1_p ∧ p1_p < ((4 : Nat) : Int) ∧
 ∃ a7 : Addr, (some (Addr.add (Addr.add a6 47) ((p1_p).toNat * 3))) = some a7 ∧
 ∃ x8 : Int, H.rd h4 (Addr.add (Addr.add a7 0) 0) (Value.int .i64 x8) ∧
 In64 (x8 + (1 : Int)) ∧
 ∃ a9 : Addr, (some (Addr.add (Addr.add a6 47) ((p1_p).toNat * 3))) = some a9 ∧
 ∃ x10 : Int, H.rd h4 (Addr.add (Addr.add a9 0) 0) (Value.int .i64 x10) ∧
 VIf (x10 == (0 : Int)) (
 VRet h4 (Value.tuple (List.toArray [(Value.bool false), (Value.int .i64 0), (Value.iface 63 (Value.int .i64 (7 : Int)))])) post) (
 ∃ R11 : Int → H → Prop, (
 VIf (x10 == (1 : Int)) (
 ∃ a12 : Addr, (some (Addr.add (Addr.add a6 47) ((p1_p).toNat * 3))) = some a12 ∧
 ∃ x13 : Int, H.rd h4 (Addr.add (Addr.add a12 1) 0) (Value.int .i64 x13) ∧
 ∃ a14 : Addr, (some (Addr.add (Addr.add a6 47) ((p1_p).toNat * 3))) = some a14 ∧
 ∃ x15 : Int, H.rd h4 (Addr.add (Addr.add a14 2) 0) (Value.int .i64 x15) ∧
 ∃ a16 : Addr, p0_c = some a16 ∧
 0 ≤ p1_p ∧ p1_p < ((4 : Nat) : Int) ∧
 ([(Value.int .i64 x13), (Value.int .i64 x15)]).length = 2 ∧ (Program.underlying Go.Proofs.Tryd.prog 56).isSome = true ∧
 H.wr h4 (Addr.add (Addr.add a16 39) ((p1_p).toNat * 2)) ([(Value.int .i64 x13), (Value.int .i64 x15)]) fun h17 =>
 (∃ h18, Gh h17 h18 ∧ R11 (x8 + (1 : Int)) h18)) (
 VIf (x10 == (2 : Int)) (
 ∃ a19 : Addr, p0_c = some a19 ∧
 In64 (p1_p + (1 : Int)) ∧
 SemCall Go.Proofs.Tryd.prog 26 (List.toArray [(Value.pointer (some (Addr.add a19 38))), (Value.int .i64 0), (Value.int .i64 (p1_p + (1 : Int)))]) h4 fun v20 h21 =>
 ∃ x22 : Bool, v20 = (Value.bool x22) ∧
 VIf x22 (
 (∃ h23, Gh h21 h23 ∧ R11 (5 : Int) h23)) (
 (∃ h24, Gh h21 h24 ∧ R11 (x8 + (1 : Int)) h24))) (
 VIf (x10 == (3 : Int)) (
 ∃ a25 : Addr, p0_c = some a25 ∧
 ∃ x26 : Int, H.rd h4 (Addr.add (Addr.add a25 38) 0) (Value.int .i64 x26) ∧
 VIf (x26 != (0 : Int)) (
 (∃ h27, Gh h4 h27 ∧ R11 (3 : Int) h27)) (
 (∃ h28, Gh h4 h28 ∧ R11 (x8 + (1 : Int)) h28))) (
 VIf (x10 == (4 : Int)) (
 ∃ a29 : Addr, p0_c = some a29 ∧
 ∃ x30 : Int, H.rd h4 (Addr.add (Addr.add a29 37) 0) (Value.int .i64 x30) ∧
 ∃ a31 : Addr, p0_c = some a31 ∧
 0 ≤ x30 ∧ x30 < ((2 : Nat) : Int) ∧
 ∃ a32 : Addr, (some (Addr.add (Addr.add a31 1) ((x30).toNat * 9))) = some a32 ∧
 0 ≤ p1_p ∧ p1_p < ((4 : Nat) : Int) ∧
 ∃ x33 : Int, H.rd h4 (Addr.add (Addr.add (Addr.add a32 1) ((p1_p).toNat * 1)) 0) (Value.int .i64 x33) ∧
 ∃ a34 : Addr, (some (Addr.add (Addr.add a6 47) ((p1_p).toNat * 3))) = some a34 ∧
 ∃ x35 : Int, H.rd h4 (Addr.add (Addr.add a34 2) 0) (Value.int .i64 x35) ∧
 VIf (x33 == x35) (
 ∃ a36 : Addr, (some (Addr.add (Addr.add a6 47) ((p1_p).toNat * 3))) = some a36 ∧
 ([(Value.int .i64 0), (Value.int .i64 0), (Value.int .i64 0)]).length = 3 ∧ (Program.underlying Go.Proofs.Tryd.prog 59).isSome = true ∧
 H.wr h4 a36 ([(Value.int .i64 0), (Value.int .i64 0), (Value.int .i64 0)]) fun h37 =>
 ∃ a38 : Addr, (some (Addr.add (Addr.add a31 1) ((x30).toNat * 9))) = some a38 ∧
 0 ≤ p1_p ∧ p1_p < ((4 : Nat) : Int) ∧
 ∃ x39 : Int, H.rd h37 (Addr.add (Addr.add (Addr.add a38 5) ((p1_p).toNat * 1)) 0) (Value.int .i64 x39) ∧
 VRet h37 (Value.tuple (List.toArray [(Value.bool true), (Value.int .i64 x39), Value.nilIface])) post) (
 (∃ h40, Gh h4 h40 ∧ R11 (2 : Int) h40))) (
 VIf (x10 == (5 : Int)) (
 SemCall Go.Proofs.Tryd.prog 27 (List.toArray [(Value.pointer p0_c)]) h4 fun v41 h42 =>
 v41 = (Value.tuple (List.toArray [])) ∧
 (∃ h43, Gh h42 h43 ∧ R11 (x8 + (1 : Int)) h43)) (
 VIf (x10 == (6 : Int)) (
 ∃ a44 : Addr, p0_c = some a44 ∧
 ∃ x45 : Int, H.rd h4 (Addr.add (Addr.add a44 37) 0) (Value.int .i64 x45) ∧
 In64 ((1 : Int) - x45) ∧
 ∃ a46 : Addr, p0_c = some a46 ∧
 ∃ x47 : Int, H.rd h4 (Addr.add (Addr.add a46 37) 0) (Value.int .i64 x47) ∧
 In64 ((1 : Int) - x47) ∧
 ∃ a48 : Addr, p0_c = some a48 ∧
 0 ≤ ((1 : Int) - x47) ∧ ((1 : Int) - x47) < ((2 : Nat) : Int) ∧
 ∃ x49 : Int, H.rd h4 (Addr.add (Addr.add (Addr.add a48 1) ((((1 : Int) - x47)).toNat * 9)) 0) (Value.int .i64 x49) ∧
 ∃ x50 : Int, H.rd h4 (Addr.add (Addr.add (Addr.add a48 1) ((((1 : Int) - x47)).toNat * 9)) 1) (Value.int .i64 x50) ∧
 ∃ x51 : Int, H.rd h4 (Addr.add (Addr.add (Addr.add a48 1) ((((1 : Int) - x47)).toNat * 9)) 2) (Value.int .i64 x51) ∧
 ∃ x52 : Int, H.rd h4 (Addr.add (Addr.add (Addr.add a48 1) ((((1 : Int) - x47)).toNat * 9)) 3) (Value.int .i64 x52) ∧
 ∃ x53 : Int, H.rd h4 (Addr.add (Addr.add (Addr.add a48 1) ((((1 : Int) - x47)).toNat * 9)) 4) (Value.int .i64 x53) ∧
 ∃ x54 : Int, H.rd h4 (Addr.add (Addr.add (Addr.add a48 1) ((((1 : Int) - x47)).toNat * 9)) 5) (Value.int .i64 x54) ∧
 ∃ x55 : Int, H.rd h4 (Addr.add (Addr.add (Addr.add a48 1) ((((1 : Int) - x47)).toNat * 9)) 6) (Value.int .i64 x55) ∧
 ∃ x56 : Int, H.rd h4 (Addr.add (Addr.add (Addr.add a48 1) ((((1 : Int) - x47)).toNat * 9)) 7) (Value.int .i64 x56) ∧
 ∃ x57 : Int, H.rd h4 (Addr.add (Addr.add (Addr.add a48 1) ((((1 : Int) - x47)).toNat * 9)) 8) (Value.int .i64 x57) ∧
 ∃ a58 : Addr, p0_c = some a58 ∧
 0 ≤ ((1 : Int) - x45) ∧ ((1 : Int) - x45) < ((2 : Nat) : Int) ∧
 ([(Value.int .i64 x49), (Value.int .i64 x50), (Value.int .i64 x51), (Value.int .i64 x52), (Value.int .i64 x53), (Value.int .i64 x54), (Value.int .i64 x55), (Value.int .i64 x56), (Value.int .i64 x57)]).length = 9 ∧ (Program.underlying Go.Proofs.Tryd.prog 53).isSome = true ∧
 H.wr h4 (Addr.add (Addr.add a58 19) ((((1 : Int) - x45)).toNat * 9)) ([(Value.int .i64 x49), (Value.int .i64 x50), (Value.int .i64 x51), (Value.int .i64 x52), (Value.int .i64 x53), (Value.int .i64 x54), (Value.int .i64 x55), (Value.int .i64 x56), (Value.int .i64 x57)]) fun h59 =>
 (∃ h60, Gh h59 h60 ∧ R11 (x8 + (1 : Int)) h60)) (
 VIf (x10 == (7 : Int)) (
 ∃ a61 : Addr, p0_c = some a61 ∧
 ∃ x62 : Int, H.rd h4 (Addr.add (Addr.add a61 37) 0) (Value.int .i64 x62) ∧
 In64 ((1 : Int) - x62) ∧
 ∃ a63 : Addr, p0_c = some a63 ∧
 H.wr h4 (Addr.add a63 37) ([(Value.int .i64 ((1 : Int) - x62))]) fun h64 =>
 (∃ h65, Gh h64 h65 ∧ R11 (x8 + (1 : Int)) h65)) (
 VIf (x10 == (8 : Int)) (
 ∃ a66 : Addr, p0_c = some a66 ∧
 H.wr h4 (Addr.add a66 38) ([(Value.int .i64 0)]) fun h67 =>
 (∃ h68, Gh h67 h68 ∧ R11 (4 : Int) h68)) (
 (∃ h69, Gh h4 h69 ∧ R11 (x8 + (1 : Int)) h69)))))))))) ∧
 ∀ (_ : F) (x70_next : Int) (h71 : H), R11 x70_next h71 →
 ∃ a72 : Addr, (some (Addr.add (Addr.add a6 47) ((p1_p).toNat * 3))) = some a72 ∧
 H.wr h71 (Addr.add a72 0) ([(Value.int .i64 x70_next)]) fun h73 =>
 VRet h73 (Value.tuple (List.toArray [(Value.bool false), (Value.int .i64 0), Value.nilIface])) post))

def f10_hint : Hint := (.node .leaf (.node .leaf (.node .leaf (.node .leaf (.node (.node .leaf (.node (.node .leaf (.node .leaf (.node .leaf (.join [(8, .int)] (.node (.tail 14) (.node .leaf (.node .leaf (.node .leaf (.node .leaf (.node .leaf (.node .leaf (.node .leaf (.node .leaf (.node .leaf (.node (.tail 19) .leaf))))))))))))))) .leaf)) .leaf)))))

theorem f10_eq (p0_c : Option Addr) (p1_p : Int) (h0 : H) (post : Value → H → Prop) : exec Tryd.prog (bodyOf Tryd.f10) f10_hint (retQ Tryd.prog Tryd.f10 post) (F0 [(Value.pointer p0_c), (Value.int .i64 p1_p)]) h0 = f10_sem p0_c p1_p h0 post := by kernel_rfl

set_option maxRecDepth 20000 in
theorem f10_call (p0_c : Option Addr) (p1_p : Int) (h0 : H) (post : Value → H → Prop) (hx : f10_sem p0_c p1_p h0 post) : SemCall Tryd.prog 10 (List.toArray [(Value.pointer p0_c), (Value.int .i64 p1_p)]) h0 post :=
 sem_of_exec (g := f10_hint) mixed Tryd.func10 (bodyOf_eq (by kernel_rfl)) (by kernel_rfl) ((f10_eq p0_c p1_p h0 post).mpr hx)

/- latchgarth/latchgarthref4.CrashComb -/
def f11_J1 (post : Value → H → Prop) (r1 : Nat) (r3 : Nat) (h10 : H) : Prop :=
 ∃ x11 : SV, H.rd h10 (Addr.add (Addr.add (Addr.mk r1 0 none) 2) 0) (Value.slice x11.a x11.len x11.cap) ∧
 H.wr h10 (Addr.add (Addr.mk r1 0 none) 1) ([(Value.slice x11.a x11.len x11.cap)]) fun h12 =>
 ∃ x13 : Int, H.rd h12 (Addr.add (Addr.mk r1 0 none) 0) (Value.int .i64 x13) ∧
 ∃ x14 : SV, H.rd h12 (Addr.add (Addr.mk r1 0 none) 1) (Value.slice x14.a x14.len x14.cap) ∧
 ∃ x15 : SV, H.rd h12 (Addr.add (Addr.mk r1 0 none) 2) (Value.slice x15.a x15.len x15.cap) ∧
 ∃ x16 : Int, H.rd h12 (Addr.add (Addr.mk r1 0 none) 3) (Value.int .i64 x16) ∧
 ∃ x17 : Int, H.rd h12 (Addr.add (Addr.mk r1 0 none) 4) (Value.int .i64 x17) ∧
 ∃ x18 : SV, H.rd h12 (Addr.add (Addr.mk r1 0 none) 5) (Value.slice x18.a x18.len x18.cap) ∧
 ∃ x19 : SV, H.rd h12 (Addr.add (Addr.mk r1 0 none) 6) (Value.slice x19.a x19.len x19.cap) ∧
 ∃ x20 : SV, H.rd h12 (Addr.add (Addr.mk r1 0 none) 7) (Value.slice x20.a x20.len x20.cap) ∧
 ∃ x21 : SV, H.rd h12 (Addr.add (Addr.mk r1 0 none) 8) (Value.slice x21.a x21.len x21.cap) ∧
 SemCall Go.Proofs.Tryd.prog 20 (List.toArray [(Value.agg (List.toArray [(Value.int .i64 x13), (Value.slice x14.a x14.len x14.cap), (Value.slice x15.a x15.len x15.cap), (Value.int .i64 x16), (Value.int .i64 x17), (Value.slice x18.a x18.len x18.cap), (Value.slice x19.a x19.len x19.cap), (Value.slice x20.a x20.len x20.cap), (Value.slice x21.a x21.len x21.cap)]))]) h12 fun v22 h23 =>
 ∃ x24 : Int, ∃ x25 : SV, ∃ x26 : SV, ∃ x27 : Int, ∃ x28 : Int, ∃ x29 : SV, ∃ x30 : SV, ∃ x31 : SV, ∃ x32 : SV, v22 = (Value.agg (List.toArray [(Value.int .i64 x24), (Value.slice x25.a x25.len x25.cap), (Value.slice x26.a x26.len x26.cap), (Value.int .i64 x27), (Value.int .i64 x28), (Value.slice x29.a x29.len x29.cap), (Value.slice x30.a x30.len x30.cap), (Value.slice x31.a x31.len x31.cap), (Value.slice x32.a x32.len x32.cap)])) ∧
 ([(Value.int .i64 x24), (Value.slice x25.a x25.len x25.cap), (Value.slice x26.a x26.len x26.cap), (Value.int .i64 x27), (Value.int .i64 x28), (Value.slice x29.a x29.len x29.cap), (Value.slice x30.a x30.len x30.cap), (Value.slice x31.a x31.len x31.cap), (Value.slice x32.a x32.len x32.cap)]).length = 9 ∧ (Program.underlying Go.Proofs.Tryd.prog 31).isSome = true ∧
 H.wr h23 (Addr.mk r3 0 none) ([(Value.int .i64 x24), (Value.slice x25.a x25.len x25.cap), (Value.slice x26.a x26.len x26.cap), (Value.int .i64 x27), (Value.int .i64 x28), (Value.slice x29.a x29.len x29.cap), (Value.slice x30.a x30.len x30.cap), (Value.slice x31.a x31.len x31.cap), (Value.slice x32.a x32.len x32.cap)]) fun h33 =>
 ∃ x34 : Int, H.rd h33 (Addr.add (Addr.mk r3 0 none) 0) (Value.int .i64 x34) ∧
 ∃ x35 : SV, H.rd h33 (Addr.add (Addr.mk r3 0 none) 1) (Value.slice x35.a x35.len x35.cap) ∧
 ∃ x36 : SV, H.rd h33 (Addr.add (Addr.mk r3 0 none) 2) (Value.slice x36.a x36.len x36.cap) ∧
 ∃ x37 : Int, H.rd h33 (Addr.add (Addr.mk r3 0 none) 3) (Value.int .i64 x37) ∧
 ∃ x38 : Int, H.rd h33 (Addr.add (Addr.mk r3 0 none) 4) (Value.int .i64 x38) ∧
 ∃ x39 : SV, H.rd h33 (Addr.add (Addr.mk r3 0 none) 5) (Value.slice x39.a x39.len x39.cap) ∧
 ∃ x40 : SV, H.rd h33 (Addr.add (Addr.mk r3 0 none) 6) (Value.slice x40.a x40.len x40.cap) ∧
 ∃ x41 : SV, H.rd h33 (Addr.add (Addr.mk r3 0 none) 7) (Value.slice x41.a x41.len x41.cap) ∧
 ∃ x42 : SV, H.rd h33 (Addr.add (Addr.mk r3 0 none) 8) (Value.slice x42.a x42.len x42.cap) ∧
 VRet h33 (Value.agg (List.toArray [(Value.int .i64 x34), (Value.slice x35.a x35.len x35.cap), (Value.slice x36.a x36.len x36.cap), (Value.int .i64 x37), (Value.int .i64 x38), (Value.slice x39.a x39.len x39.cap), (Value.slice x40.a x40.len x40.cap), (Value.slice x41.a x41.len x41.cap), (Value.slice x42.a x42.len x42.cap)])) post

def f11_sem (p0_0_c : Int) (p0_1_c : SV) (p0_2_c : SV) (p0_3_c : Int) (p0_4_c : Int) (p0_5_c : SV) (p0_6_c : SV) (p0_7_c : SV) (p0_8_c : SV) (p1_keep : Bool) (h0 : H) (post : Value → H → Prop) : Prop :=
 H.new h0 [(Value.int .i64 p0_0_c), (Value.slice p0_1_c.a p0_1_c.len p0_1_c.cap), (Value.slice p0_2_c.a p0_2_c.len p0_2_c.cap), (Value.int .i64 p0_3_c), (Value.int .i64 p0_4_c), (Value.slice p0_5_c.a p0_5_c.len p0_5_c.cap), (Value.slice p0_6_c.a p0_6_c.len p0_6_c.cap), (Value.slice p0_7_c.a p0_7_c.len p0_7_c.cap), (Value.slice p0_8_c.a p0_8_c.len p0_8_c.cap)] fun r1 h2 =>
 H.new h2 [(Value.int .i64 0), (Value.slice none 0 0), (Value.slice none 0 0), (Value.int .i64 0), (Value.int .i64 0), (Value.slice none 0 0), (Value.slice none 0 0), (Value.slice none 0 0), (Value.slice none 0 0)] fun r3 h4 =>
 ∃ R5 : H → Prop, (
 VIf p1_keep (
 ∃ x6 : SV, H.rd h4 (Addr.add (Addr.add (Addr.mk r1 0 none) 1) 0) (Value.slice x6.a x6.len x6.cap) ∧
 H.wr h4 (Addr.add (Addr.mk r1 0 none) 2) ([(Value.slice x6.a x6.len x6.cap)]) fun h7 =>
 (∃ h8, Gh h7 h8 ∧ R5 h8)) (
 (∃ h9, Gh h4 h9 ∧ R5 h9))) ∧
 ∀ (_ : F) (h10 : H), R5 h10 →
 f11_J1 post r1 r3 h10

def f11_hint : Hint := (.node .leaf (.node (.node .leaf (.join [] .leaf)) .leaf))

theorem f11_eq (p0_0_c : Int) (p0_1_c : SV) (p0_2_c : SV) (p0_3_c : Int) (p0_4_c : Int) (p0_5_c : SV) (p0_6_c : SV) (p0_7_c : SV) (p0_8_c : SV) (p1_keep : Bool) (h0 : H) (post : Value → H → Prop) : exec Tryd.prog (bodyOf Tryd.f11) f11_hint (retQ Tryd.prog Tryd.f11 post) (F0 [(Value.agg (List.toArray [(Value.int .i64 p0_0_c), (Value.slice p0_1_c.a p0_1_c.len p0_1_c.cap), (Value.slice p0_2_c.a p0_2_c.len p0_2_c.cap), (Value.int .i64 p0_3_c), (Value.int .i64 p0_4_c), (Value.slice p0_5_c.a p0_5_c.len p0_5_c.cap), (Value.slice p0_6_c.a p0_6_c.len p0_6_c.cap), (Value.slice p0_7_c.a p0_7_c.len p0_7_c.cap), (Value.slice p0_8_c.a p0_8_c.len p0_8_c.cap)])), (Value.bool p1_keep)]) h0 = f11_sem p0_0_c p0_1_c p0_2_c p0_3_c p0_4_c p0_5_c p0_6_c p0_7_c p0_8_c p1_keep h0 post := by kernel_rfl

set_option maxRecDepth 20000 in
theorem f11_call (p0_0_c : Int) (p0_1_c : SV) (p0_2_c : SV) (p0_3_c : Int) (p0_4_c : Int) (p0_5_c : SV) (p0_6_c : SV) (p0_7_c : SV) (p0_8_c : SV) (p1_keep : Bool) (h0 : H) (post : Value → H → Prop) (hx : f11_sem p0_0_c p0_1_c p0_2_c p0_3_c p0_4_c p0_5_c p0_6_c p0_7_c p0_8_c p1_keep h0 post) : SemCall Tryd.prog 11 (List.toArray [(Value.agg (List.toArray [(Value.int .i64 p0_0_c), (Value.slice p0_1_c.a p0_1_c.len p0_1_c.cap), (Value.slice p0_2_c.a p0_2_c.len p0_2_c.cap), (Value.int .i64 p0_3_c), (Value.int .i64 p0_4_c), (Value.slice p0_5_c.a p0_5_c.len p0_5_c.cap), (Value.slice p0_6_c.a p0_6_c.len p0_6_c.cap), (Value.slice p0_7_c.a p0_7_c.len p0_7_c.cap), (Value.slice p0_8_c.a p0_8_c.len p0_8_c.cap)])), (Value.bool p1_keep)]) h0 post :=
 sem_of_exec (g := f11_hint) mixed Tryd.func11 (bodyOf_eq (by kernel_rfl)) (by kernel_rfl) ((f11_eq p0_0_c p0_1_c p0_2_c p0_3_c p0_4_c p0_5_c p0_6_c p0_7_c p0_8_c p1_keep h0 post).mpr hx)

/- (*latchgarth/comb.Comb).Crash -/
def f12_J1 (p0_c : Option Addr) (post : Value → H → Prop) (h25 : H) : Prop :=
 ∃ a26 : Addr, p0_c = some a26 ∧
 ∃ x27 : Int, H.rd h25 (Addr.add (Addr.add a26 0) 0) (Value.int .i64 x27) ∧
 ∃ a28 : Addr, p0_c = some a28 ∧
 ∃ x29 : Int, H.rd h25 (Addr.add (Addr.add a28 19) 0) (Value.int .i64 x29) ∧
 ∃ x30 : Int, H.rd h25 (Addr.add (Addr.add a28 19) 1) (Value.int .i64 x30) ∧
 ∃ x31 : Int, H.rd h25 (Addr.add (Addr.add a28 19) 2) (Value.int .i64 x31) ∧
 ∃ x32 : Int, H.rd h25 (Addr.add (Addr.add a28 19) 3) (Value.int .i64 x32) ∧
 ∃ x33 : Int, H.rd h25 (Addr.add (Addr.add a28 19) 4) (Value.int .i64 x33) ∧
 ∃ x34 : Int, H.rd h25 (Addr.add (Addr.add a28 19) 5) (Value.int .i64 x34) ∧
 ∃ x35 : Int, H.rd h25 (Addr.add (Addr.add a28 19) 6) (Value.int .i64 x35) ∧
 ∃ x36 : Int, H.rd h25 (Addr.add (Addr.add a28 19) 7) (Value.int .i64 x36) ∧
 ∃ x37 : Int, H.rd h25 (Addr.add (Addr.add a28 19) 8) (Value.int .i64 x37) ∧
 ∃ x38 : Int, H.rd h25 (Addr.add (Addr.add a28 19) 9) (Value.int .i64 x38) ∧
 ∃ x39 : Int, H.rd h25 (Addr.add (Addr.add a28 19) 10) (Value.int .i64 x39) ∧
 ∃ x40 : Int, H.rd h25 (Addr.add (Addr.add a28 19) 11) (Value.int .i64 x40) ∧
 ∃ x41 : Int, H.rd h25 (Addr.add (Addr.add a28 19) 12) (Value.int .i64 x41) ∧
 ∃ x42 : Int, H.rd h25 (Addr.add (Addr.add a28 19) 13) (Value.int .i64 x42) ∧
 ∃ x43 : Int, H.rd h25 (Addr.add (Addr.add a28 19) 14) (Value.int .i64 x43) ∧
 ∃ x44 : Int, H.rd h25 (Addr.add (Addr.add a28 19) 15) (Value.int .i64 x44) ∧
 ∃ x45 : Int, H.rd h25 (Addr.add (Addr.add a28 19) 16) (Value.int .i64 x45) ∧
 ∃ x46 : Int, H.rd h25 (Addr.add (Addr.add a28 19) 17) (Value.int .i64 x46) ∧
 ∃ a47 : Addr, p0_c = some a47 ∧
 ∃ x48 : Int, H.rd h25 (Addr.add (Addr.add a47 19) 0) (Value.int .i64 x48) ∧
 ∃ x49 : Int, H.rd h25 (Addr.add (Addr.add a47 19) 1) (Value.int .i64 x49) ∧
 ∃ x50 : Int, H.rd h25 (Addr.add (Addr.add a47 19) 2) (Value.int .i64 x50) ∧
 ∃ x51 : Int, H.rd h25 (Addr.add (Addr.add a47 19) 3) (Value.int .i64 x51) ∧
 ∃ x52 : Int, H.rd h25 (Addr.add (Addr.add a47 19) 4) (Value.int .i64 x52) ∧
 ∃ x53 : Int, H.rd h25 (Addr.add (Addr.add a47 19) 5) (Value.int .i64 x53) ∧
 ∃ x54 : Int, H.rd h25 (Addr.add (Addr.add a47 19) 6) (Value.int .i64 x54) ∧
 ∃ x55 : Int, H.rd h25 (Addr.add (Addr.add a47 19) 7) (Value.int .i64 x55) ∧
 ∃ x56 : Int, H.rd h25 (Addr.add (Addr.add a47 19) 8) (Value.int .i64 x56) ∧
 ∃ x57 : Int, H.rd h25 (Addr.add (Addr.add a47 19) 9) (Value.int .i64 x57) ∧
 ∃ x58 : Int, H.rd h25 (Addr.add (Addr.add a47 19) 10) (Value.int .i64 x58) ∧
 ∃ x59 : Int, H.rd h25 (Addr.add (Addr.add a47 19) 11) (Value.int .i64 x59) ∧
 ∃ x60 : Int, H.rd h25 (Addr.add (Addr.add a47 19) 12) (Value.int .i64 x60) ∧
 ∃ x61 : Int, H.rd h25 (Addr.add (Addr.add a47 19) 13) (Value.int .i64 x61) ∧
 ∃ x62 : Int, H.rd h25 (Addr.add (Addr.add a47 19) 14) (Value.int .i64 x62) ∧
 ∃ x63 : Int, H.rd h25 (Addr.add (Addr.add a47 19) 15) (Value.int .i64 x63) ∧
 ∃ x64 : Int, H.rd h25 (Addr.add (Addr.add a47 19) 16) (Value.int .i64 x64) ∧
 ∃ x65 : Int, H.rd h25 (Addr.add (Addr.add a47 19) 17) (Value.int .i64 x65) ∧
 ∃ a66 : Addr, p0_c = some a66 ∧
 ∃ x67 : Int, H.rd h25 (Addr.add (Addr.add a66 37) 0) (Value.int .i64 x67) ∧
 ∃ a68 : Addr, p0_c = some a68 ∧
 ([(Value.int .i64 x27), (Value.int .i64 x29), (Value.int .i64 x30), (Value.int .i64 x31), (Value.int .i64 x32), (Value.int .i64 x33), (Value.int .i64 x34), (Value.int .i64 x35), (Value.int .i64 x36), (Value.int .i64 x37), (Value.int .i64 x38), (Value.int .i64 x39), (Value.int .i64 x40), (Value.int .i64 x41), (Value.int .i64 x42), (Value.int .i64 x43), (Value.int .i64 x44), (Value.int .i64 x45), (Value.int .i64 x46), (Value.int .i64 x48), (Value.int .i64 x49), (Value.int .i64 x50), (Value.int .i64 x51), (Value.int .i64 x52), (Value.int .i64 x53), (Value.int .i64 x54), (Value.int .i64 x55), (Value.int .i64 x56), (Value.int .i64 x57), (Value.int .i64 x58), (Value.int .i64 x59), (Value.int .i64 x60), (Value.int .i64 x61), (Value.int .i64 x62), (Value.int .i64 x63), (Value.int .i64 x64), (Value.int .i64 x65), (Value.int .i64 x67), (Value.int .i64 0), (Value.int .i64 0), (Value.int .i64 0), (Value.int .i64 0), (Value.int .i64 0), (Value.int .i64 0), (Value.int .i64 0), (Value.int .i64 0), (Value.int .i64 0), (Value.int .i64 0), (Value.int .i64 0), (Value.int .i64 0), (Value.int .i64 0), (Value.int .i64 0), (Value.int .i64 0), (Value.int .i64 0), (Value.int .i64 0), (Value.int .i64 0), (Value.int .i64 0), (Value.int .i64 0), (Value.int .i64 0)]).length = 59 ∧ (Program.underlying Go.Proofs.Tryd.prog 62).isSome = true ∧
 H.wr h25 a68 ([(Value.int .i64 x27), (Value.int .i64 x29), (Value.int .i64 x30), (Value.int .i64 x31), (Value.int .i64 x32), (Value.int .i64 x33), (Value.int .i64 x34), (Value.int .i64 x35), (Value.int .i64 x36), (Value.int .i64 x37), (Value.int .i64 x38), (Value.int .i64 x39), (Value.int .i64 x40), (Value.int .i64 x41), (Value.int .i64 x42), (Value.int .i64 x43), (Value.int .i64 x44), (Value.int .i64 x45), (Value.int .i64 x46), (Value.int .i64 x48), (Value.int .i64 x49), (Value.int .i64 x50), (Value.int .i64 x51), (Value.int .i64 x52), (Value.int .i64 x53), (Value.int .i64 x54), (Value.int .i64 x55), (Value.int .i64 x56), (Value.int .i64 x57), (Value.int .i64 x58), (Value.int .i64 x59), (Value.int .i64 x60), (Value.int .i64 x61), (Value.int .i64 x62), (Value.int .i64 x63), (Value.int .i64 x64), (Value.int .i64 x65), (Value.int .i64 x67), (Value.int .i64 0), (Value.int .i64 0), (Value.int .i64 0), (Value.int .i64 0), (Value.int .i64 0), (Value.int .i64 0), (Value.int .i64 0), (Value.int .i64 0), (Value.int .i64 0), (Value.int .i64 0), (Value.int .i64 0), (Value.int .i64 0), (Value.int .i64 0), (Value.int .i64 0), (Value.int .i64 0), (Value.int .i64 0), (Value.int .i64 0), (Value.int .i64 0), (Value.int .i64 0), (Value.int .i64 0), (Value.int .i64 0)]) fun h69 =>
 VRet h69 (Value.tuple (List.toArray [])) post

def f12_sem (p0_c : Option Addr) (p1_keep : Bool) (h0 : H) (post : Value → H → Prop) : Prop :=
 ∃ R1 : H → Prop, (
 VIf p1_keep (
 ∃ a2 : Addr, p0_c = some a2 ∧
 ∃ x3 : Int, H.rd h0 (Addr.add (Addr.add a2 1) 0) (Value.int .i64 x3) ∧
 ∃ x4 : Int, H.rd h0 (Addr.add (Addr.add a2 1) 1) (Value.int .i64 x4) ∧
 ∃ x5 : Int, H.rd h0 (Addr.add (Addr.add a2 1) 2) (Value.int .i64 x5) ∧
 ∃ x6 : Int, H.rd h0 (Addr.add (Addr.add a2 1) 3) (Value.int .i64 x6) ∧
 ∃ x7 : Int, H.rd h0 (Addr.add (Addr.add a2 1) 4) (Value.int .i64 x7) ∧
 ∃ x8 : Int, H.rd h0 (Addr.add (Addr.add a2 1) 5) (Value.int .i64 x8) ∧
 ∃ x9 : Int, H.rd h0 (Addr.add (Addr.add a2 1) 6) (Value.int .i64 x9) ∧
 ∃ x10 : Int, H.rd h0 (Addr.add (Addr.add a2 1) 7) (Value.int .i64 x10) ∧
 ∃ x11 : Int, H.rd h0 (Addr.add (Addr.add a2 1) 8) (Value.int .i64 x11) ∧
 ∃ x12 : Int, H.rd h0 (Addr.add (Addr.add a2 1) 9) (Value.int .i64 x12) ∧
 ∃ x13 : Int, H.rd h0 (Addr.add (Addr.add a2 1) 10) (Value.int .i64 x13) ∧
 ∃ x14 : Int, H.rd h0 (Addr.add (Addr.add a2 1) 11) (Value.int .i64 x14) ∧
 ∃ x15 : Int, H.rd h0 (Addr.add (Addr.add a2 1) 12) (Value.int .i64 x15) ∧
 ∃ x16 : Int, H.rd h0 (Addr.add (Addr.add a2 1) 13) (Value.int .i64 x16) ∧
 ∃ x17 : Int, H.rd h0 (Addr.add (Addr.add a2 1) 14) (Value.int .i64 x17) ∧
 ∃ x18 : Int, H.rd h0 (Addr.add (Addr.add a2 1) 15) (Value.int .i64 x18) ∧
 ∃ x19 : Int, H.rd h0 (Addr.add (Addr.add a2 1) 16) (Value.int .i64 x19) ∧
 ∃ x20 : Int, H.rd h0 (Addr.add (Addr.add a2 1) 17) (Value.int .i64 x20) ∧
 ∃ a21 : Addr, p0_c = some a21 ∧
 ([(Value.int .i64 x3), (Value.int .i64 x4), (Value.int .i64 x5), (Value.int .i64 x6), (Value.int .i64 x7), (Value.int .i64 x8), (Value.int .i64 x9), (Value.int .i64 x10), (Value.int .i64 x11), (Value.int .i64 x12), (Value.int .i64 x13), (Value.int .i64 x14), (Value.int .i64 x15), (Value.int .i64 x16), (Value.int .i64 x17), (Value.int .i64 x18), (Value.int .i64 x19), (Value.int .i64 x20)]).length = 18 ∧ (Program.underlying Go.Proofs.Tryd.prog 54).isSome = true ∧
 H.wr h0 (Addr.add a21 19) ([(Value.int .i64 x3), (Value.int .i64 x4), (Value.int .i64 x5), (Value.int .i64 x6), (Value.int .i64 x7), (Value.int .i64 x8), (Value.int .i64 x9), (Value.int .i64 x10), (Value.int .i64 x11), (Value.int .i64 x12), (Value.int .i64 x13), (Value.int .i64 x14), (Value.int .i64 x15), (Value.int .i64 x16), (Value.int .i64 x17), (Value.int .i64 x18), (Value.int .i64 x19), (Value.int .i64 x20)]) fun h22 =>
 (∃ h23, Gh h22 h23 ∧ R1 h23)) (
 (∃ h24, Gh h0 h24 ∧ R1 h24))) ∧
 ∀ (_ : F) (h25 : H), R1 h25 →
 f12_J1 p0_c post h25

def f12_hint : Hint := (.node (.node .leaf (.join [] .leaf)) (.tail 19))

theorem f12_eq (p0_c : Option Addr) (p1_keep : Bool) (h0 : H) (post : Value → H → Prop) : exec Tryd.prog (bodyOf Tryd.f12) f12_hint (retQ Tryd.prog Tryd.f12 post) (F0 [(Value.pointer p0_c), (Value.bool p1_keep)]) h0 = f12_sem p0_c p1_keep h0 post := by kernel_rfl

set_option maxRecDepth 20000 in
theorem f12_call (p0_c : Option Addr) (p1_keep : Bool) (h0 : H) (post : Value → H → Prop) (hx : f12_sem p0_c p1_keep h0 post) : SemCall Tryd.prog 12 (List.toArray [(Value.pointer p0_c), (Value.bool p1_keep)]) h0 post :=
 sem_of_exec (g := f12_hint) mixed Tryd.func12 (bodyOf_eq (by kernel_rfl)) (by kernel_rfl) ((f12_eq p0_c p1_keep h0 post).mpr hx)

/- (*latchgarth/comb.Comb).Halves -/
def f13_sem (p0_c : Option Addr) (h0 : H) (post : Value → H → Prop) : Prop :=
 ∃ a1 : Addr, p0_c = some a1 ∧
 0 ≤ (0 : Int) ∧ (0 : Int) < ((2 : Nat) : Int) ∧
 ∃ a2 : Addr, p0_c = some a2 ∧
 0 ≤ (1 : Int) ∧ (1 : Int) < ((2 : Nat) : Int) ∧
 ∃ a3 : Addr, p0_c = some a3 ∧
 ∃ x4 : Int, H.rd h0 (Addr.add (Addr.add (Addr.add (Addr.add a1 1) (((0 : Int)).toNat * 9)) 0) 0) (Value.int .i64 x4) ∧
 ∃ x5 : Int, H.rd h0 (Addr.add (Addr.add (Addr.add (Addr.add a2 1) (((1 : Int)).toNat * 9)) 0) 0) (Value.int .i64 x5) ∧
 ∃ x6 : Int, H.rd h0 (Addr.add (Addr.add a3 37) 0) (Value.int .i64 x6) ∧
 H.new h0 [(Value.int .i64 x4), (Value.int .i64 x5)] fun r7 h8 =>
 SemCall Go.Proofs.Tryd.prog 28 (List.toArray [(Value.slice (some (Addr.mk r7 0 none)) 2 2)]) h8 fun v9 h10 => OwnExt h8 h10 ∧
 ∃ x11 : SV, v9 = (Value.slice x11.a x11.len x11.cap) ∧
 VRet h10 (Value.tuple (List.toArray [(Value.slice x11.a x11.len x11.cap), (Value.int .i64 x6)])) post

def f13_hint : Hint := (.node .leaf (.node .lex .leaf))

theorem f13_eq (p0_c : Option Addr) (h0 : H) (post : Value → H → Prop) : exec Tryd.prog (bodyOf Tryd.f13) f13_hint (retQ Tryd.prog Tryd.f13 post) (F0 [(Value.pointer p0_c)]) h0 = f13_sem p0_c h0 post := by kernel_rfl

set_option maxRecDepth 20000 in
theorem f13_call (p0_c : Option Addr) (h0 : H) (post : Value → H → Prop) (hx : f13_sem p0_c h0 post) : SemCall Tryd.prog 13 (List.toArray [(Value.pointer p0_c)]) h0 post :=
 sem_of_exec (g := f13_hint) mixed Tryd.func13 (bodyOf_eq (by kernel_rfl)) (by kernel_rfl) ((f13_eq p0_c h0 post).mpr hx)

/- (*latchgarth/comb.Comb).Sum -/
def f14_sem (p0_c : Option Addr) (h0 : H) (post : Value → H → Prop) : Prop :=
 ∃ a1 : Addr, p0_c = some a1 ∧
 ∃ x2 : Int, H.rd h0 (Addr.add (Addr.add a1 37) 0) (Value.int .i64 x2) ∧
 ∃ a3 : Addr, p0_c = some a3 ∧
 0 ≤ x2 ∧ x2 < ((2 : Nat) : Int) ∧
 ∃ x4 : Int, H.rd h0 (Addr.add (Addr.add (Addr.add (Addr.add a3 1) ((x2).toNat * 9)) 0) 0) (Value.int .i64 x4) ∧
 VRet h0 (Value.int .i64 x4) post

def f14_hint : Hint := .leaf

theorem f14_eq (p0_c : Option Addr) (h0 : H) (post : Value → H → Prop) : exec Tryd.prog (bodyOf Tryd.f14) f14_hint (retQ Tryd.prog Tryd.f14 post) (F0 [(Value.pointer p0_c)]) h0 = f14_sem p0_c h0 post := by kernel_rfl

set_option maxRecDepth 20000 in
theorem f14_call (p0_c : Option Addr) (h0 : H) (post : Value → H → Prop) (hx : f14_sem p0_c h0 post) : SemCall Tryd.prog 14 (List.toArray [(Value.pointer p0_c)]) h0 post :=
 sem_of_exec (g := f14_hint) mixed Tryd.func14 (bodyOf_eq (by kernel_rfl)) (by kernel_rfl) ((f14_eq p0_c h0 post).mpr hx)

/- latchgarth/latchgarthsame.Ints -/
def f15_L1 (p0_a : SV) (p1_b : SV) (post : Value → H → Prop) (R1 : H → Prop) (I2 : Nat → Int → H → Prop) (n3 : Nat) (x6_i : Int) (h7 : H) : Prop :=
 VIf (decide (x6_i < ((p0_a.len : Nat) : Int))) (
 ∃ b8 : Addr, p0_a.a = some b8 ∧ 0 ≤ x6_i ∧ x6_i < ((p0_a.len : Nat) : Int) ∧
 ∃ x9 : Int, H.rd h7 (Addr.add (Addr.add b8 ((x6_i).toNat * 1)) 0) (Value.int .i64 x9) ∧
 ∃ b10 : Addr, p1_b.a = some b10 ∧ 0 ≤ x6_i ∧ x6_i < ((p1_b.len : Nat) : Int) ∧
 ∃ x11 : Int, H.rd h7 (Addr.add (Addr.add b10 ((x6_i).toNat * 1)) 0) (Value.int .i64 x11) ∧
 VIf (x9 != x11) (
 VRet h7 (Value.bool false) post) (
 In64 (x6_i + (1 : Int)) ∧
 ∃ m4, m4 < n3 ∧ (∃ h12, Gh h7 h12 ∧ I2 m4 (x6_i + (1 : Int)) h12))) (
 (∃ h13, Gh h7 h13 ∧ R1 h13))

def f15_sem (p0_a : SV) (p1_b : SV) (h0 : H) (post : Value → H → Prop) : Prop :=
 VIf (((p0_a.len : Nat) : Int) != ((p1_b.len : Nat) : Int)) (
 VRet h0 (Value.bool false) post) (
 ∃ R1 : H → Prop, (
 ∃ I2 : Nat → Int → H → Prop, (∃ n3, (∃ h5, Gh h0 h5 ∧ I2 n3 (0 : Int) h5)) ∧
 ∀ (n3 : Nat) (_ : F) (x6_i : Int) (h7 : H), I2 n3 x6_i h7 →
 f15_L1 p0_a p1_b post R1 I2 n3 x6_i h7) ∧
 ∀ (_ : F) (h14 : H), R1 h14 →
 VRet h14 (Value.bool true) post)

def f15_hint : Hint := (.node .leaf (.node .leaf (.node (.node .leaf (.join [] (.node (.loop [(5, .int)] .leaf) .leaf))) .leaf)))

theorem f15_eq (p0_a : SV) (p1_b : SV) (h0 : H) (post : Value → H → Prop) : exec Tryd.prog (bodyOf Tryd.f15) f15_hint (retQ Tryd.prog Tryd.f15 post) (F0 [(Value.slice p0_a.a p0_a.len p0_a.cap), (Value.slice p1_b.a p1_b.len p1_b.cap)]) h0 = f15_sem p0_a p1_b h0 post := by kernel_rfl

set_option maxRecDepth 20000 in
theorem f15_call (p0_a : SV) (p1_b : SV) (h0 : H) (post : Value → H → Prop) (hx : f15_sem p0_a p1_b h0 post) : SemCall Tryd.prog 15 (List.toArray [(Value.slice p0_a.a p0_a.len p0_a.cap), (Value.slice p1_b.a p1_b.len p1_b.cap)]) h0 post :=
 sem_of_exec (g := f15_hint) mixed Tryd.func15 (bodyOf_eq (by kernel_rfl)) (by kernel_rfl) ((f15_eq p0_a p1_b h0 post).mpr hx)

/- (*latchgarth/comb.Comb).Done -/
def f16_sem (p0_c : Option Addr) (p1_p : Int) (h0 : H) (post : Value → H → Prop) : Prop :=
 ∃ a1 : Addr, p0_c = some a1 ∧
 ∃ x2 : Int, H.rd h0 (Addr.add (Addr.add a1 0) 0) (Value.int .i64 x2) ∧
 In64 (x2 - (1 : Int)) ∧
 SemCall Go.Proofs.Tryd.prog 24 (List.toArray [(Value.int .i64 p1_p), (Value.int .i64 0), (Value.int .i64 (x2 - (1 : Int)))]) h0 fun v3 h4 =>
 ∃ x5 : Bool, v3 = (Value.bool x5) ∧
 VIf (!x5) (
 VRet h4 (Value.tuple (List.toArray [(Value.int .i64 0), (Value.int .i64 0)])) post) (
 ∃ a6 : Addr, p0_c = some a6 ∧
 ∃ a7 : Addr, p0_c = some a7 ∧
 ∃ x8 : Int, H.rd h4 (Addr.add (Addr.add a6 37) 0) (Value.int .i64 x8) ∧
 0 ≤ x8 ∧ x8 < ((2 : Nat) : Int) ∧
 ∃ x9 : Int, H.rd h4 (Addr.add (Addr.add (Addr.add a7 1) ((x8).toNat * 9)) 0) (Value.int .i64 x9) ∧
 ∃ x10 : Int, H.rd h4 (Addr.add (Addr.add (Addr.add a7 1) ((x8).toNat * 9)) 1) (Value.int .i64 x10) ∧
 ∃ x11 : Int, H.rd h4 (Addr.add (Addr.add (Addr.add a7 1) ((x8).toNat * 9)) 2) (Value.int .i64 x11) ∧
 ∃ x12 : Int, H.rd h4 (Addr.add (Addr.add (Addr.add a7 1) ((x8).toNat * 9)) 3) (Value.int .i64 x12) ∧
 ∃ x13 : Int, H.rd h4 (Addr.add (Addr.add (Addr.add a7 1) ((x8).toNat * 9)) 4) (Value.int .i64 x13) ∧
 ∃ x14 : Int, H.rd h4 (Addr.add (Addr.add (Addr.add a7 1) ((x8).toNat * 9)) 5) (Value.int .i64 x14) ∧
 ∃ x15 : Int, H.rd h4 (Addr.add (Addr.add (Addr.add a7 1) ((x8).toNat * 9)) 6) (Value.int .i64 x15) ∧
 ∃ x16 : Int, H.rd h4 (Addr.add (Addr.add (Addr.add a7 1) ((x8).toNat * 9)) 7) (Value.int .i64 x16) ∧
 ∃ x17 : Int, H.rd h4 (Addr.add (Addr.add (Addr.add a7 1) ((x8).toNat * 9)) 8) (Value.int .i64 x17) ∧
 H.new h4 [(Value.int .i64 0), (Value.int .i64 0), (Value.int .i64 0), (Value.int .i64 0), (Value.int .i64 0), (Value.int .i64 0), (Value.int .i64 0), (Value.int .i64 0), (Value.int .i64 0)] fun r18 h19 =>
 ([(Value.int .i64 x9), (Value.int .i64 x10), (Value.int .i64 x11), (Value.int .i64 x12), (Value.int .i64 x13), (Value.int .i64 x14), (Value.int .i64 x15), (Value.int .i64 x16), (Value.int .i64 x17)]).length = 9 ∧ (Program.underlying Go.Proofs.Tryd.prog 53).isSome = true ∧
 H.wr h19 (Addr.mk r18 0 none) ([(Value.int .i64 x9), (Value.int .i64 x10), (Value.int .i64 x11), (Value.int .i64 x12), (Value.int .i64 x13), (Value.int .i64 x14), (Value.int .i64 x15), (Value.int .i64 x16), (Value.int .i64 x17)]) fun h20 =>
 0 ≤ p1_p ∧ p1_p < ((4 : Nat) : Int) ∧
 ∃ x21 : Int, H.rd h20 (Addr.add (Addr.add (Addr.add (Addr.mk r18 0 none) 1) ((p1_p).toNat * 1)) 0) (Value.int .i64 x21) ∧
 0 ≤ p1_p ∧ p1_p < ((4 : Nat) : Int) ∧
 ∃ x22 : Int, H.rd h20 (Addr.add (Addr.add (Addr.add (Addr.mk r18 0 none) 5) ((p1_p).toNat * 1)) 0) (Value.int .i64 x22) ∧
 VRet h20 (Value.tuple (List.toArray [(Value.int .i64 x21), (Value.int .i64 x22)])) post)

def f16_hint : Hint := (.node .leaf (.node .leaf (.node .lex .leaf)))

theorem f16_eq (p0_c : Option Addr) (p1_p : Int) (h0 : H) (post : Value → H → Prop) : exec Tryd.prog (bodyOf Tryd.f16) f16_hint (retQ Tryd.prog Tryd.f16 post) (F0 [(Value.pointer p0_c), (Value.int .i64 p1_p)]) h0 = f16_sem p0_c p1_p h0 post := by kernel_rfl

set_option maxRecDepth 20000 in
theorem f16_call (p0_c : Option Addr) (p1_p : Int) (h0 : H) (post : Value → H → Prop) (hx : f16_sem p0_c p1_p h0 post) : SemCall Tryd.prog 16 (List.toArray [(Value.pointer p0_c), (Value.int .i64 p1_p)]) h0 post :=
 sem_of_exec (g := f16_hint) mixed Tryd.func16 (bodyOf_eq (by kernel_rfl)) (by kernel_rfl) ((f16_eq p0_c p1_p h0 post).mpr hx)

/- (*latchgarth/comb.Comb).At -/
def f17_sem (p0_c : Option Addr) (p1_p : Int) (h0 : H) (post : Value → H → Prop) : Prop :=
 ∃ a1 : Addr, p0_c = some a1 ∧
 ∃ x2 : Int, H.rd h0 (Addr.add (Addr.add a1 0) 0) (Value.int .i64 x2) ∧
 In64 (x2 - (1 : Int)) ∧
 SemCall Go.Proofs.Tryd.prog 24 (List.toArray [(Value.int .i64 p1_p), (Value.int .i64 0), (Value.int .i64 (x2 - (1 : Int)))]) h0 fun v3 h4 =>
 ∃ x5 : Bool, v3 = (Value.bool x5) ∧
 VIf (!x5) (
 VRet h4 (Value.int .i64 0) post) (
 ∃ a6 : Addr, p0_c = some a6 ∧
 0 ≤ p1_p ∧ p1_p < ((4 : Nat) : Int) ∧
 ∃ x7 : Int, H.rd h4 (Addr.add (Addr.add (Addr.add (Addr.add a6 47) ((p1_p).toNat * 3)) 0) 0) (Value.int .i64 x7) ∧
 VRet h4 (Value.int .i64 x7) post)

def f17_hint : Hint := .leaf

theorem f17_eq (p0_c : Option Addr) (p1_p : Int) (h0 : H) (post : Value → H → Prop) : exec Tryd.prog (bodyOf Tryd.f17) f17_hint (retQ Tryd.prog Tryd.f17 post) (F0 [(Value.pointer p0_c), (Value.int .i64 p1_p)]) h0 = f17_sem p0_c p1_p h0 post := by kernel_rfl

set_option maxRecDepth 20000 in
theorem f17_call (p0_c : Option Addr) (p1_p : Int) (h0 : H) (post : Value → H → Prop) (hx : f17_sem p0_c p1_p h0 post) : SemCall Tryd.prog 17 (List.toArray [(Value.pointer p0_c), (Value.int .i64 p1_p)]) h0 post :=
 sem_of_exec (g := f17_hint) mixed Tryd.func17 (bodyOf_eq (by kernel_rfl)) (by kernel_rfl) ((f17_eq p0_c p1_p h0 post).mpr hx)

/- latchgarth/core.Hands -/
def f18_sem (p0_n : Int) (h0 : H) (post : Value → H → Prop) : Prop :=
 SemCall Go.Proofs.Tryd.prog 24 (List.toArray [(Value.int .i64 p0_n), (Value.int .i64 (1 : Int)), (Value.int .i64 (4 : Int))]) h0 fun v1 h2 =>
 ∃ x3 : Bool, v1 = (Value.bool x3) ∧
 VIf (!x3) (
 VRet h2 (Value.iface 63 (Value.int .i64 (1 : Int))) post) (
 VRet h2 Value.nilIface post)

def f18_hint : Hint := .leaf

theorem f18_eq (p0_n : Int) (h0 : H) (post : Value → H → Prop) : exec Tryd.prog (bodyOf Tryd.f18) f18_hint (retQ Tryd.prog Tryd.f18 post) (F0 [(Value.int .i64 p0_n)]) h0 = f18_sem p0_n h0 post := by kernel_rfl

set_option maxRecDepth 20000 in
theorem f18_call (p0_n : Int) (h0 : H) (post : Value → H → Prop) (hx : f18_sem p0_n h0 post) : SemCall Tryd.prog 18 (List.toArray [(Value.int .i64 p0_n)]) h0 post :=
 sem_of_exec (g := f18_hint) mixed Tryd.func18 (bodyOf_eq (by kernel_rfl)) (by kernel_rfl) ((f18_eq p0_n h0 post).mpr hx)

/- latchgarth/plain.Told -/
def f19_sem (p0_err : Option (TypeId × Value)) (h0 : H) (post : Value → H → Prop) : Prop :=
 isIfaceV (errV p0_err) = true ∧
 VIf (isNilV (errV p0_err)) (
 VRet h0 (Value.int .i64 0) post) (
 H.new h0 [(Value.int .i64 0)] fun r1 h2 =>
 SemCall Go.Proofs.Tryd.prog 29 (List.toArray [(errV p0_err), (Value.iface 76 (Value.pointer (some (Addr.mk r1 0 none))))]) h2 fun v3 h4 =>
 ∃ x5 : Bool, v3 = (Value.bool x5) ∧
 VIf x5 (
 ∃ x6 : Int, H.rd h4 (Addr.add (Addr.mk r1 0 none) 0) (Value.int .i64 x6) ∧
 VRet h4 (Value.int .i64 x6) post) (
 VRet h4 (Value.int .i64 (-1 : Int)) post))

def f19_hint : Hint := .leaf

theorem f19_eq (p0_err : Option (TypeId × Value)) (h0 : H) (post : Value → H → Prop) : exec Tryd.prog (bodyOf Tryd.f19) f19_hint (retQ Tryd.prog Tryd.f19 post) (F0 [(errV p0_err)]) h0 = f19_sem p0_err h0 post := by kernel_rfl

set_option maxRecDepth 20000 in
theorem f19_call (p0_err : Option (TypeId × Value)) (h0 : H) (post : Value → H → Prop) (hx : f19_sem p0_err h0 post) : SemCall Tryd.prog 19 (List.toArray [(errV p0_err)]) h0 post :=
 sem_of_exec (g := f19_hint) mixed Tryd.func19 (bodyOf_eq (by kernel_rfl)) (by kernel_rfl) ((f19_eq p0_err h0 post).mpr hx)

/- latchgarth/latchgarthref4.Cleared -/
def f20_L1 (r1 : Nat) (R7 : H → Prop) (I8 : Nat → Int → H → Prop) (n9 : Nat) (x12_i : Int) (h13 : H) : Prop :=
 ∃ x14 : Int, H.rd h13 (Addr.add (Addr.add (Addr.mk r1 0 none) 0) 0) (Value.int .i64 x14) ∧
 VIf (decide (x12_i < x14)) (
 ∃ x15 : SV, H.rd h13 (Addr.add (Addr.add (Addr.mk r1 0 none) 5) 0) (Value.slice x15.a x15.len x15.cap) ∧
 H.new h13 [(Value.int .i64 0), (Value.int .i64 0)] fun r16 h17 =>
 H.new h17 [(Value.slice (some (Addr.mk r16 0 none)) 2 2)] fun r18 h19 =>
 appVC Go.Proofs.Tryd.prog 22 (Value.slice x15.a x15.len x15.cap) (Value.slice (some (Addr.mk r18 0 none)) 1 1) h19 fun x20 h21 =>
 H.wr h21 (Addr.add (Addr.mk r1 0 none) 5) ([(Value.slice x20.a x20.len x20.cap)]) fun h22 =>
 In64 (x12_i + (1 : Int)) ∧
 ∃ m10, m10 < n9 ∧ (∃ h23, Gh h22 h23 ∧ I8 m10 (x12_i + (1 : Int)) h23)) (
 (∃ h24, Gh h13 h24 ∧ R7 h24))

def f20_J2 (post : Value → H → Prop) (r1 : Nat) (r3 : Nat) (h25 : H) : Prop :=
 ∃ x26 : Int, H.rd h25 (Addr.add (Addr.add (Addr.mk r1 0 none) 0) 0) (Value.int .i64 x26) ∧
 0 ≤ x26 ∧ x26 ≤ x26 ∧ ((8 : Nat) : Int) * x26 ≤ 140737488355328 ∧ x26 ≤ 1000000000 ∧
 H.new h25 (repl (x26).toNat [(Value.int .i64 0)]) fun r27 h28 =>
 H.wr h28 (Addr.add (Addr.mk r1 0 none) 6) ([(Value.slice (some (Addr.mk r27 0 none)) ((x26).toNat) ((x26).toNat))]) fun h29 =>
 ∃ x30 : Int, H.rd h29 (Addr.add (Addr.add (Addr.mk r1 0 none) 0) 0) (Value.int .i64 x30) ∧
 0 ≤ x30 ∧ x30 ≤ x30 ∧ ((8 : Nat) : Int) * x30 ≤ 140737488355328 ∧ x30 ≤ 1000000000 ∧
 H.new h29 (repl (x30).toNat [(Value.int .i64 0)]) fun r31 h32 =>
 H.wr h32 (Addr.add (Addr.mk r1 0 none) 7) ([(Value.slice (some (Addr.mk r31 0 none)) ((x30).toNat) ((x30).toNat))]) fun h33 =>
 ∃ x34 : Int, H.rd h33 (Addr.add (Addr.add (Addr.mk r1 0 none) 0) 0) (Value.int .i64 x34) ∧
 0 ≤ x34 ∧ x34 ≤ x34 ∧ ((8 : Nat) : Int) * x34 ≤ 140737488355328 ∧ x34 ≤ 1000000000 ∧
 H.new h33 (repl (x34).toNat [(Value.int .i64 0)]) fun r35 h36 =>
 H.wr h36 (Addr.add (Addr.mk r1 0 none) 8) ([(Value.slice (some (Addr.mk r35 0 none)) ((x34).toNat) ((x34).toNat))]) fun h37 =>
 ∃ x38 : Int, H.rd h37 (Addr.add (Addr.mk r1 0 none) 0) (Value.int .i64 x38) ∧
 ∃ x39 : SV, H.rd h37 (Addr.add (Addr.mk r1 0 none) 1) (Value.slice x39.a x39.len x39.cap) ∧
 ∃ x40 : SV, H.rd h37 (Addr.add (Addr.mk r1 0 none) 2) (Value.slice x40.a x40.len x40.cap) ∧
 ∃ x41 : Int, H.rd h37 (Addr.add (Addr.mk r1 0 none) 3) (Value.int .i64 x41) ∧
 ∃ x42 : Int, H.rd h37 (Addr.add (Addr.mk r1 0 none) 4) (Value.int .i64 x42) ∧
 ∃ x43 : SV, H.rd h37 (Addr.add (Addr.mk r1 0 none) 5) (Value.slice x43.a x43.len x43.cap) ∧
 ∃ x44 : SV, H.rd h37 (Addr.add (Addr.mk r1 0 none) 6) (Value.slice x44.a x44.len x44.cap) ∧
 ∃ x45 : SV, H.rd h37 (Addr.add (Addr.mk r1 0 none) 7) (Value.slice x45.a x45.len x45.cap) ∧
 ∃ x46 : SV, H.rd h37 (Addr.add (Addr.mk r1 0 none) 8) (Value.slice x46.a x46.len x46.cap) ∧
 ([(Value.int .i64 x38), (Value.slice x39.a x39.len x39.cap), (Value.slice x40.a x40.len x40.cap), (Value.int .i64 x41), (Value.int .i64 x42), (Value.slice x43.a x43.len x43.cap), (Value.slice x44.a x44.len x44.cap), (Value.slice x45.a x45.len x45.cap), (Value.slice x46.a x46.len x46.cap)]).length = 9 ∧ (Program.underlying Go.Proofs.Tryd.prog 31).isSome = true ∧
 H.wr h37 (Addr.mk r3 0 none) ([(Value.int .i64 x38), (Value.slice x39.a x39.len x39.cap), (Value.slice x40.a x40.len x40.cap), (Value.int .i64 x41), (Value.int .i64 x42), (Value.slice x43.a x43.len x43.cap), (Value.slice x44.a x44.len x44.cap), (Value.slice x45.a x45.len x45.cap), (Value.slice x46.a x46.len x46.cap)]) fun h47 =>
 ∃ x48 : Int, H.rd h47 (Addr.add (Addr.mk r3 0 none) 0) (Value.int .i64 x48) ∧
 ∃ x49 : SV, H.rd h47 (Addr.add (Addr.mk r3 0 none) 1) (Value.slice x49.a x49.len x49.cap) ∧
 ∃ x50 : SV, H.rd h47 (Addr.add (Addr.mk r3 0 none) 2) (Value.slice x50.a x50.len x50.cap) ∧
 ∃ x51 : Int, H.rd h47 (Addr.add (Addr.mk r3 0 none) 3) (Value.int .i64 x51) ∧
 ∃ x52 : Int, H.rd h47 (Addr.add (Addr.mk r3 0 none) 4) (Value.int .i64 x52) ∧
 ∃ x53 : SV, H.rd h47 (Addr.add (Addr.mk r3 0 none) 5) (Value.slice x53.a x53.len x53.cap) ∧
 ∃ x54 : SV, H.rd h47 (Addr.add (Addr.mk r3 0 none) 6) (Value.slice x54.a x54.len x54.cap) ∧
 ∃ x55 : SV, H.rd h47 (Addr.add (Addr.mk r3 0 none) 7) (Value.slice x55.a x55.len x55.cap) ∧
 ∃ x56 : SV, H.rd h47 (Addr.add (Addr.mk r3 0 none) 8) (Value.slice x56.a x56.len x56.cap) ∧
 VRet h47 (Value.agg (List.toArray [(Value.int .i64 x48), (Value.slice x49.a x49.len x49.cap), (Value.slice x50.a x50.len x50.cap), (Value.int .i64 x51), (Value.int .i64 x52), (Value.slice x53.a x53.len x53.cap), (Value.slice x54.a x54.len x54.cap), (Value.slice x55.a x55.len x55.cap), (Value.slice x56.a x56.len x56.cap)])) post

def f20_sem (p0_0_c : Int) (p0_1_c : SV) (p0_2_c : SV) (p0_3_c : Int) (p0_4_c : Int) (p0_5_c : SV) (p0_6_c : SV) (p0_7_c : SV) (p0_8_c : SV) (h0 : H) (post : Value → H → Prop) : Prop :=
 H.new h0 [(Value.int .i64 p0_0_c), (Value.slice p0_1_c.a p0_1_c.len p0_1_c.cap), (Value.slice p0_2_c.a p0_2_c.len p0_2_c.cap), (Value.int .i64 p0_3_c), (Value.int .i64 p0_4_c), (Value.slice p0_5_c.a p0_5_c.len p0_5_c.cap), (Value.slice p0_6_c.a p0_6_c.len p0_6_c.cap), (Value.slice p0_7_c.a p0_7_c.len p0_7_c.cap), (Value.slice p0_8_c.a p0_8_c.len p0_8_c.cap)] fun r1 h2 =>
 H.new h2 [(Value.int .i64 0), (Value.slice none 0 0), (Value.slice none 0 0), (Value.int .i64 0), (Value.int .i64 0), (Value.slice none 0 0), (Value.slice none 0 0), (Value.slice none 0 0), (Value.slice none 0 0)] fun r3 h4 =>
 H.wr h4 (Addr.add (Addr.mk r1 0 none) 4) ([(Value.int .i64 0)]) fun h5 =>
 H.wr h5 (Addr.add (Addr.mk r1 0 none) 5) ([(Value.slice none 0 0)]) fun h6 =>
 ∃ R7 : H → Prop, (
 ∃ I8 : Nat → Int → H → Prop, (∃ n9, (∃ h11, Gh h6 h11 ∧ I8 n9 (0 : Int) h11)) ∧
 ∀ (n9 : Nat) (_ : F) (x12_i : Int) (h13 : H), I8 n9 x12_i h13 →
 f20_L1 r1 R7 I8 n9 x12_i h13) ∧
 ∀ (_ : F) (h25 : H), R7 h25 →
 f20_J2 post r1 r3 h25

def f20_hint : Hint := (.node .leaf (.node .leaf (.node .leaf (.node (.node .leaf (.join [] (.node (.loop [(3, .int)] .leaf) .leaf))) .leaf))))

theorem f20_eq (p0_0_c : Int) (p0_1_c : SV) (p0_2_c : SV) (p0_3_c : Int) (p0_4_c : Int) (p0_5_c : SV) (p0_6_c : SV) (p0_7_c : SV) (p0_8_c : SV) (h0 : H) (post : Value → H → Prop) : exec Tryd.prog (bodyOf Tryd.f20) f20_hint (retQ Tryd.prog Tryd.f20 post) (F0 [(Value.agg (List.toArray [(Value.int .i64 p0_0_c), (Value.slice p0_1_c.a p0_1_c.len p0_1_c.cap), (Value.slice p0_2_c.a p0_2_c.len p0_2_c.cap), (Value.int .i64 p0_3_c), (Value.int .i64 p0_4_c), (Value.slice p0_5_c.a p0_5_c.len p0_5_c.cap), (Value.slice p0_6_c.a p0_6_c.len p0_6_c.cap), (Value.slice p0_7_c.a p0_7_c.len p0_7_c.cap), (Value.slice p0_8_c.a p0_8_c.len p0_8_c.cap)]))]) h0 = f20_sem p0_0_c p0_1_c p0_2_c p0_3_c p0_4_c p0_5_c p0_6_c p0_7_c p0_8_c h0 post := by kernel_rfl

set_option maxRecDepth 20000 in
theorem f20_call (p0_0_c : Int) (p0_1_c : SV) (p0_2_c : SV) (p0_3_c : Int) (p0_4_c : Int) (p0_5_c : SV) (p0_6_c : SV) (p0_7_c : SV) (p0_8_c : SV) (h0 : H) (post : Value → H → Prop) (hx : f20_sem p0_0_c p0_1_c p0_2_c p0_3_c p0_4_c p0_5_c p0_6_c p0_7_c p0_8_c h0 post) : SemCall Tryd.prog 20 (List.toArray [(Value.agg (List.toArray [(Value.int .i64 p0_0_c), (Value.slice p0_1_c.a p0_1_c.len p0_1_c.cap), (Value.slice p0_2_c.a p0_2_c.len p0_2_c.cap), (Value.int .i64 p0_3_c), (Value.int .i64 p0_4_c), (Value.slice p0_5_c.a p0_5_c.len p0_5_c.cap), (Value.slice p0_6_c.a p0_6_c.len p0_6_c.cap), (Value.slice p0_7_c.a p0_7_c.len p0_7_c.cap), (Value.slice p0_8_c.a p0_8_c.len p0_8_c.cap)]))]) h0 post :=
 sem_of_exec (g := f20_hint) mixed Tryd.func20 (bodyOf_eq (by kernel_rfl)) (by kernel_rfl) ((f20_eq p0_0_c p0_1_c p0_2_c p0_3_c p0_4_c p0_5_c p0_6_c p0_7_c p0_8_c h0 post).mpr hx)

/- latchgarth/latchgarthref4.halves -/
def f21_sem (p0_n : Int) (h0 : H) (post : Value → H → Prop) : Prop :=
 In64 ((2 : Int) * p0_n) ∧
 In64 ((1 : Int) + ((2 : Int) * p0_n)) ∧
 In64 ((2 : Int) * p0_n) ∧
 In64 ((1 : Int) + ((2 : Int) * p0_n)) ∧
 0 ≤ ((1 : Int) + ((2 : Int) * p0_n)) ∧ ((1 : Int) + ((2 : Int) * p0_n)) ≤ ((1 : Int) + ((2 : Int) * p0_n)) ∧ ((8 : Nat) : Int) * ((1 : Int) + ((2 : Int) * p0_n)) ≤ 140737488355328 ∧ ((1 : Int) + ((2 : Int) * p0_n)) ≤ 1000000000 ∧
 H.new h0 (repl (((1 : Int) + ((2 : Int) * p0_n))).toNat [(Value.int .i64 0)]) fun r1 h2 =>
 0 ≤ ((1 : Int) + ((2 : Int) * p0_n)) ∧ ((1 : Int) + ((2 : Int) * p0_n)) ≤ ((1 : Int) + ((2 : Int) * p0_n)) ∧ ((8 : Nat) : Int) * ((1 : Int) + ((2 : Int) * p0_n)) ≤ 140737488355328 ∧ ((1 : Int) + ((2 : Int) * p0_n)) ≤ 1000000000 ∧
 H.new h2 (repl (((1 : Int) + ((2 : Int) * p0_n))).toNat [(Value.int .i64 0)]) fun r3 h4 =>
 H.new h4 [(Value.slice (some (Addr.mk r1 0 none)) ((((1 : Int) + ((2 : Int) * p0_n))).toNat) ((((1 : Int) + ((2 : Int) * p0_n))).toNat)), (Value.slice (some (Addr.mk r3 0 none)) ((((1 : Int) + ((2 : Int) * p0_n))).toNat) ((((1 : Int) + ((2 : Int) * p0_n))).toNat))] fun r5 h6 =>
 VRet h6 (Value.slice (some (Addr.mk r5 0 none)) 2 2) post

def f21_hint : Hint := (.node .leaf (.node .lex .leaf))

theorem f21_eq (p0_n : Int) (h0 : H) (post : Value → H → Prop) : exec Tryd.prog (bodyOf Tryd.f21) f21_hint (retQ Tryd.prog Tryd.f21 post) (F0 [(Value.int .i64 p0_n)]) h0 = f21_sem p0_n h0 post := by kernel_rfl

set_option maxRecDepth 20000 in
theorem f21_call (p0_n : Int) (h0 : H) (post : Value → H → Prop) (hx : f21_sem p0_n h0 post) : SemCall Tryd.prog 21 (List.toArray [(Value.int .i64 p0_n)]) h0 post :=
 sem_of_exec (g := f21_hint) mixed Tryd.func21 (bodyOf_eq (by kernel_rfl)) (by kernel_rfl) ((f21_eq p0_n h0 post).mpr hx)

/- latchgarth/latchgarthref4.in -/
def f22_sem (p0_n : Int) (p1_low : Int) (p2_high : Int) (h0 : H) (post : Value → H → Prop) : Prop :=
 ∃ R1 : Bool → H → Prop, (
 VIf (decide (p0_n ≥ p1_low)) (
 (∃ h2, Gh h0 h2 ∧ R1 (decide (p0_n ≤ p2_high)) h2)) (
 (∃ h3, Gh h0 h3 ∧ R1 false h3))) ∧
 ∀ (_ : F) (x4 : Bool) (h5 : H), R1 x4 h5 →
 VRet h5 (Value.bool x4) post

def f22_hint : Hint := (.node .leaf (.node (.join [(6, .bool)] .leaf) .leaf))

theorem f22_eq (p0_n : Int) (p1_low : Int) (p2_high : Int) (h0 : H) (post : Value → H → Prop) : exec Tryd.prog (bodyOf Tryd.f22) f22_hint (retQ Tryd.prog Tryd.f22 post) (F0 [(Value.int .i64 p0_n), (Value.int .i64 p1_low), (Value.int .i64 p2_high)]) h0 = f22_sem p0_n p1_low p2_high h0 post := by kernel_rfl

set_option maxRecDepth 20000 in
theorem f22_call (p0_n : Int) (p1_low : Int) (p2_high : Int) (h0 : H) (post : Value → H → Prop) (hx : f22_sem p0_n p1_low p2_high h0 post) : SemCall Tryd.prog 22 (List.toArray [(Value.int .i64 p0_n), (Value.int .i64 p1_low), (Value.int .i64 p2_high)]) h0 post :=
 sem_of_exec (g := f22_hint) mixed Tryd.func22 (bodyOf_eq (by kernel_rfl)) (by kernel_rfl) ((f22_eq p0_n p1_low p2_high h0 post).mpr hx)

/- latchgarth/latchgarthref4.set -/
def f23_sem (p0_l : SV) (p1_i : Int) (p2_n : Int) (h0 : H) (post : Value → H → Prop) : Prop :=
 appVC Go.Proofs.Tryd.prog 29 (Value.slice none 0 0) (Value.slice p0_l.a p0_l.len p0_l.cap) h0 fun x1 h2 =>
 ∃ b3 : Addr, x1.a = some b3 ∧ 0 ≤ p1_i ∧ p1_i < ((x1.len : Nat) : Int) ∧
 H.wr h2 (Addr.add b3 ((p1_i).toNat * 1)) ([(Value.int .i64 p2_n)]) fun h4 =>
 VRet h4 (Value.slice x1.a x1.len x1.cap) post

def f23_hint : Hint := .leaf

theorem f23_eq (p0_l : SV) (p1_i : Int) (p2_n : Int) (h0 : H) (post : Value → H → Prop) : exec Tryd.prog (bodyOf Tryd.f23) f23_hint (retQ Tryd.prog Tryd.f23 post) (F0 [(Value.slice p0_l.a p0_l.len p0_l.cap), (Value.int .i64 p1_i), (Value.int .i64 p2_n)]) h0 = f23_sem p0_l p1_i p2_n h0 post := by kernel_rfl

set_option maxRecDepth 20000 in
theorem f23_call (p0_l : SV) (p1_i : Int) (p2_n : Int) (h0 : H) (post : Value → H → Prop) (hx : f23_sem p0_l p1_i p2_n h0 post) : SemCall Tryd.prog 23 (List.toArray [(Value.slice p0_l.a p0_l.len p0_l.cap), (Value.int .i64 p1_i), (Value.int .i64 p2_n)]) h0 post :=
 sem_of_exec (g := f23_hint) mixed Tryd.func23 (bodyOf_eq (by kernel_rfl)) (by kernel_rfl) ((f23_eq p0_l p1_i p2_n h0 post).mpr hx)

/- latchgarth/core.Within -/
def f24_sem (p0_n : Int) (p1_low : Int) (p2_high : Int) (h0 : H) (post : Value → H → Prop) : Prop :=
 ∃ R1 : Bool → H → Prop, (
 VIf (decide (p0_n ≥ p1_low)) (
 (∃ h2, Gh h0 h2 ∧ R1 (decide (p0_n ≤ p2_high)) h2)) (
 (∃ h3, Gh h0 h3 ∧ R1 false h3))) ∧
 ∀ (_ : F) (x4 : Bool) (h5 : H), R1 x4 h5 →
 VRet h5 (Value.bool x4) post

def f24_hint : Hint := (.node .leaf (.node (.join [(6, .bool)] .leaf) .leaf))

theorem f24_eq (p0_n : Int) (p1_low : Int) (p2_high : Int) (h0 : H) (post : Value → H → Prop) : exec Tryd.prog (bodyOf Tryd.f24) f24_hint (retQ Tryd.prog Tryd.f24 post) (F0 [(Value.int .i64 p0_n), (Value.int .i64 p1_low), (Value.int .i64 p2_high)]) h0 = f24_sem p0_n p1_low p2_high h0 post := by kernel_rfl

set_option maxRecDepth 20000 in
theorem f24_call (p0_n : Int) (p1_low : Int) (p2_high : Int) (h0 : H) (post : Value → H → Prop) (hx : f24_sem p0_n p1_low p2_high h0 post) : SemCall Tryd.prog 24 (List.toArray [(Value.int .i64 p0_n), (Value.int .i64 p1_low), (Value.int .i64 p2_high)]) h0 post :=
 sem_of_exec (g := f24_hint) mixed Tryd.func24 (bodyOf_eq (by kernel_rfl)) (by kernel_rfl) ((f24_eq p0_n p1_low p2_high h0 post).mpr hx)

/- latchgarth/latchgarthref4.half -/
def f25_sem (p0_l : SV) (p1_i : Int) (p2_x : SV) (h0 : H) (post : Value → H → Prop) : Prop :=
 VIf (p1_i == (0 : Int)) (
 ∃ b1 : Addr, p0_l.a = some b1 ∧ 0 ≤ (1 : Int) ∧ (1 : Int) < ((p0_l.len : Nat) : Int) ∧
 ∃ x2 : SV, H.rd h0 (Addr.add (Addr.add b1 (((1 : Int)).toNat * 1)) 0) (Value.slice x2.a x2.len x2.cap) ∧
 H.new h0 [(Value.slice p2_x.a p2_x.len p2_x.cap), (Value.slice x2.a x2.len x2.cap)] fun r3 h4 =>
 VRet h4 (Value.slice (some (Addr.mk r3 0 none)) 2 2) post) (
 ∃ b5 : Addr, p0_l.a = some b5 ∧ 0 ≤ (0 : Int) ∧ (0 : Int) < ((p0_l.len : Nat) : Int) ∧
 ∃ x6 : SV, H.rd h0 (Addr.add (Addr.add b5 (((0 : Int)).toNat * 1)) 0) (Value.slice x6.a x6.len x6.cap) ∧
 H.new h0 [(Value.slice x6.a x6.len x6.cap), (Value.slice p2_x.a p2_x.len p2_x.cap)] fun r7 h8 =>
 VRet h8 (Value.slice (some (Addr.mk r7 0 none)) 2 2) post)

def f25_hint : Hint := .leaf

theorem f25_eq (p0_l : SV) (p1_i : Int) (p2_x : SV) (h0 : H) (post : Value → H → Prop) : exec Tryd.prog (bodyOf Tryd.f25) f25_hint (retQ Tryd.prog Tryd.f25 post) (F0 [(Value.slice p0_l.a p0_l.len p0_l.cap), (Value.int .i64 p1_i), (Value.slice p2_x.a p2_x.len p2_x.cap)]) h0 = f25_sem p0_l p1_i p2_x h0 post := by kernel_rfl

set_option maxRecDepth 20000 in
theorem f25_call (p0_l : SV) (p1_i : Int) (p2_x : SV) (h0 : H) (post : Value → H → Prop) (hx : f25_sem p0_l p1_i p2_x h0 post) : SemCall Tryd.prog 25 (List.toArray [(Value.slice p0_l.a p0_l.len p0_l.cap), (Value.int .i64 p1_i), (Value.slice p2_x.a p2_x.len p2_x.cap)]) h0 post :=
 sem_of_exec (g := f25_hint) mixed Tryd.func25 (bodyOf_eq (by kernel_rfl)) (by kernel_rfl) ((f25_eq p0_l p1_i p2_x h0 post).mpr hx)

/- latchgarth/core.Cas[int] -/
def f26_sem (p0_word : Option Addr) (p1_old : Int) (p2_new : Int) (h0 : H) (post : Value → H → Prop) : Prop :=
 ∃ a1 : Addr, p0_word = some a1 ∧
 ∃ x2 : Int, H.rd h0 (Addr.add a1 0) (Value.int .i64 x2) ∧
 VIf (x2 != p1_old) (
 VRet h0 (Value.bool false) post) (
 ∃ a3 : Addr, p0_word = some a3 ∧
 H.wr h0 a3 ([(Value.int .i64 p2_new)]) fun h4 =>
 VRet h4 (Value.bool true) post)

def f26_hint : Hint := .leaf

theorem f26_eq (p0_word : Option Addr) (p1_old : Int) (p2_new : Int) (h0 : H) (post : Value → H → Prop) : exec Tryd.prog (bodyOf Tryd.f26) f26_hint (retQ Tryd.prog Tryd.f26 post) (F0 [(Value.pointer p0_word), (Value.int .i64 p1_old), (Value.int .i64 p2_new)]) h0 = f26_sem p0_word p1_old p2_new h0 post := by kernel_rfl

set_option maxRecDepth 20000 in
theorem f26_call (p0_word : Option Addr) (p1_old : Int) (p2_new : Int) (h0 : H) (post : Value → H → Prop) (hx : f26_sem p0_word p1_old p2_new h0 post) : SemCall Tryd.prog 26 (List.toArray [(Value.pointer p0_word), (Value.int .i64 p1_old), (Value.int .i64 p2_new)]) h0 post :=
 sem_of_exec (g := f26_hint) mixed Tryd.func26 (bodyOf_eq (by kernel_rfl)) (by kernel_rfl) ((f26_eq p0_word p1_old p2_new h0 post).mpr hx)

/- (*latchgarth/comb.Comb).combine -/
def f27_L1 (r13 : Nat) (x17 : Int) (x18 : Int) (x19 : Int) (x20 : Int) (x21 : Int) (x22 : Int) (x23 : Int) (x24 : Int) (R25 : H → Prop) (I26 : Nat → Int → H → Prop) (n27 : Nat) (x30 : Int) (h31 : H) : Prop :=
 VIf (decide (x30 < (4 : Int))) (
 0 ≤ x30 ∧ x30 < ((4 : Nat) : Int) ∧
 ∃ x32 : Int, ([(Value.int .i64 x17), (Value.int .i64 x18), (Value.int .i64 x19), (Value.int .i64 x20), (Value.int .i64 x21), (Value.int .i64 x22), (Value.int .i64 x23), (Value.int .i64 x24)])[(x30).toNat * 2 + 0]? = some (Value.int .i64 x32) ∧
 ∃ x33 : Int, ([(Value.int .i64 x17), (Value.int .i64 x18), (Value.int .i64 x19), (Value.int .i64 x20), (Value.int .i64 x21), (Value.int .i64 x22), (Value.int .i64 x23), (Value.int .i64 x24)])[(x30).toNat * 2 + 1]? = some (Value.int .i64 x33) ∧
 H.new h31 [(Value.int .i64 0), (Value.int .i64 0)] fun r34 h35 =>
 ([(Value.int .i64 x32), (Value.int .i64 x33)]).length = 2 ∧ (Program.underlying Go.Proofs.Tryd.prog 56).isSome = true ∧
 H.wr h35 (Addr.mk r34 0 none) ([(Value.int .i64 x32), (Value.int .i64 x33)]) fun h36 =>
 ∃ x37 : Int, H.rd h36 (Addr.add (Addr.add (Addr.mk r34 0 none) 1) 0) (Value.int .i64 x37) ∧
 0 ≤ x30 ∧ x30 < ((4 : Nat) : Int) ∧
 ∃ x38 : Int, H.rd h36 (Addr.add (Addr.add (Addr.add (Addr.mk r13 0 none) 1) ((x30).toNat * 1)) 0) (Value.int .i64 x38) ∧
 In64 (x38 + (1 : Int)) ∧
 VIf (x37 == (x38 + (1 : Int))) (
 ∃ x39 : Int, H.rd h36 (Addr.add (Addr.add (Addr.mk r13 0 none) 0) 0) (Value.int .i64 x39) ∧
 0 ≤ x30 ∧ x30 < ((4 : Nat) : Int) ∧
 H.wr h36 (Addr.add (Addr.add (Addr.mk r13 0 none) 5) ((x30).toNat * 1)) ([(Value.int .i64 x39)]) fun h40 =>
 ∃ x41 : Int, H.rd h40 (Addr.add (Addr.add (Addr.mk r13 0 none) 0) 0) (Value.int .i64 x41) ∧
 ∃ x42 : Int, H.rd h40 (Addr.add (Addr.add (Addr.mk r34 0 none) 0) 0) (Value.int .i64 x42) ∧
 In64 (x41 + x42) ∧
 H.wr h40 (Addr.add (Addr.mk r13 0 none) 0) ([(Value.int .i64 (x41 + x42))]) fun h43 =>
 ∃ x44 : Int, H.rd h43 (Addr.add (Addr.add (Addr.mk r34 0 none) 1) 0) (Value.int .i64 x44) ∧
 0 ≤ x30 ∧ x30 < ((4 : Nat) : Int) ∧
 H.wr h43 (Addr.add (Addr.add (Addr.mk r13 0 none) 1) ((x30).toNat * 1)) ([(Value.int .i64 x44)]) fun h45 =>
 In64 (x30 + (1 : Int)) ∧
 ∃ m28, m28 < n27 ∧ (∃ h46, Gh h45 h46 ∧ I26 m28 (x30 + (1 : Int)) h46)) (
 In64 (x30 + (1 : Int)) ∧
 ∃ m28, m28 < n27 ∧ (∃ h47, Gh h36 h47 ∧ I26 m28 (x30 + (1 : Int)) h47))) (
 (∃ h48, Gh h31 h48 ∧ R25 h48))

def f27_J2 (p0_c : Option Addr) (post : Value → H → Prop) (r13 : Nat) (h49 : H) : Prop :=
 ∃ a50 : Addr, p0_c = some a50 ∧
 ∃ x51 : Int, H.rd h49 (Addr.add (Addr.add a50 37) 0) (Value.int .i64 x51) ∧
 In64 ((1 : Int) - x51) ∧
 ∃ x52 : Int, H.rd h49 (Addr.add (Addr.mk r13 0 none) 0) (Value.int .i64 x52) ∧
 ∃ x53 : Int, H.rd h49 (Addr.add (Addr.mk r13 0 none) 1) (Value.int .i64 x53) ∧
 ∃ x54 : Int, H.rd h49 (Addr.add (Addr.mk r13 0 none) 2) (Value.int .i64 x54) ∧
 ∃ x55 : Int, H.rd h49 (Addr.add (Addr.mk r13 0 none) 3) (Value.int .i64 x55) ∧
 ∃ x56 : Int, H.rd h49 (Addr.add (Addr.mk r13 0 none) 4) (Value.int .i64 x56) ∧
 ∃ x57 : Int, H.rd h49 (Addr.add (Addr.mk r13 0 none) 5) (Value.int .i64 x57) ∧
 ∃ x58 : Int, H.rd h49 (Addr.add (Addr.mk r13 0 none) 6) (Value.int .i64 x58) ∧
 ∃ x59 : Int, H.rd h49 (Addr.add (Addr.mk r13 0 none) 7) (Value.int .i64 x59) ∧
 ∃ x60 : Int, H.rd h49 (Addr.add (Addr.mk r13 0 none) 8) (Value.int .i64 x60) ∧
 ∃ a61 : Addr, p0_c = some a61 ∧
 0 ≤ ((1 : Int) - x51) ∧ ((1 : Int) - x51) < ((2 : Nat) : Int) ∧
 ([(Value.int .i64 x52), (Value.int .i64 x53), (Value.int .i64 x54), (Value.int .i64 x55), (Value.int .i64 x56), (Value.int .i64 x57), (Value.int .i64 x58), (Value.int .i64 x59), (Value.int .i64 x60)]).length = 9 ∧ (Program.underlying Go.Proofs.Tryd.prog 53).isSome = true ∧
 H.wr h49 (Addr.add (Addr.add a61 1) ((((1 : Int) - x51)).toNat * 9)) ([(Value.int .i64 x52), (Value.int .i64 x53), (Value.int .i64 x54), (Value.int .i64 x55), (Value.int .i64 x56), (Value.int .i64 x57), (Value.int .i64 x58), (Value.int .i64 x59), (Value.int .i64 x60)]) fun h62 =>
 VRet h62 (Value.tuple (List.toArray [])) post

def f27_sem (p0_c : Option Addr) (h0 : H) (post : Value → H → Prop) : Prop :=
 ∃ a1 : Addr, p0_c = some a1 ∧
 ∃ a2 : Addr, p0_c = some a2 ∧
 ∃ x3 : Int, H.rd h0 (Addr.add (Addr.add a1 37) 0) (Value.int .i64 x3) ∧
 0 ≤ x3 ∧ x3 < ((2 : Nat) : Int) ∧
 ∃ x4 : Int, H.rd h0 (Addr.add (Addr.add (Addr.add a2 1) ((x3).toNat * 9)) 0) (Value.int .i64 x4) ∧
 ∃ x5 : Int, H.rd h0 (Addr.add (Addr.add (Addr.add a2 1) ((x3).toNat * 9)) 1) (Value.int .i64 x5) ∧
 ∃ x6 : Int, H.rd h0 (Addr.add (Addr.add (Addr.add a2 1) ((x3).toNat * 9)) 2) (Value.int .i64 x6) ∧
 ∃ x7 : Int, H.rd h0 (Addr.add (Addr.add (Addr.add a2 1) ((x3).toNat * 9)) 3) (Value.int .i64 x7) ∧
 ∃ x8 : Int, H.rd h0 (Addr.add (Addr.add (Addr.add a2 1) ((x3).toNat * 9)) 4) (Value.int .i64 x8) ∧
 ∃ x9 : Int, H.rd h0 (Addr.add (Addr.add (Addr.add a2 1) ((x3).toNat * 9)) 5) (Value.int .i64 x9) ∧
 ∃ x10 : Int, H.rd h0 (Addr.add (Addr.add (Addr.add a2 1) ((x3).toNat * 9)) 6) (Value.int .i64 x10) ∧
 ∃ x11 : Int, H.rd h0 (Addr.add (Addr.add (Addr.add a2 1) ((x3).toNat * 9)) 7) (Value.int .i64 x11) ∧
 ∃ x12 : Int, H.rd h0 (Addr.add (Addr.add (Addr.add a2 1) ((x3).toNat * 9)) 8) (Value.int .i64 x12) ∧
 H.new h0 [(Value.int .i64 0), (Value.int .i64 0), (Value.int .i64 0), (Value.int .i64 0), (Value.int .i64 0), (Value.int .i64 0), (Value.int .i64 0), (Value.int .i64 0), (Value.int .i64 0)] fun r13 h14 =>
 ([(Value.int .i64 x4), (Value.int .i64 x5), (Value.int .i64 x6), (Value.int .i64 x7), (Value.int .i64 x8), (Value.int .i64 x9), (Value.int .i64 x10), (Value.int .i64 x11), (Value.int .i64 x12)]).length = 9 ∧ (Program.underlying Go.Proofs.Tryd.prog 53).isSome = true ∧
 H.wr h14 (Addr.mk r13 0 none) ([(Value.int .i64 x4), (Value.int .i64 x5), (Value.int .i64 x6), (Value.int .i64 x7), (Value.int .i64 x8), (Value.int .i64 x9), (Value.int .i64 x10), (Value.int .i64 x11), (Value.int .i64 x12)]) fun h15 =>
 ∃ a16 : Addr, p0_c = some a16 ∧
 ∃ x17 : Int, H.rd h15 (Addr.add (Addr.add a16 39) 0) (Value.int .i64 x17) ∧
 ∃ x18 : Int, H.rd h15 (Addr.add (Addr.add a16 39) 1) (Value.int .i64 x18) ∧
 ∃ x19 : Int, H.rd h15 (Addr.add (Addr.add a16 39) 2) (Value.int .i64 x19) ∧
 ∃ x20 : Int, H.rd h15 (Addr.add (Addr.add a16 39) 3) (Value.int .i64 x20) ∧
 ∃ x21 : Int, H.rd h15 (Addr.add (Addr.add a16 39) 4) (Value.int .i64 x21) ∧
 ∃ x22 : Int, H.rd h15 (Addr.add (Addr.add a16 39) 5) (Value.int .i64 x22) ∧
 ∃ x23 : Int, H.rd h15 (Addr.add (Addr.add a16 39) 6) (Value.int .i64 x23) ∧
 ∃ x24 : Int, H.rd h15 (Addr.add (Addr.add a16 39) 7) (Value.int .i64 x24) ∧
 ∃ R25 : H → Prop, (
 ∃ I26 : Nat → Int → H → Prop, (∃ n27, (∃ h29, Gh h15 h29 ∧ I26 n27 (0 : Int) h29)) ∧
 ∀ (n27 : Nat) (_ : F) (x30 : Int) (h31 : H), I26 n27 x30 h31 →
 f27_L1 r13 x17 x18 x19 x20 x21 x22 x23 x24 R25 I26 n27 x30 h31) ∧
 ∀ (_ : F) (h49 : H), R25 h49 →
 f27_J2 p0_c post r13 h49

def f27_hint : Hint := (.node .lex (.node (.node .leaf (.join [] (.node (.loop [(18, .int)] .leaf) .leaf))) (.tail 10)))

theorem f27_eq (p0_c : Option Addr) (h0 : H) (post : Value → H → Prop) : exec Tryd.prog (bodyOf Tryd.f27) f27_hint (retQ Tryd.prog Tryd.f27 post) (F0 [(Value.pointer p0_c)]) h0 = f27_sem p0_c h0 post := by kernel_rfl

set_option maxRecDepth 20000 in
theorem f27_call (p0_c : Option Addr) (h0 : H) (post : Value → H → Prop) (hx : f27_sem p0_c h0 post) : SemCall Tryd.prog 27 (List.toArray [(Value.pointer p0_c)]) h0 post :=
 sem_of_exec (g := f27_hint) mixed Tryd.func27 (bodyOf_eq (by kernel_rfl)) (by kernel_rfl) ((f27_eq p0_c h0 post).mpr hx)

/- slices.Clone[[]int,int] -/
def f28_sem (p0_s : SV) (h0 : H) (post : Value → H → Prop) : Prop :=
 VIf (Option.isNone p0_s.a) (
 VRet h0 (Value.slice none 0 0) post) (
 H.new h0 [] fun r1 h2 =>
 appVC Go.Proofs.Tryd.prog 29 (Value.slice (some (Addr.mk r1 0 none)) 0 0) (Value.slice p0_s.a p0_s.len p0_s.cap) h2 fun x3 h4 =>
 VRet h4 (Value.slice x3.a x3.len x3.cap) post)

def f28_hint : Hint := .leaf

theorem f28_eq (p0_s : SV) (h0 : H) (post : Value → H → Prop) : exec Tryd.prog (bodyOf Tryd.f28) f28_hint (retQ Tryd.prog Tryd.f28 post) (F0 [(Value.slice p0_s.a p0_s.len p0_s.cap)]) h0 = f28_sem p0_s h0 post := by kernel_rfl

set_option maxRecDepth 20000 in
theorem f28_call (p0_s : SV) (h0 : H) (post : Value → H → Prop) (hx : f28_sem p0_s h0 post) : SemCall Tryd.prog 28 (List.toArray [(Value.slice p0_s.a p0_s.len p0_s.cap)]) h0 post :=
 sem_of_exec (g := f28_hint) mixed Tryd.func28 (bodyOf_eq (by kernel_rfl)) (by kernel_rfl) ((f28_eq p0_s h0 post).mpr hx)

end Go.Proofs.YtockhbbpcbcenaaDoor
