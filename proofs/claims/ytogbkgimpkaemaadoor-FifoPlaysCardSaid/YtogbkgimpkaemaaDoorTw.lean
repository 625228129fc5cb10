import Derived.Test.YtogbkgimpkaemaaDoorEngG
import Derived.Test.YtogbkgimpkaemaaDoorRows
import Derived.Test.YtogbkgimpkaemaaDoorT
namespace Go.Proofs.YtogbkgimpkaemaaDoor
open Go.Eng
abbrev Rs (h : H) (r j : Nat) (K : SV → Prop) : Prop := ∃ x : SV, H.rd h (Addr.add (Addr.mk r 0 none) j) (Value.slice x.a x.len x.cap) ∧ K x
abbrev Ri (h : H) (r j : Nat) (K : Int → Prop) : Prop := ∃ x : Int, H.rd h (Addr.add (Addr.mk r 0 none) j) (Value.int .i64 x) ∧ K x
/- latchgarth/latchgarthref3.StepFifo -/
def f20_J1 (p1_p : Int) (post : Value → H → Prop) (r1 : Nat) (r3 : Nat) (h248 : H) : Prop :=
 Ri h248 r1 0 fun x249 =>
 Ri h248 r1 1 fun x250 =>
 Rs h248 r1 2 fun x251 =>
 Rs h248 r1 3 fun x252 =>
 Rs h248 r1 4 fun x253 =>
 Rs h248 r1 5 fun x254 =>
 Rs h248 r1 6 fun x255 =>
 Rs h248 r1 7 fun x256 =>
 Rs h248 r1 8 fun x257 =>
 SemCall Go.Proofs.Tryd.prog 36 (List.toArray [(Value.agg (List.toArray [(Value.int .i64 x249), (Value.int .i64 x250), (Value.slice x251.a x251.len x251.cap), (Value.slice x252.a x252.len x252.cap), (Value.slice x253.a x253.len x253.cap), (Value.slice x254.a x254.len x254.cap), (Value.slice x255.a x255.len x255.cap), (Value.slice x256.a x256.len x256.cap), (Value.slice x257.a x257.len x257.cap)])), (Value.int .i64 p1_p), (Value.int .i64 (1 : Int))]) h248 fun v258 h259 =>
 ∃ x260 : Int, ∃ x261 : Int, ∃ x262 : SV, ∃ x263 : SV, ∃ x264 : SV, ∃ x265 : SV, ∃ x266 : SV, ∃ x267 : SV, ∃ x268 : SV, v258 = (Value.agg (List.toArray [(Value.int .i64 x260), (Value.int .i64 x261), (Value.slice x262.a x262.len x262.cap), (Value.slice x263.a x263.len x263.cap), (Value.slice x264.a x264.len x264.cap), (Value.slice x265.a x265.len x265.cap), (Value.slice x266.a x266.len x266.cap), (Value.slice x267.a x267.len x267.cap), (Value.slice x268.a x268.len x268.cap)])) ∧
 ([(Value.int .i64 x260), (Value.int .i64 x261), (Value.slice x262.a x262.len x262.cap), (Value.slice x263.a x263.len x263.cap), (Value.slice x264.a x264.len x264.cap), (Value.slice x265.a x265.len x265.cap), (Value.slice x266.a x266.len x266.cap), (Value.slice x267.a x267.len x267.cap), (Value.slice x268.a x268.len x268.cap)]).length = 9 ∧ (Program.underlying Go.Proofs.Tryd.prog 50).isSome = true ∧
 H.wr h259 (Addr.mk r3 0 none) ([(Value.int .i64 x260), (Value.int .i64 x261), (Value.slice x262.a x262.len x262.cap), (Value.slice x263.a x263.len x263.cap), (Value.slice x264.a x264.len x264.cap), (Value.slice x265.a x265.len x265.cap), (Value.slice x266.a x266.len x266.cap), (Value.slice x267.a x267.len x267.cap), (Value.slice x268.a x268.len x268.cap)]) fun h269 =>
 Ri h269 r3 0 fun x270 =>
 Ri h269 r3 1 fun x271 =>
 Rs h269 r3 2 fun x272 =>
 Rs h269 r3 3 fun x273 =>
 Rs h269 r3 4 fun x274 =>
 Rs h269 r3 5 fun x275 =>
 Rs h269 r3 6 fun x276 =>
 Rs h269 r3 7 fun x277 =>
 Rs h269 r3 8 fun x278 =>
 VRet h269 (Value.tuple (List.toArray [(Value.agg (List.toArray [(Value.int .i64 x270), (Value.int .i64 x271), (Value.slice x272.a x272.len x272.cap), (Value.slice x273.a x273.len x273.cap), (Value.slice x274.a x274.len x274.cap), (Value.slice x275.a x275.len x275.cap), (Value.slice x276.a x276.len x276.cap), (Value.slice x277.a x277.len x277.cap), (Value.slice x278.a x278.len x278.cap)])), (Value.bool false), (Value.int .i64 0), (Value.int .i64 0)])) post

def f20_J2 (p1_p : Int) (post : Value → H → Prop) (r1 : Nat) (r3 : Nat) (h290 : H) : Prop :=
 Ri h290 r1 0 fun x291 =>
 Ri h290 r1 1 fun x292 =>
 Rs h290 r1 2 fun x293 =>
 Rs h290 r1 3 fun x294 =>
 Rs h290 r1 4 fun x295 =>
 Rs h290 r1 5 fun x296 =>
 Rs h290 r1 6 fun x297 =>
 Rs h290 r1 7 fun x298 =>
 Rs h290 r1 8 fun x299 =>
 SemCall Go.Proofs.Tryd.prog 36 (List.toArray [(Value.agg (List.toArray [(Value.int .i64 x291), (Value.int .i64 x292), (Value.slice x293.a x293.len x293.cap), (Value.slice x294.a x294.len x294.cap), (Value.slice x295.a x295.len x295.cap), (Value.slice x296.a x296.len x296.cap), (Value.slice x297.a x297.len x297.cap), (Value.slice x298.a x298.len x298.cap), (Value.slice x299.a x299.len x299.cap)])), (Value.int .i64 p1_p), (Value.int .i64 0)]) h290 fun v300 h301 =>
 ∃ x302 : Int, ∃ x303 : Int, ∃ x304 : SV, ∃ x305 : SV, ∃ x306 : SV, ∃ x307 : SV, ∃ x308 : SV, ∃ x309 : SV, ∃ x310 : SV, v300 = (Value.agg (List.toArray [(Value.int .i64 x302), (Value.int .i64 x303), (Value.slice x304.a x304.len x304.cap), (Value.slice x305.a x305.len x305.cap), (Value.slice x306.a x306.len x306.cap), (Value.slice x307.a x307.len x307.cap), (Value.slice x308.a x308.len x308.cap), (Value.slice x309.a x309.len x309.cap), (Value.slice x310.a x310.len x310.cap)])) ∧
 ([(Value.int .i64 x302), (Value.int .i64 x303), (Value.slice x304.a x304.len x304.cap), (Value.slice x305.a x305.len x305.cap), (Value.slice x306.a x306.len x306.cap), (Value.slice x307.a x307.len x307.cap), (Value.slice x308.a x308.len x308.cap), (Value.slice x309.a x309.len x309.cap), (Value.slice x310.a x310.len x310.cap)]).length = 9 ∧ (Program.underlying Go.Proofs.Tryd.prog 50).isSome = true ∧
 H.wr h301 (Addr.mk r3 0 none) ([(Value.int .i64 x302), (Value.int .i64 x303), (Value.slice x304.a x304.len x304.cap), (Value.slice x305.a x305.len x305.cap), (Value.slice x306.a x306.len x306.cap), (Value.slice x307.a x307.len x307.cap), (Value.slice x308.a x308.len x308.cap), (Value.slice x309.a x309.len x309.cap), (Value.slice x310.a x310.len x310.cap)]) fun h311 =>
 Ri h311 r3 0 fun x312 =>
 Ri h311 r3 1 fun x313 =>
 Rs h311 r3 2 fun x314 =>
 Rs h311 r3 3 fun x315 =>
 Rs h311 r3 4 fun x316 =>
 Rs h311 r3 5 fun x317 =>
 Rs h311 r3 6 fun x318 =>
 Rs h311 r3 7 fun x319 =>
 Rs h311 r3 8 fun x320 =>
 VRet h311 (Value.tuple (List.toArray [(Value.agg (List.toArray [(Value.int .i64 x312), (Value.int .i64 x313), (Value.slice x314.a x314.len x314.cap), (Value.slice x315.a x315.len x315.cap), (Value.slice x316.a x316.len x316.cap), (Value.slice x317.a x317.len x317.cap), (Value.slice x318.a x318.len x318.cap), (Value.slice x319.a x319.len x319.cap), (Value.slice x320.a x320.len x320.cap)])), (Value.bool true), (Value.int .i64 (-1 : Int)), (Value.int .i64 0)])) post

def f20_J3 (p1_p : Int) (post : Value → H → Prop) (r1 : Nat) (r3 : Nat) (h514 : H) : Prop :=
 Ri h514 r1 0 fun x515 =>
 Ri h514 r1 1 fun x516 =>
 Rs h514 r1 2 fun x517 =>
 Rs h514 r1 3 fun x518 =>
 Rs h514 r1 4 fun x519 =>
 Rs h514 r1 5 fun x520 =>
 Rs h514 r1 6 fun x521 =>
 Rs h514 r1 7 fun x522 =>
 Rs h514 r1 8 fun x523 =>
 SemCall Go.Proofs.Tryd.prog 36 (List.toArray [(Value.agg (List.toArray [(Value.int .i64 x515), (Value.int .i64 x516), (Value.slice x517.a x517.len x517.cap), (Value.slice x518.a x518.len x518.cap), (Value.slice x519.a x519.len x519.cap), (Value.slice x520.a x520.len x520.cap), (Value.slice x521.a x521.len x521.cap), (Value.slice x522.a x522.len x522.cap), (Value.slice x523.a x523.len x523.cap)])), (Value.int .i64 p1_p), (Value.int .i64 (6 : Int))]) h514 fun v524 h525 =>
 ∃ x526 : Int, ∃ x527 : Int, ∃ x528 : SV, ∃ x529 : SV, ∃ x530 : SV, ∃ x531 : SV, ∃ x532 : SV, ∃ x533 : SV, ∃ x534 : SV, v524 = (Value.agg (List.toArray [(Value.int .i64 x526), (Value.int .i64 x527), (Value.slice x528.a x528.len x528.cap), (Value.slice x529.a x529.len x529.cap), (Value.slice x530.a x530.len x530.cap), (Value.slice x531.a x531.len x531.cap), (Value.slice x532.a x532.len x532.cap), (Value.slice x533.a x533.len x533.cap), (Value.slice x534.a x534.len x534.cap)])) ∧
 ([(Value.int .i64 x526), (Value.int .i64 x527), (Value.slice x528.a x528.len x528.cap), (Value.slice x529.a x529.len x529.cap), (Value.slice x530.a x530.len x530.cap), (Value.slice x531.a x531.len x531.cap), (Value.slice x532.a x532.len x532.cap), (Value.slice x533.a x533.len x533.cap), (Value.slice x534.a x534.len x534.cap)]).length = 9 ∧ (Program.underlying Go.Proofs.Tryd.prog 50).isSome = true ∧
 H.wr h525 (Addr.mk r3 0 none) ([(Value.int .i64 x526), (Value.int .i64 x527), (Value.slice x528.a x528.len x528.cap), (Value.slice x529.a x529.len x529.cap), (Value.slice x530.a x530.len x530.cap), (Value.slice x531.a x531.len x531.cap), (Value.slice x532.a x532.len x532.cap), (Value.slice x533.a x533.len x533.cap), (Value.slice x534.a x534.len x534.cap)]) fun h535 =>
 Ri h535 r3 0 fun x536 =>
 Ri h535 r3 1 fun x537 =>
 Rs h535 r3 2 fun x538 =>
 Rs h535 r3 3 fun x539 =>
 Rs h535 r3 4 fun x540 =>
 Rs h535 r3 5 fun x541 =>
 Rs h535 r3 6 fun x542 =>
 Rs h535 r3 7 fun x543 =>
 Rs h535 r3 8 fun x544 =>
 VRet h535 (Value.tuple (List.toArray [(Value.agg (List.toArray [(Value.int .i64 x536), (Value.int .i64 x537), (Value.slice x538.a x538.len x538.cap), (Value.slice x539.a x539.len x539.cap), (Value.slice x540.a x540.len x540.cap), (Value.slice x541.a x541.len x541.cap), (Value.slice x542.a x542.len x542.cap), (Value.slice x543.a x543.len x543.cap), (Value.slice x544.a x544.len x544.cap)])), (Value.bool false), (Value.int .i64 0), (Value.int .i64 0)])) post

def f20_sem (p0_0_f : Int) (p0_1_f : Int) (p0_2_f : SV) (p0_3_f : SV) (p0_4_f : SV) (p0_5_f : SV) (p0_6_f : SV) (p0_7_f : SV) (p0_8_f : SV) (p1_p : Int) (h0 : H) (post : Value → H → Prop) : Prop :=
 H.new h0 [(Value.int .i64 p0_0_f), (Value.int .i64 p0_1_f), (Value.slice p0_2_f.a p0_2_f.len p0_2_f.cap), (Value.slice p0_3_f.a p0_3_f.len p0_3_f.cap), (Value.slice p0_4_f.a p0_4_f.len p0_4_f.cap), (Value.slice p0_5_f.a p0_5_f.len p0_5_f.cap), (Value.slice p0_6_f.a p0_6_f.len p0_6_f.cap), (Value.slice p0_7_f.a p0_7_f.len p0_7_f.cap), (Value.slice p0_8_f.a p0_8_f.len p0_8_f.cap)] fun r1 h2 =>
 H.new h2 [(Value.int .i64 0), (Value.int .i64 0), (Value.slice none 0 0), (Value.slice none 0 0), (Value.slice none 0 0), (Value.slice none 0 0), (Value.slice none 0 0), (Value.slice none 0 0), (Value.slice none 0 0)] fun r3 h4 =>
 ∃ x5 : SV, H.rd h4 (Addr.add (Addr.add (Addr.mk r1 0 none) 4) 0) (Value.slice x5.a x5.len x5.cap) ∧
 In64 (((x5.len : Nat) : Int) - (1 : Int)) ∧
 SemCall Go.Proofs.Tryd.prog 30 (List.toArray [(Value.int .i64 p1_p), (Value.int .i64 0), (Value.int .i64 (((x5.len : Nat) : Int) - (1 : Int)))]) h4 fun v6 h7 =>
 ∃ x8 : Bool, v6 = (Value.bool x8) ∧
 VIf (!x8) (
 Ri h7 r1 0 fun x9 =>
 Ri h7 r1 1 fun x10 =>
 Rs h7 r1 2 fun x11 =>
 Rs h7 r1 3 fun x12 =>
 Rs h7 r1 4 fun x13 =>
 Rs h7 r1 5 fun x14 =>
 Rs h7 r1 6 fun x15 =>
 Rs h7 r1 7 fun x16 =>
 Rs h7 r1 8 fun x17 =>
 ([(Value.int .i64 x9), (Value.int .i64 x10), (Value.slice x11.a x11.len x11.cap), (Value.slice x12.a x12.len x12.cap), (Value.slice x13.a x13.len x13.cap), (Value.slice x14.a x14.len x14.cap), (Value.slice x15.a x15.len x15.cap), (Value.slice x16.a x16.len x16.cap), (Value.slice x17.a x17.len x17.cap)]).length = 9 ∧ (Program.underlying Go.Proofs.Tryd.prog 50).isSome = true ∧
 H.wr h7 (Addr.mk r3 0 none) ([(Value.int .i64 x9), (Value.int .i64 x10), (Value.slice x11.a x11.len x11.cap), (Value.slice x12.a x12.len x12.cap), (Value.slice x13.a x13.len x13.cap), (Value.slice x14.a x14.len x14.cap), (Value.slice x15.a x15.len x15.cap), (Value.slice x16.a x16.len x16.cap), (Value.slice x17.a x17.len x17.cap)]) fun h18 =>
 Ri h18 r3 0 fun x19 =>
 Ri h18 r3 1 fun x20 =>
 Rs h18 r3 2 fun x21 =>
 Rs h18 r3 3 fun x22 =>
 Rs h18 r3 4 fun x23 =>
 Rs h18 r3 5 fun x24 =>
 Rs h18 r3 6 fun x25 =>
 Rs h18 r3 7 fun x26 =>
 Rs h18 r3 8 fun x27 =>
 VRet h18 (Value.tuple (List.toArray [(Value.agg (List.toArray [(Value.int .i64 x19), (Value.int .i64 x20), (Value.slice x21.a x21.len x21.cap), (Value.slice x22.a x22.len x22.cap), (Value.slice x23.a x23.len x23.cap), (Value.slice x24.a x24.len x24.cap), (Value.slice x25.a x25.len x25.cap), (Value.slice x26.a x26.len x26.cap), (Value.slice x27.a x27.len x27.cap)])), (Value.bool false), (Value.int .i64 0), (Value.int .i64 (1 : Int))])) post) (
 ∃ x28 : SV, H.rd h7 (Addr.add (Addr.add (Addr.mk r1 0 none) 4) 0) (Value.slice x28.a x28.len x28.cap) ∧
 ∃ b29 : Addr, x28.a = some b29 ∧ 0 ≤ p1_p ∧ p1_p < ((x28.len : Nat) : Int) ∧
 ∃ x30 : Int, H.rd h7 (Addr.add (Addr.add b29 ((p1_p).toNat * 1)) 0) (Value.int .i64 x30) ∧
 VIf (x30 == (0 : Int)) (
 Ri h7 r1 0 fun x31 =>
 Ri h7 r1 1 fun x32 =>
 Rs h7 r1 2 fun x33 =>
 Rs h7 r1 3 fun x34 =>
 Rs h7 r1 4 fun x35 =>
 Rs h7 r1 5 fun x36 =>
 Rs h7 r1 6 fun x37 =>
 Rs h7 r1 7 fun x38 =>
 Rs h7 r1 8 fun x39 =>
 ([(Value.int .i64 x31), (Value.int .i64 x32), (Value.slice x33.a x33.len x33.cap), (Value.slice x34.a x34.len x34.cap), (Value.slice x35.a x35.len x35.cap), (Value.slice x36.a x36.len x36.cap), (Value.slice x37.a x37.len x37.cap), (Value.slice x38.a x38.len x38.cap), (Value.slice x39.a x39.len x39.cap)]).length = 9 ∧ (Program.underlying Go.Proofs.Tryd.prog 50).isSome = true ∧
 H.wr h7 (Addr.mk r3 0 none) ([(Value.int .i64 x31), (Value.int .i64 x32), (Value.slice x33.a x33.len x33.cap), (Value.slice x34.a x34.len x34.cap), (Value.slice x35.a x35.len x35.cap), (Value.slice x36.a x36.len x36.cap), (Value.slice x37.a x37.len x37.cap), (Value.slice x38.a x38.len x38.cap), (Value.slice x39.a x39.len x39.cap)]) fun h40 =>
 Ri h40 r3 0 fun x41 =>
 Ri h40 r3 1 fun x42 =>
 Rs h40 r3 2 fun x43 =>
 Rs h40 r3 3 fun x44 =>
 Rs h40 r3 4 fun x45 =>
 Rs h40 r3 5 fun x46 =>
 Rs h40 r3 6 fun x47 =>
 Rs h40 r3 7 fun x48 =>
 Rs h40 r3 8 fun x49 =>
 VRet h40 (Value.tuple (List.toArray [(Value.agg (List.toArray [(Value.int .i64 x41), (Value.int .i64 x42), (Value.slice x43.a x43.len x43.cap), (Value.slice x44.a x44.len x44.cap), (Value.slice x45.a x45.len x45.cap), (Value.slice x46.a x46.len x46.cap), (Value.slice x47.a x47.len x47.cap), (Value.slice x48.a x48.len x48.cap), (Value.slice x49.a x49.len x49.cap)])), (Value.bool false), (Value.int .i64 0), (Value.int .i64 (7 : Int))])) post) (
 VIf (x30 == (1 : Int)) (
 ∃ x50 : SV, H.rd h7 (Addr.add (Addr.add (Addr.mk r1 0 none) 6) 0) (Value.slice x50.a x50.len x50.cap) ∧
 ∃ x51 : Int, H.rd h7 (Addr.add (Addr.add (Addr.mk r1 0 none) 1) 0) (Value.int .i64 x51) ∧
 SemCall Go.Proofs.Tryd.prog 31 (List.toArray [(Value.slice x50.a x50.len x50.cap), (Value.int .i64 p1_p), (Value.int .i64 x51)]) h7 fun v52 h53 =>
 ∃ x54 : SV, v52 = (Value.slice x54.a x54.len x54.cap) ∧
 H.wr h53 (Addr.add (Addr.mk r1 0 none) 6) ([(Value.slice x54.a x54.len x54.cap)]) fun h55 =>
 Ri h55 r1 0 fun x56 =>
 Ri h55 r1 1 fun x57 =>
 Rs h55 r1 2 fun x58 =>
 Rs h55 r1 3 fun x59 =>
 Rs h55 r1 4 fun x60 =>
 Rs h55 r1 5 fun x61 =>
 Rs h55 r1 6 fun x62 =>
 Rs h55 r1 7 fun x63 =>
 Rs h55 r1 8 fun x64 =>
 SemCall Go.Proofs.Tryd.prog 36 (List.toArray [(Value.agg (List.toArray [(Value.int .i64 x56), (Value.int .i64 x57), (Value.slice x58.a x58.len x58.cap), (Value.slice x59.a x59.len x59.cap), (Value.slice x60.a x60.len x60.cap), (Value.slice x61.a x61.len x61.cap), (Value.slice x62.a x62.len x62.cap), (Value.slice x63.a x63.len x63.cap), (Value.slice x64.a x64.len x64.cap)])), (Value.int .i64 p1_p), (Value.int .i64 (2 : Int))]) h55 fun v65 h66 =>
 ∃ x67 : Int, ∃ x68 : Int, ∃ x69 : SV, ∃ x70 : SV, ∃ x71 : SV, ∃ x72 : SV, ∃ x73 : SV, ∃ x74 : SV, ∃ x75 : SV, v65 = (Value.agg (List.toArray [(Value.int .i64 x67), (Value.int .i64 x68), (Value.slice x69.a x69.len x69.cap), (Value.slice x70.a x70.len x70.cap), (Value.slice x71.a x71.len x71.cap), (Value.slice x72.a x72.len x72.cap), (Value.slice x73.a x73.len x73.cap), (Value.slice x74.a x74.len x74.cap), (Value.slice x75.a x75.len x75.cap)])) ∧
 ([(Value.int .i64 x67), (Value.int .i64 x68), (Value.slice x69.a x69.len x69.cap), (Value.slice x70.a x70.len x70.cap), (Value.slice x71.a x71.len x71.cap), (Value.slice x72.a x72.len x72.cap), (Value.slice x73.a x73.len x73.cap), (Value.slice x74.a x74.len x74.cap), (Value.slice x75.a x75.len x75.cap)]).length = 9 ∧ (Program.underlying Go.Proofs.Tryd.prog 50).isSome = true ∧
 H.wr h66 (Addr.mk r3 0 none) ([(Value.int .i64 x67), (Value.int .i64 x68), (Value.slice x69.a x69.len x69.cap), (Value.slice x70.a x70.len x70.cap), (Value.slice x71.a x71.len x71.cap), (Value.slice x72.a x72.len x72.cap), (Value.slice x73.a x73.len x73.cap), (Value.slice x74.a x74.len x74.cap), (Value.slice x75.a x75.len x75.cap)]) fun h76 =>
 Ri h76 r3 0 fun x77 =>
 Ri h76 r3 1 fun x78 =>
 Rs h76 r3 2 fun x79 =>
 Rs h76 r3 3 fun x80 =>
 Rs h76 r3 4 fun x81 =>
 Rs h76 r3 5 fun x82 =>
 Rs h76 r3 6 fun x83 =>
 Rs h76 r3 7 fun x84 =>
 Rs h76 r3 8 fun x85 =>
 VRet h76 (Value.tuple (List.toArray [(Value.agg (List.toArray [(Value.int .i64 x77), (Value.int .i64 x78), (Value.slice x79.a x79.len x79.cap), (Value.slice x80.a x80.len x80.cap), (Value.slice x81.a x81.len x81.cap), (Value.slice x82.a x82.len x82.cap), (Value.slice x83.a x83.len x83.cap), (Value.slice x84.a x84.len x84.cap), (Value.slice x85.a x85.len x85.cap)])), (Value.bool false), (Value.int .i64 0), (Value.int .i64 0)])) post) (
 VIf (x30 == (2 : Int)) (
 ∃ x86 : SV, H.rd h7 (Addr.add (Addr.add (Addr.mk r1 0 none) 8) 0) (Value.slice x86.a x86.len x86.cap) ∧
 ∃ x87 : SV, H.rd h7 (Addr.add (Addr.add (Addr.mk r1 0 none) 3) 0) (Value.slice x87.a x87.len x87.cap) ∧
 ∃ x88 : SV, H.rd h7 (Addr.add (Addr.add (Addr.mk r1 0 none) 6) 0) (Value.slice x88.a x88.len x88.cap) ∧
 ∃ b89 : Addr, x88.a = some b89 ∧ 0 ≤ p1_p ∧ p1_p < ((x88.len : Nat) : Int) ∧
 ∃ x90 : Int, H.rd h7 (Addr.add (Addr.add b89 ((p1_p).toNat * 1)) 0) (Value.int .i64 x90) ∧
 ∃ b91 : Addr, x87.a = some b91 ∧ 0 ≤ x90 ∧ x90 < ((x87.len : Nat) : Int) ∧
 ∃ x92 : Int, H.rd h7 (Addr.add (Addr.add b91 ((x90).toNat * 1)) 0) (Value.int .i64 x92) ∧
 SemCall Go.Proofs.Tryd.prog 31 (List.toArray [(Value.slice x86.a x86.len x86.cap), (Value.int .i64 p1_p), (Value.int .i64 x92)]) h7 fun v93 h94 =>
 ∃ x95 : SV, v93 = (Value.slice x95.a x95.len x95.cap) ∧
 H.wr h94 (Addr.add (Addr.mk r1 0 none) 8) ([(Value.slice x95.a x95.len x95.cap)]) fun h96 =>
 ∃ x97 : SV, H.rd h96 (Addr.add (Addr.add (Addr.mk r1 0 none) 8) 0) (Value.slice x97.a x97.len x97.cap) ∧
 ∃ b98 : Addr, x97.a = some b98 ∧ 0 ≤ p1_p ∧ p1_p < ((x97.len : Nat) : Int) ∧
 ∃ x99 : Int, H.rd h96 (Addr.add (Addr.add b98 ((p1_p).toNat * 1)) 0) (Value.int .i64 x99) ∧
 VIf (decide (x99 ≥ (0 : Int))) (
 Ri h96 r1 0 fun x100 =>
 Ri h96 r1 1 fun x101 =>
 Rs h96 r1 2 fun x102 =>
 Rs h96 r1 3 fun x103 =>
 Rs h96 r1 4 fun x104 =>
 Rs h96 r1 5 fun x105 =>
 Rs h96 r1 6 fun x106 =>
 Rs h96 r1 7 fun x107 =>
 Rs h96 r1 8 fun x108 =>
 SemCall Go.Proofs.Tryd.prog 36 (List.toArray [(Value.agg (List.toArray [(Value.int .i64 x100), (Value.int .i64 x101), (Value.slice x102.a x102.len x102.cap), (Value.slice x103.a x103.len x103.cap), (Value.slice x104.a x104.len x104.cap), (Value.slice x105.a x105.len x105.cap), (Value.slice x106.a x106.len x106.cap), (Value.slice x107.a x107.len x107.cap), (Value.slice x108.a x108.len x108.cap)])), (Value.int .i64 p1_p), (Value.int .i64 (4 : Int))]) h96 fun v109 h110 =>
 ∃ x111 : Int, ∃ x112 : Int, ∃ x113 : SV, ∃ x114 : SV, ∃ x115 : SV, ∃ x116 : SV, ∃ x117 : SV, ∃ x118 : SV, ∃ x119 : SV, v109 = (Value.agg (List.toArray [(Value.int .i64 x111), (Value.int .i64 x112), (Value.slice x113.a x113.len x113.cap), (Value.slice x114.a x114.len x114.cap), (Value.slice x115.a x115.len x115.cap), (Value.slice x116.a x116.len x116.cap), (Value.slice x117.a x117.len x117.cap), (Value.slice x118.a x118.len x118.cap), (Value.slice x119.a x119.len x119.cap)])) ∧
 ([(Value.int .i64 x111), (Value.int .i64 x112), (Value.slice x113.a x113.len x113.cap), (Value.slice x114.a x114.len x114.cap), (Value.slice x115.a x115.len x115.cap), (Value.slice x116.a x116.len x116.cap), (Value.slice x117.a x117.len x117.cap), (Value.slice x118.a x118.len x118.cap), (Value.slice x119.a x119.len x119.cap)]).length = 9 ∧ (Program.underlying Go.Proofs.Tryd.prog 50).isSome = true ∧
 H.wr h110 (Addr.mk r3 0 none) ([(Value.int .i64 x111), (Value.int .i64 x112), (Value.slice x113.a x113.len x113.cap), (Value.slice x114.a x114.len x114.cap), (Value.slice x115.a x115.len x115.cap), (Value.slice x116.a x116.len x116.cap), (Value.slice x117.a x117.len x117.cap), (Value.slice x118.a x118.len x118.cap), (Value.slice x119.a x119.len x119.cap)]) fun h120 =>
 Ri h120 r3 0 fun x121 =>
 Ri h120 r3 1 fun x122 =>
 Rs h120 r3 2 fun x123 =>
 Rs h120 r3 3 fun x124 =>
 Rs h120 r3 4 fun x125 =>
 Rs h120 r3 5 fun x126 =>
 Rs h120 r3 6 fun x127 =>
 Rs h120 r3 7 fun x128 =>
 Rs h120 r3 8 fun x129 =>
 VRet h120 (Value.tuple (List.toArray [(Value.agg (List.toArray [(Value.int .i64 x121), (Value.int .i64 x122), (Value.slice x123.a x123.len x123.cap), (Value.slice x124.a x124.len x124.cap), (Value.slice x125.a x125.len x125.cap), (Value.slice x126.a x126.len x126.cap), (Value.slice x127.a x127.len x127.cap), (Value.slice x128.a x128.len x128.cap), (Value.slice x129.a x129.len x129.cap)])), (Value.bool false), (Value.int .i64 0), (Value.int .i64 0)])) post) (
 Ri h96 r1 0 fun x130 =>
 Ri h96 r1 1 fun x131 =>
 Rs h96 r1 2 fun x132 =>
 Rs h96 r1 3 fun x133 =>
 Rs h96 r1 4 fun x134 =>
 Rs h96 r1 5 fun x135 =>
 Rs h96 r1 6 fun x136 =>
 Rs h96 r1 7 fun x137 =>
 Rs h96 r1 8 fun x138 =>
 SemCall Go.Proofs.Tryd.prog 36 (List.toArray [(Value.agg (List.toArray [(Value.int .i64 x130), (Value.int .i64 x131), (Value.slice x132.a x132.len x132.cap), (Value.slice x133.a x133.len x133.cap), (Value.slice x134.a x134.len x134.cap), (Value.slice x135.a x135.len x135.cap), (Value.slice x136.a x136.len x136.cap), (Value.slice x137.a x137.len x137.cap), (Value.slice x138.a x138.len x138.cap)])), (Value.int .i64 p1_p), (Value.int .i64 (3 : Int))]) h96 fun v139 h140 =>
 ∃ x141 : Int, ∃ x142 : Int, ∃ x143 : SV, ∃ x144 : SV, ∃ x145 : SV, ∃ x146 : SV, ∃ x147 : SV, ∃ x148 : SV, ∃ x149 : SV, v139 = (Value.agg (List.toArray [(Value.int .i64 x141), (Value.int .i64 x142), (Value.slice x143.a x143.len x143.cap), (Value.slice x144.a x144.len x144.cap), (Value.slice x145.a x145.len x145.cap), (Value.slice x146.a x146.len x146.cap), (Value.slice x147.a x147.len x147.cap), (Value.slice x148.a x148.len x148.cap), (Value.slice x149.a x149.len x149.cap)])) ∧
 ([(Value.int .i64 x141), (Value.int .i64 x142), (Value.slice x143.a x143.len x143.cap), (Value.slice x144.a x144.len x144.cap), (Value.slice x145.a x145.len x145.cap), (Value.slice x146.a x146.len x146.cap), (Value.slice x147.a x147.len x147.cap), (Value.slice x148.a x148.len x148.cap), (Value.slice x149.a x149.len x149.cap)]).length = 9 ∧ (Program.underlying Go.Proofs.Tryd.prog 50).isSome = true ∧
 H.wr h140 (Addr.mk r3 0 none) ([(Value.int .i64 x141), (Value.int .i64 x142), (Value.slice x143.a x143.len x143.cap), (Value.slice x144.a x144.len x144.cap), (Value.slice x145.a x145.len x145.cap), (Value.slice x146.a x146.len x146.cap), (Value.slice x147.a x147.len x147.cap), (Value.slice x148.a x148.len x148.cap), (Value.slice x149.a x149.len x149.cap)]) fun h150 =>
 Ri h150 r3 0 fun x151 =>
 Ri h150 r3 1 fun x152 =>
 Rs h150 r3 2 fun x153 =>
 Rs h150 r3 3 fun x154 =>
 Rs h150 r3 4 fun x155 =>
 Rs h150 r3 5 fun x156 =>
 Rs h150 r3 6 fun x157 =>
 Rs h150 r3 7 fun x158 =>
 Rs h150 r3 8 fun x159 =>
 VRet h150 (Value.tuple (List.toArray [(Value.agg (List.toArray [(Value.int .i64 x151), (Value.int .i64 x152), (Value.slice x153.a x153.len x153.cap), (Value.slice x154.a x154.len x154.cap), (Value.slice x155.a x155.len x155.cap), (Value.slice x156.a x156.len x156.cap), (Value.slice x157.a x157.len x157.cap), (Value.slice x158.a x158.len x158.cap), (Value.slice x159.a x159.len x159.cap)])), (Value.bool false), (Value.int .i64 0), (Value.int .i64 0)])) post)) (
 VIf (x30 == (3 : Int)) (
 ∃ x160 : SV, H.rd h7 (Addr.add (Addr.add (Addr.mk r1 0 none) 3) 0) (Value.slice x160.a x160.len x160.cap) ∧
 ∃ x161 : SV, H.rd h7 (Addr.add (Addr.add (Addr.mk r1 0 none) 6) 0) (Value.slice x161.a x161.len x161.cap) ∧
 ∃ b162 : Addr, x161.a = some b162 ∧ 0 ≤ p1_p ∧ p1_p < ((x161.len : Nat) : Int) ∧
 ∃ x163 : Int, H.rd h7 (Addr.add (Addr.add b162 ((p1_p).toNat * 1)) 0) (Value.int .i64 x163) ∧
 ∃ b164 : Addr, x160.a = some b164 ∧ 0 ≤ x163 ∧ x163 < ((x160.len : Nat) : Int) ∧
 ∃ x165 : Int, H.rd h7 (Addr.add (Addr.add b164 ((x163).toNat * 1)) 0) (Value.int .i64 x165) ∧
 VIf (decide (x165 ≥ (0 : Int))) (
 Ri h7 r1 0 fun x166 =>
 Ri h7 r1 1 fun x167 =>
 Rs h7 r1 2 fun x168 =>
 Rs h7 r1 3 fun x169 =>
 Rs h7 r1 4 fun x170 =>
 Rs h7 r1 5 fun x171 =>
 Rs h7 r1 6 fun x172 =>
 Rs h7 r1 7 fun x173 =>
 Rs h7 r1 8 fun x174 =>
 SemCall Go.Proofs.Tryd.prog 36 (List.toArray [(Value.agg (List.toArray [(Value.int .i64 x166), (Value.int .i64 x167), (Value.slice x168.a x168.len x168.cap), (Value.slice x169.a x169.len x169.cap), (Value.slice x170.a x170.len x170.cap), (Value.slice x171.a x171.len x171.cap), (Value.slice x172.a x172.len x172.cap), (Value.slice x173.a x173.len x173.cap), (Value.slice x174.a x174.len x174.cap)])), (Value.int .i64 p1_p), (Value.int .i64 (1 : Int))]) h7 fun v175 h176 =>
 ∃ x177 : Int, ∃ x178 : Int, ∃ x179 : SV, ∃ x180 : SV, ∃ x181 : SV, ∃ x182 : SV, ∃ x183 : SV, ∃ x184 : SV, ∃ x185 : SV, v175 = (Value.agg (List.toArray [(Value.int .i64 x177), (Value.int .i64 x178), (Value.slice x179.a x179.len x179.cap), (Value.slice x180.a x180.len x180.cap), (Value.slice x181.a x181.len x181.cap), (Value.slice x182.a x182.len x182.cap), (Value.slice x183.a x183.len x183.cap), (Value.slice x184.a x184.len x184.cap), (Value.slice x185.a x185.len x185.cap)])) ∧
 ([(Value.int .i64 x177), (Value.int .i64 x178), (Value.slice x179.a x179.len x179.cap), (Value.slice x180.a x180.len x180.cap), (Value.slice x181.a x181.len x181.cap), (Value.slice x182.a x182.len x182.cap), (Value.slice x183.a x183.len x183.cap), (Value.slice x184.a x184.len x184.cap), (Value.slice x185.a x185.len x185.cap)]).length = 9 ∧ (Program.underlying Go.Proofs.Tryd.prog 50).isSome = true ∧
 H.wr h176 (Addr.mk r3 0 none) ([(Value.int .i64 x177), (Value.int .i64 x178), (Value.slice x179.a x179.len x179.cap), (Value.slice x180.a x180.len x180.cap), (Value.slice x181.a x181.len x181.cap), (Value.slice x182.a x182.len x182.cap), (Value.slice x183.a x183.len x183.cap), (Value.slice x184.a x184.len x184.cap), (Value.slice x185.a x185.len x185.cap)]) fun h186 =>
 Ri h186 r3 0 fun x187 =>
 Ri h186 r3 1 fun x188 =>
 Rs h186 r3 2 fun x189 =>
 Rs h186 r3 3 fun x190 =>
 Rs h186 r3 4 fun x191 =>
 Rs h186 r3 5 fun x192 =>
 Rs h186 r3 6 fun x193 =>
 Rs h186 r3 7 fun x194 =>
 Rs h186 r3 8 fun x195 =>
 VRet h186 (Value.tuple (List.toArray [(Value.agg (List.toArray [(Value.int .i64 x187), (Value.int .i64 x188), (Value.slice x189.a x189.len x189.cap), (Value.slice x190.a x190.len x190.cap), (Value.slice x191.a x191.len x191.cap), (Value.slice x192.a x192.len x192.cap), (Value.slice x193.a x193.len x193.cap), (Value.slice x194.a x194.len x194.cap), (Value.slice x195.a x195.len x195.cap)])), (Value.bool false), (Value.int .i64 0), (Value.int .i64 0)])) post) (
 ∃ x196 : SV, H.rd h7 (Addr.add (Addr.add (Addr.mk r1 0 none) 3) 0) (Value.slice x196.a x196.len x196.cap) ∧
 ∃ x197 : SV, H.rd h7 (Addr.add (Addr.add (Addr.mk r1 0 none) 6) 0) (Value.slice x197.a x197.len x197.cap) ∧
 ∃ b198 : Addr, x197.a = some b198 ∧ 0 ≤ p1_p ∧ p1_p < ((x197.len : Nat) : Int) ∧
 ∃ x199 : Int, H.rd h7 (Addr.add (Addr.add b198 ((p1_p).toNat * 1)) 0) (Value.int .i64 x199) ∧
 ∃ x200 : SV, H.rd h7 (Addr.add (Addr.add (Addr.mk r1 0 none) 5) 0) (Value.slice x200.a x200.len x200.cap) ∧
 ∃ b201 : Addr, x200.a = some b201 ∧ 0 ≤ p1_p ∧ p1_p < ((x200.len : Nat) : Int) ∧
 ∃ x202 : Int, H.rd h7 (Addr.add (Addr.add b201 ((p1_p).toNat * 1)) 0) (Value.int .i64 x202) ∧
 SemCall Go.Proofs.Tryd.prog 31 (List.toArray [(Value.slice x196.a x196.len x196.cap), (Value.int .i64 x199), (Value.int .i64 x202)]) h7 fun v203 h204 =>
 ∃ x205 : SV, v203 = (Value.slice x205.a x205.len x205.cap) ∧
 H.wr h204 (Addr.add (Addr.mk r1 0 none) 3) ([(Value.slice x205.a x205.len x205.cap)]) fun h206 =>
 Ri h206 r1 0 fun x207 =>
 Ri h206 r1 1 fun x208 =>
 Rs h206 r1 2 fun x209 =>
 Rs h206 r1 3 fun x210 =>
 Rs h206 r1 4 fun x211 =>
 Rs h206 r1 5 fun x212 =>
 Rs h206 r1 6 fun x213 =>
 Rs h206 r1 7 fun x214 =>
 Rs h206 r1 8 fun x215 =>
 SemCall Go.Proofs.Tryd.prog 36 (List.toArray [(Value.agg (List.toArray [(Value.int .i64 x207), (Value.int .i64 x208), (Value.slice x209.a x209.len x209.cap), (Value.slice x210.a x210.len x210.cap), (Value.slice x211.a x211.len x211.cap), (Value.slice x212.a x212.len x212.cap), (Value.slice x213.a x213.len x213.cap), (Value.slice x214.a x214.len x214.cap), (Value.slice x215.a x215.len x215.cap)])), (Value.int .i64 p1_p), (Value.int .i64 (5 : Int))]) h206 fun v216 h217 =>
 ∃ x218 : Int, ∃ x219 : Int, ∃ x220 : SV, ∃ x221 : SV, ∃ x222 : SV, ∃ x223 : SV, ∃ x224 : SV, ∃ x225 : SV, ∃ x226 : SV, v216 = (Value.agg (List.toArray [(Value.int .i64 x218), (Value.int .i64 x219), (Value.slice x220.a x220.len x220.cap), (Value.slice x221.a x221.len x221.cap), (Value.slice x222.a x222.len x222.cap), (Value.slice x223.a x223.len x223.cap), (Value.slice x224.a x224.len x224.cap), (Value.slice x225.a x225.len x225.cap), (Value.slice x226.a x226.len x226.cap)])) ∧
 ([(Value.int .i64 x218), (Value.int .i64 x219), (Value.slice x220.a x220.len x220.cap), (Value.slice x221.a x221.len x221.cap), (Value.slice x222.a x222.len x222.cap), (Value.slice x223.a x223.len x223.cap), (Value.slice x224.a x224.len x224.cap), (Value.slice x225.a x225.len x225.cap), (Value.slice x226.a x226.len x226.cap)]).length = 9 ∧ (Program.underlying Go.Proofs.Tryd.prog 50).isSome = true ∧
 H.wr h217 (Addr.mk r3 0 none) ([(Value.int .i64 x218), (Value.int .i64 x219), (Value.slice x220.a x220.len x220.cap), (Value.slice x221.a x221.len x221.cap), (Value.slice x222.a x222.len x222.cap), (Value.slice x223.a x223.len x223.cap), (Value.slice x224.a x224.len x224.cap), (Value.slice x225.a x225.len x225.cap), (Value.slice x226.a x226.len x226.cap)]) fun h227 =>
 Ri h227 r3 0 fun x228 =>
 Ri h227 r3 1 fun x229 =>
 Rs h227 r3 2 fun x230 =>
 Rs h227 r3 3 fun x231 =>
 Rs h227 r3 4 fun x232 =>
 Rs h227 r3 5 fun x233 =>
 Rs h227 r3 6 fun x234 =>
 Rs h227 r3 7 fun x235 =>
 Rs h227 r3 8 fun x236 =>
 VRet h227 (Value.tuple (List.toArray [(Value.agg (List.toArray [(Value.int .i64 x228), (Value.int .i64 x229), (Value.slice x230.a x230.len x230.cap), (Value.slice x231.a x231.len x231.cap), (Value.slice x232.a x232.len x232.cap), (Value.slice x233.a x233.len x233.cap), (Value.slice x234.a x234.len x234.cap), (Value.slice x235.a x235.len x235.cap), (Value.slice x236.a x236.len x236.cap)])), (Value.bool false), (Value.int .i64 0), (Value.int .i64 0)])) post)) (
 VIf (x30 == (4 : Int)) (
 ∃ x237 : Int, H.rd h7 (Addr.add (Addr.add (Addr.mk r1 0 none) 1) 0) (Value.int .i64 x237) ∧
 ∃ x238 : SV, H.rd h7 (Addr.add (Addr.add (Addr.mk r1 0 none) 6) 0) (Value.slice x238.a x238.len x238.cap) ∧
 ∃ b239 : Addr, x238.a = some b239 ∧ 0 ≤ p1_p ∧ p1_p < ((x238.len : Nat) : Int) ∧
 ∃ x240 : Int, H.rd h7 (Addr.add (Addr.add b239 ((p1_p).toNat * 1)) 0) (Value.int .i64 x240) ∧
 ∃ R241 : H → Prop, (
 VIf (x237 == x240) (
 ∃ x242 : SV, H.rd h7 (Addr.add (Addr.add (Addr.mk r1 0 none) 8) 0) (Value.slice x242.a x242.len x242.cap) ∧
 ∃ b243 : Addr, x242.a = some b243 ∧ 0 ≤ p1_p ∧ p1_p < ((x242.len : Nat) : Int) ∧
 ∃ x244 : Int, H.rd h7 (Addr.add (Addr.add b243 ((p1_p).toNat * 1)) 0) (Value.int .i64 x244) ∧
 H.wr h7 (Addr.add (Addr.mk r1 0 none) 1) ([(Value.int .i64 x244)]) fun h245 =>
 (∃ h246, Gh h245 h246 ∧ R241 h246)) (
 (∃ h247, Gh h7 h247 ∧ R241 h247))) ∧
 ∀ (_ : F) (h248 : H), R241 h248 →
 f20_J1 p1_p post r1 r3 h248) (
 VIf (x30 == (5 : Int)) (
 ∃ x279 : Int, H.rd h7 (Addr.add (Addr.add (Addr.mk r1 0 none) 1) 0) (Value.int .i64 x279) ∧
 ∃ x280 : SV, H.rd h7 (Addr.add (Addr.add (Addr.mk r1 0 none) 6) 0) (Value.slice x280.a x280.len x280.cap) ∧
 ∃ b281 : Addr, x280.a = some b281 ∧ 0 ≤ p1_p ∧ p1_p < ((x280.len : Nat) : Int) ∧
 ∃ x282 : Int, H.rd h7 (Addr.add (Addr.add b281 ((p1_p).toNat * 1)) 0) (Value.int .i64 x282) ∧
 ∃ R283 : H → Prop, (
 VIf (x279 == x282) (
 ∃ x284 : SV, H.rd h7 (Addr.add (Addr.add (Addr.mk r1 0 none) 5) 0) (Value.slice x284.a x284.len x284.cap) ∧
 ∃ b285 : Addr, x284.a = some b285 ∧ 0 ≤ p1_p ∧ p1_p < ((x284.len : Nat) : Int) ∧
 ∃ x286 : Int, H.rd h7 (Addr.add (Addr.add b285 ((p1_p).toNat * 1)) 0) (Value.int .i64 x286) ∧
 H.wr h7 (Addr.add (Addr.mk r1 0 none) 1) ([(Value.int .i64 x286)]) fun h287 =>
 (∃ h288, Gh h287 h288 ∧ R283 h288)) (
 (∃ h289, Gh h7 h289 ∧ R283 h289))) ∧
 ∀ (_ : F) (h290 : H), R283 h290 →
 f20_J2 p1_p post r1 r3 h290) (
 VIf (x30 == (6 : Int)) (
 ∃ x321 : SV, H.rd h7 (Addr.add (Addr.add (Addr.mk r1 0 none) 7) 0) (Value.slice x321.a x321.len x321.cap) ∧
 ∃ x322 : Int, H.rd h7 (Addr.add (Addr.add (Addr.mk r1 0 none) 0) 0) (Value.int .i64 x322) ∧
 SemCall Go.Proofs.Tryd.prog 31 (List.toArray [(Value.slice x321.a x321.len x321.cap), (Value.int .i64 p1_p), (Value.int .i64 x322)]) h7 fun v323 h324 =>
 ∃ x325 : SV, v323 = (Value.slice x325.a x325.len x325.cap) ∧
 H.wr h324 (Addr.add (Addr.mk r1 0 none) 7) ([(Value.slice x325.a x325.len x325.cap)]) fun h326 =>
 Ri h326 r1 0 fun x327 =>
 Ri h326 r1 1 fun x328 =>
 Rs h326 r1 2 fun x329 =>
 Rs h326 r1 3 fun x330 =>
 Rs h326 r1 4 fun x331 =>
 Rs h326 r1 5 fun x332 =>
 Rs h326 r1 6 fun x333 =>
 Rs h326 r1 7 fun x334 =>
 Rs h326 r1 8 fun x335 =>
 SemCall Go.Proofs.Tryd.prog 36 (List.toArray [(Value.agg (List.toArray [(Value.int .i64 x327), (Value.int .i64 x328), (Value.slice x329.a x329.len x329.cap), (Value.slice x330.a x330.len x330.cap), (Value.slice x331.a x331.len x331.cap), (Value.slice x332.a x332.len x332.cap), (Value.slice x333.a x333.len x333.cap), (Value.slice x334.a x334.len x334.cap), (Value.slice x335.a x335.len x335.cap)])), (Value.int .i64 p1_p), (Value.int .i64 (7 : Int))]) h326 fun v336 h337 =>
 ∃ x338 : Int, ∃ x339 : Int, ∃ x340 : SV, ∃ x341 : SV, ∃ x342 : SV, ∃ x343 : SV, ∃ x344 : SV, ∃ x345 : SV, ∃ x346 : SV, v336 = (Value.agg (List.toArray [(Value.int .i64 x338), (Value.int .i64 x339), (Value.slice x340.a x340.len x340.cap), (Value.slice x341.a x341.len x341.cap), (Value.slice x342.a x342.len x342.cap), (Value.slice x343.a x343.len x343.cap), (Value.slice x344.a x344.len x344.cap), (Value.slice x345.a x345.len x345.cap), (Value.slice x346.a x346.len x346.cap)])) ∧
 ([(Value.int .i64 x338), (Value.int .i64 x339), (Value.slice x340.a x340.len x340.cap), (Value.slice x341.a x341.len x341.cap), (Value.slice x342.a x342.len x342.cap), (Value.slice x343.a x343.len x343.cap), (Value.slice x344.a x344.len x344.cap), (Value.slice x345.a x345.len x345.cap), (Value.slice x346.a x346.len x346.cap)]).length = 9 ∧ (Program.underlying Go.Proofs.Tryd.prog 50).isSome = true ∧
 H.wr h337 (Addr.mk r3 0 none) ([(Value.int .i64 x338), (Value.int .i64 x339), (Value.slice x340.a x340.len x340.cap), (Value.slice x341.a x341.len x341.cap), (Value.slice x342.a x342.len x342.cap), (Value.slice x343.a x343.len x343.cap), (Value.slice x344.a x344.len x344.cap), (Value.slice x345.a x345.len x345.cap), (Value.slice x346.a x346.len x346.cap)]) fun h347 =>
 Ri h347 r3 0 fun x348 =>
 Ri h347 r3 1 fun x349 =>
 Rs h347 r3 2 fun x350 =>
 Rs h347 r3 3 fun x351 =>
 Rs h347 r3 4 fun x352 =>
 Rs h347 r3 5 fun x353 =>
 Rs h347 r3 6 fun x354 =>
 Rs h347 r3 7 fun x355 =>
 Rs h347 r3 8 fun x356 =>
 VRet h347 (Value.tuple (List.toArray [(Value.agg (List.toArray [(Value.int .i64 x348), (Value.int .i64 x349), (Value.slice x350.a x350.len x350.cap), (Value.slice x351.a x351.len x351.cap), (Value.slice x352.a x352.len x352.cap), (Value.slice x353.a x353.len x353.cap), (Value.slice x354.a x354.len x354.cap), (Value.slice x355.a x355.len x355.cap), (Value.slice x356.a x356.len x356.cap)])), (Value.bool false), (Value.int .i64 0), (Value.int .i64 0)])) post) (
 VIf (x30 == (7 : Int)) (
 ∃ x357 : SV, H.rd h7 (Addr.add (Addr.add (Addr.mk r1 0 none) 6) 0) (Value.slice x357.a x357.len x357.cap) ∧
 ∃ x358 : Int, H.rd h7 (Addr.add (Addr.add (Addr.mk r1 0 none) 1) 0) (Value.int .i64 x358) ∧
 SemCall Go.Proofs.Tryd.prog 31 (List.toArray [(Value.slice x357.a x357.len x357.cap), (Value.int .i64 p1_p), (Value.int .i64 x358)]) h7 fun v359 h360 =>
 ∃ x361 : SV, v359 = (Value.slice x361.a x361.len x361.cap) ∧
 H.wr h360 (Addr.add (Addr.mk r1 0 none) 6) ([(Value.slice x361.a x361.len x361.cap)]) fun h362 =>
 Ri h362 r1 0 fun x363 =>
 Ri h362 r1 1 fun x364 =>
 Rs h362 r1 2 fun x365 =>
 Rs h362 r1 3 fun x366 =>
 Rs h362 r1 4 fun x367 =>
 Rs h362 r1 5 fun x368 =>
 Rs h362 r1 6 fun x369 =>
 Rs h362 r1 7 fun x370 =>
 Rs h362 r1 8 fun x371 =>
 SemCall Go.Proofs.Tryd.prog 36 (List.toArray [(Value.agg (List.toArray [(Value.int .i64 x363), (Value.int .i64 x364), (Value.slice x365.a x365.len x365.cap), (Value.slice x366.a x366.len x366.cap), (Value.slice x367.a x367.len x367.cap), (Value.slice x368.a x368.len x368.cap), (Value.slice x369.a x369.len x369.cap), (Value.slice x370.a x370.len x370.cap), (Value.slice x371.a x371.len x371.cap)])), (Value.int .i64 p1_p), (Value.int .i64 (8 : Int))]) h362 fun v372 h373 =>
 ∃ x374 : Int, ∃ x375 : Int, ∃ x376 : SV, ∃ x377 : SV, ∃ x378 : SV, ∃ x379 : SV, ∃ x380 : SV, ∃ x381 : SV, ∃ x382 : SV, v372 = (Value.agg (List.toArray [(Value.int .i64 x374), (Value.int .i64 x375), (Value.slice x376.a x376.len x376.cap), (Value.slice x377.a x377.len x377.cap), (Value.slice x378.a x378.len x378.cap), (Value.slice x379.a x379.len x379.cap), (Value.slice x380.a x380.len x380.cap), (Value.slice x381.a x381.len x381.cap), (Value.slice x382.a x382.len x382.cap)])) ∧
 ([(Value.int .i64 x374), (Value.int .i64 x375), (Value.slice x376.a x376.len x376.cap), (Value.slice x377.a x377.len x377.cap), (Value.slice x378.a x378.len x378.cap), (Value.slice x379.a x379.len x379.cap), (Value.slice x380.a x380.len x380.cap), (Value.slice x381.a x381.len x381.cap), (Value.slice x382.a x382.len x382.cap)]).length = 9 ∧ (Program.underlying Go.Proofs.Tryd.prog 50).isSome = true ∧
 H.wr h373 (Addr.mk r3 0 none) ([(Value.int .i64 x374), (Value.int .i64 x375), (Value.slice x376.a x376.len x376.cap), (Value.slice x377.a x377.len x377.cap), (Value.slice x378.a x378.len x378.cap), (Value.slice x379.a x379.len x379.cap), (Value.slice x380.a x380.len x380.cap), (Value.slice x381.a x381.len x381.cap), (Value.slice x382.a x382.len x382.cap)]) fun h383 =>
 Ri h383 r3 0 fun x384 =>
 Ri h383 r3 1 fun x385 =>
 Rs h383 r3 2 fun x386 =>
 Rs h383 r3 3 fun x387 =>
 Rs h383 r3 4 fun x388 =>
 Rs h383 r3 5 fun x389 =>
 Rs h383 r3 6 fun x390 =>
 Rs h383 r3 7 fun x391 =>
 Rs h383 r3 8 fun x392 =>
 VRet h383 (Value.tuple (List.toArray [(Value.agg (List.toArray [(Value.int .i64 x384), (Value.int .i64 x385), (Value.slice x386.a x386.len x386.cap), (Value.slice x387.a x387.len x387.cap), (Value.slice x388.a x388.len x388.cap), (Value.slice x389.a x389.len x389.cap), (Value.slice x390.a x390.len x390.cap), (Value.slice x391.a x391.len x391.cap), (Value.slice x392.a x392.len x392.cap)])), (Value.bool false), (Value.int .i64 0), (Value.int .i64 0)])) post) (
 VIf (x30 == (8 : Int)) (
 ∃ x393 : SV, H.rd h7 (Addr.add (Addr.add (Addr.mk r1 0 none) 8) 0) (Value.slice x393.a x393.len x393.cap) ∧
 ∃ x394 : SV, H.rd h7 (Addr.add (Addr.add (Addr.mk r1 0 none) 3) 0) (Value.slice x394.a x394.len x394.cap) ∧
 ∃ x395 : SV, H.rd h7 (Addr.add (Addr.add (Addr.mk r1 0 none) 7) 0) (Value.slice x395.a x395.len x395.cap) ∧
 ∃ b396 : Addr, x395.a = some b396 ∧ 0 ≤ p1_p ∧ p1_p < ((x395.len : Nat) : Int) ∧
 ∃ x397 : Int, H.rd h7 (Addr.add (Addr.add b396 ((p1_p).toNat * 1)) 0) (Value.int .i64 x397) ∧
 ∃ b398 : Addr, x394.a = some b398 ∧ 0 ≤ x397 ∧ x397 < ((x394.len : Nat) : Int) ∧
 ∃ x399 : Int, H.rd h7 (Addr.add (Addr.add b398 ((x397).toNat * 1)) 0) (Value.int .i64 x399) ∧
 SemCall Go.Proofs.Tryd.prog 31 (List.toArray [(Value.slice x393.a x393.len x393.cap), (Value.int .i64 p1_p), (Value.int .i64 x399)]) h7 fun v400 h401 =>
 ∃ x402 : SV, v400 = (Value.slice x402.a x402.len x402.cap) ∧
 H.wr h401 (Addr.add (Addr.mk r1 0 none) 8) ([(Value.slice x402.a x402.len x402.cap)]) fun h403 =>
 ∃ x404 : SV, H.rd h403 (Addr.add (Addr.add (Addr.mk r1 0 none) 7) 0) (Value.slice x404.a x404.len x404.cap) ∧
 ∃ b405 : Addr, x404.a = some b405 ∧ 0 ≤ p1_p ∧ p1_p < ((x404.len : Nat) : Int) ∧
 ∃ x406 : Int, H.rd h403 (Addr.add (Addr.add b405 ((p1_p).toNat * 1)) 0) (Value.int .i64 x406) ∧
 ∃ x407 : SV, H.rd h403 (Addr.add (Addr.add (Addr.mk r1 0 none) 6) 0) (Value.slice x407.a x407.len x407.cap) ∧
 ∃ b408 : Addr, x407.a = some b408 ∧ 0 ≤ p1_p ∧ p1_p < ((x407.len : Nat) : Int) ∧
 ∃ x409 : Int, H.rd h403 (Addr.add (Addr.add b408 ((p1_p).toNat * 1)) 0) (Value.int .i64 x409) ∧
 VIf (x406 != x409) (
 Ri h403 r1 0 fun x410 =>
 Ri h403 r1 1 fun x411 =>
 Rs h403 r1 2 fun x412 =>
 Rs h403 r1 3 fun x413 =>
 Rs h403 r1 4 fun x414 =>
 Rs h403 r1 5 fun x415 =>
 Rs h403 r1 6 fun x416 =>
 Rs h403 r1 7 fun x417 =>
 Rs h403 r1 8 fun x418 =>
 SemCall Go.Proofs.Tryd.prog 36 (List.toArray [(Value.agg (List.toArray [(Value.int .i64 x410), (Value.int .i64 x411), (Value.slice x412.a x412.len x412.cap), (Value.slice x413.a x413.len x413.cap), (Value.slice x414.a x414.len x414.cap), (Value.slice x415.a x415.len x415.cap), (Value.slice x416.a x416.len x416.cap), (Value.slice x417.a x417.len x417.cap), (Value.slice x418.a x418.len x418.cap)])), (Value.int .i64 p1_p), (Value.int .i64 (10 : Int))]) h403 fun v419 h420 =>
 ∃ x421 : Int, ∃ x422 : Int, ∃ x423 : SV, ∃ x424 : SV, ∃ x425 : SV, ∃ x426 : SV, ∃ x427 : SV, ∃ x428 : SV, ∃ x429 : SV, v419 = (Value.agg (List.toArray [(Value.int .i64 x421), (Value.int .i64 x422), (Value.slice x423.a x423.len x423.cap), (Value.slice x424.a x424.len x424.cap), (Value.slice x425.a x425.len x425.cap), (Value.slice x426.a x426.len x426.cap), (Value.slice x427.a x427.len x427.cap), (Value.slice x428.a x428.len x428.cap), (Value.slice x429.a x429.len x429.cap)])) ∧
 ([(Value.int .i64 x421), (Value.int .i64 x422), (Value.slice x423.a x423.len x423.cap), (Value.slice x424.a x424.len x424.cap), (Value.slice x425.a x425.len x425.cap), (Value.slice x426.a x426.len x426.cap), (Value.slice x427.a x427.len x427.cap), (Value.slice x428.a x428.len x428.cap), (Value.slice x429.a x429.len x429.cap)]).length = 9 ∧ (Program.underlying Go.Proofs.Tryd.prog 50).isSome = true ∧
 H.wr h420 (Addr.mk r3 0 none) ([(Value.int .i64 x421), (Value.int .i64 x422), (Value.slice x423.a x423.len x423.cap), (Value.slice x424.a x424.len x424.cap), (Value.slice x425.a x425.len x425.cap), (Value.slice x426.a x426.len x426.cap), (Value.slice x427.a x427.len x427.cap), (Value.slice x428.a x428.len x428.cap), (Value.slice x429.a x429.len x429.cap)]) fun h430 =>
 Ri h430 r3 0 fun x431 =>
 Ri h430 r3 1 fun x432 =>
 Rs h430 r3 2 fun x433 =>
 Rs h430 r3 3 fun x434 =>
 Rs h430 r3 4 fun x435 =>
 Rs h430 r3 5 fun x436 =>
 Rs h430 r3 6 fun x437 =>
 Rs h430 r3 7 fun x438 =>
 Rs h430 r3 8 fun x439 =>
 VRet h430 (Value.tuple (List.toArray [(Value.agg (List.toArray [(Value.int .i64 x431), (Value.int .i64 x432), (Value.slice x433.a x433.len x433.cap), (Value.slice x434.a x434.len x434.cap), (Value.slice x435.a x435.len x435.cap), (Value.slice x436.a x436.len x436.cap), (Value.slice x437.a x437.len x437.cap), (Value.slice x438.a x438.len x438.cap), (Value.slice x439.a x439.len x439.cap)])), (Value.bool false), (Value.int .i64 0), (Value.int .i64 0)])) post) (
 ∃ x440 : SV, H.rd h403 (Addr.add (Addr.add (Addr.mk r1 0 none) 8) 0) (Value.slice x440.a x440.len x440.cap) ∧
 ∃ b441 : Addr, x440.a = some b441 ∧ 0 ≤ p1_p ∧ p1_p < ((x440.len : Nat) : Int) ∧
 ∃ x442 : Int, H.rd h403 (Addr.add (Addr.add b441 ((p1_p).toNat * 1)) 0) (Value.int .i64 x442) ∧
 VIf (decide (x442 < (0 : Int))) (
 Ri h403 r1 0 fun x443 =>
 Ri h403 r1 1 fun x444 =>
 Rs h403 r1 2 fun x445 =>
 Rs h403 r1 3 fun x446 =>
 Rs h403 r1 4 fun x447 =>
 Rs h403 r1 5 fun x448 =>
 Rs h403 r1 6 fun x449 =>
 Rs h403 r1 7 fun x450 =>
 Rs h403 r1 8 fun x451 =>
 SemCall Go.Proofs.Tryd.prog 36 (List.toArray [(Value.agg (List.toArray [(Value.int .i64 x443), (Value.int .i64 x444), (Value.slice x445.a x445.len x445.cap), (Value.slice x446.a x446.len x446.cap), (Value.slice x447.a x447.len x447.cap), (Value.slice x448.a x448.len x448.cap), (Value.slice x449.a x449.len x449.cap), (Value.slice x450.a x450.len x450.cap), (Value.slice x451.a x451.len x451.cap)])), (Value.int .i64 p1_p), (Value.int .i64 0)]) h403 fun v452 h453 =>
 ∃ x454 : Int, ∃ x455 : Int, ∃ x456 : SV, ∃ x457 : SV, ∃ x458 : SV, ∃ x459 : SV, ∃ x460 : SV, ∃ x461 : SV, ∃ x462 : SV, v452 = (Value.agg (List.toArray [(Value.int .i64 x454), (Value.int .i64 x455), (Value.slice x456.a x456.len x456.cap), (Value.slice x457.a x457.len x457.cap), (Value.slice x458.a x458.len x458.cap), (Value.slice x459.a x459.len x459.cap), (Value.slice x460.a x460.len x460.cap), (Value.slice x461.a x461.len x461.cap), (Value.slice x462.a x462.len x462.cap)])) ∧
 ([(Value.int .i64 x454), (Value.int .i64 x455), (Value.slice x456.a x456.len x456.cap), (Value.slice x457.a x457.len x457.cap), (Value.slice x458.a x458.len x458.cap), (Value.slice x459.a x459.len x459.cap), (Value.slice x460.a x460.len x460.cap), (Value.slice x461.a x461.len x461.cap), (Value.slice x462.a x462.len x462.cap)]).length = 9 ∧ (Program.underlying Go.Proofs.Tryd.prog 50).isSome = true ∧
 H.wr h453 (Addr.mk r3 0 none) ([(Value.int .i64 x454), (Value.int .i64 x455), (Value.slice x456.a x456.len x456.cap), (Value.slice x457.a x457.len x457.cap), (Value.slice x458.a x458.len x458.cap), (Value.slice x459.a x459.len x459.cap), (Value.slice x460.a x460.len x460.cap), (Value.slice x461.a x461.len x461.cap), (Value.slice x462.a x462.len x462.cap)]) fun h463 =>
 Ri h463 r3 0 fun x464 =>
 Ri h463 r3 1 fun x465 =>
 Rs h463 r3 2 fun x466 =>
 Rs h463 r3 3 fun x467 =>
 Rs h463 r3 4 fun x468 =>
 Rs h463 r3 5 fun x469 =>
 Rs h463 r3 6 fun x470 =>
 Rs h463 r3 7 fun x471 =>
 Rs h463 r3 8 fun x472 =>
 VRet h463 (Value.tuple (List.toArray [(Value.agg (List.toArray [(Value.int .i64 x464), (Value.int .i64 x465), (Value.slice x466.a x466.len x466.cap), (Value.slice x467.a x467.len x467.cap), (Value.slice x468.a x468.len x468.cap), (Value.slice x469.a x469.len x469.cap), (Value.slice x470.a x470.len x470.cap), (Value.slice x471.a x471.len x471.cap), (Value.slice x472.a x472.len x472.cap)])), (Value.bool true), (Value.int .i64 (-1 : Int)), (Value.int .i64 0)])) post) (
 Ri h403 r1 0 fun x473 =>
 Ri h403 r1 1 fun x474 =>
 Rs h403 r1 2 fun x475 =>
 Rs h403 r1 3 fun x476 =>
 Rs h403 r1 4 fun x477 =>
 Rs h403 r1 5 fun x478 =>
 Rs h403 r1 6 fun x479 =>
 Rs h403 r1 7 fun x480 =>
 Rs h403 r1 8 fun x481 =>
 SemCall Go.Proofs.Tryd.prog 36 (List.toArray [(Value.agg (List.toArray [(Value.int .i64 x473), (Value.int .i64 x474), (Value.slice x475.a x475.len x475.cap), (Value.slice x476.a x476.len x476.cap), (Value.slice x477.a x477.len x477.cap), (Value.slice x478.a x478.len x478.cap), (Value.slice x479.a x479.len x479.cap), (Value.slice x480.a x480.len x480.cap), (Value.slice x481.a x481.len x481.cap)])), (Value.int .i64 p1_p), (Value.int .i64 (9 : Int))]) h403 fun v482 h483 =>
 ∃ x484 : Int, ∃ x485 : Int, ∃ x486 : SV, ∃ x487 : SV, ∃ x488 : SV, ∃ x489 : SV, ∃ x490 : SV, ∃ x491 : SV, ∃ x492 : SV, v482 = (Value.agg (List.toArray [(Value.int .i64 x484), (Value.int .i64 x485), (Value.slice x486.a x486.len x486.cap), (Value.slice x487.a x487.len x487.cap), (Value.slice x488.a x488.len x488.cap), (Value.slice x489.a x489.len x489.cap), (Value.slice x490.a x490.len x490.cap), (Value.slice x491.a x491.len x491.cap), (Value.slice x492.a x492.len x492.cap)])) ∧
 ([(Value.int .i64 x484), (Value.int .i64 x485), (Value.slice x486.a x486.len x486.cap), (Value.slice x487.a x487.len x487.cap), (Value.slice x488.a x488.len x488.cap), (Value.slice x489.a x489.len x489.cap), (Value.slice x490.a x490.len x490.cap), (Value.slice x491.a x491.len x491.cap), (Value.slice x492.a x492.len x492.cap)]).length = 9 ∧ (Program.underlying Go.Proofs.Tryd.prog 50).isSome = true ∧
 H.wr h483 (Addr.mk r3 0 none) ([(Value.int .i64 x484), (Value.int .i64 x485), (Value.slice x486.a x486.len x486.cap), (Value.slice x487.a x487.len x487.cap), (Value.slice x488.a x488.len x488.cap), (Value.slice x489.a x489.len x489.cap), (Value.slice x490.a x490.len x490.cap), (Value.slice x491.a x491.len x491.cap), (Value.slice x492.a x492.len x492.cap)]) fun h493 =>
 Ri h493 r3 0 fun x494 =>
 Ri h493 r3 1 fun x495 =>
 Rs h493 r3 2 fun x496 =>
 Rs h493 r3 3 fun x497 =>
 Rs h493 r3 4 fun x498 =>
 Rs h493 r3 5 fun x499 =>
 Rs h493 r3 6 fun x500 =>
 Rs h493 r3 7 fun x501 =>
 Rs h493 r3 8 fun x502 =>
 VRet h493 (Value.tuple (List.toArray [(Value.agg (List.toArray [(Value.int .i64 x494), (Value.int .i64 x495), (Value.slice x496.a x496.len x496.cap), (Value.slice x497.a x497.len x497.cap), (Value.slice x498.a x498.len x498.cap), (Value.slice x499.a x499.len x499.cap), (Value.slice x500.a x500.len x500.cap), (Value.slice x501.a x501.len x501.cap), (Value.slice x502.a x502.len x502.cap)])), (Value.bool false), (Value.int .i64 0), (Value.int .i64 0)])) post))) (
 VIf (x30 == (9 : Int)) (
 ∃ x503 : Int, H.rd h7 (Addr.add (Addr.add (Addr.mk r1 0 none) 1) 0) (Value.int .i64 x503) ∧
 ∃ x504 : SV, H.rd h7 (Addr.add (Addr.add (Addr.mk r1 0 none) 6) 0) (Value.slice x504.a x504.len x504.cap) ∧
 ∃ b505 : Addr, x504.a = some b505 ∧ 0 ≤ p1_p ∧ p1_p < ((x504.len : Nat) : Int) ∧
 ∃ x506 : Int, H.rd h7 (Addr.add (Addr.add b505 ((p1_p).toNat * 1)) 0) (Value.int .i64 x506) ∧
 ∃ R507 : H → Prop, (
 VIf (x503 == x506) (
 ∃ x508 : SV, H.rd h7 (Addr.add (Addr.add (Addr.mk r1 0 none) 8) 0) (Value.slice x508.a x508.len x508.cap) ∧
 ∃ b509 : Addr, x508.a = some b509 ∧ 0 ≤ p1_p ∧ p1_p < ((x508.len : Nat) : Int) ∧
 ∃ x510 : Int, H.rd h7 (Addr.add (Addr.add b509 ((p1_p).toNat * 1)) 0) (Value.int .i64 x510) ∧
 H.wr h7 (Addr.add (Addr.mk r1 0 none) 1) ([(Value.int .i64 x510)]) fun h511 =>
 (∃ h512, Gh h511 h512 ∧ R507 h512)) (
 (∃ h513, Gh h7 h513 ∧ R507 h513))) ∧
 ∀ (_ : F) (h514 : H), R507 h514 →
 f20_J3 p1_p post r1 r3 h514) (
 ∃ x545 : Int, H.rd h7 (Addr.add (Addr.add (Addr.mk r1 0 none) 0) 0) (Value.int .i64 x545) ∧
 ∃ x546 : SV, H.rd h7 (Addr.add (Addr.add (Addr.mk r1 0 none) 7) 0) (Value.slice x546.a x546.len x546.cap) ∧
 ∃ b547 : Addr, x546.a = some b547 ∧ 0 ≤ p1_p ∧ p1_p < ((x546.len : Nat) : Int) ∧
 ∃ x548 : Int, H.rd h7 (Addr.add (Addr.add b547 ((p1_p).toNat * 1)) 0) (Value.int .i64 x548) ∧
 VIf (x545 != x548) (
 Ri h7 r1 0 fun x549 =>
 Ri h7 r1 1 fun x550 =>
 Rs h7 r1 2 fun x551 =>
 Rs h7 r1 3 fun x552 =>
 Rs h7 r1 4 fun x553 =>
 Rs h7 r1 5 fun x554 =>
 Rs h7 r1 6 fun x555 =>
 Rs h7 r1 7 fun x556 =>
 Rs h7 r1 8 fun x557 =>
 SemCall Go.Proofs.Tryd.prog 36 (List.toArray [(Value.agg (List.toArray [(Value.int .i64 x549), (Value.int .i64 x550), (Value.slice x551.a x551.len x551.cap), (Value.slice x552.a x552.len x552.cap), (Value.slice x553.a x553.len x553.cap), (Value.slice x554.a x554.len x554.cap), (Value.slice x555.a x555.len x555.cap), (Value.slice x556.a x556.len x556.cap), (Value.slice x557.a x557.len x557.cap)])), (Value.int .i64 p1_p), (Value.int .i64 (6 : Int))]) h7 fun v558 h559 =>
 ∃ x560 : Int, ∃ x561 : Int, ∃ x562 : SV, ∃ x563 : SV, ∃ x564 : SV, ∃ x565 : SV, ∃ x566 : SV, ∃ x567 : SV, ∃ x568 : SV, v558 = (Value.agg (List.toArray [(Value.int .i64 x560), (Value.int .i64 x561), (Value.slice x562.a x562.len x562.cap), (Value.slice x563.a x563.len x563.cap), (Value.slice x564.a x564.len x564.cap), (Value.slice x565.a x565.len x565.cap), (Value.slice x566.a x566.len x566.cap), (Value.slice x567.a x567.len x567.cap), (Value.slice x568.a x568.len x568.cap)])) ∧
 ([(Value.int .i64 x560), (Value.int .i64 x561), (Value.slice x562.a x562.len x562.cap), (Value.slice x563.a x563.len x563.cap), (Value.slice x564.a x564.len x564.cap), (Value.slice x565.a x565.len x565.cap), (Value.slice x566.a x566.len x566.cap), (Value.slice x567.a x567.len x567.cap), (Value.slice x568.a x568.len x568.cap)]).length = 9 ∧ (Program.underlying Go.Proofs.Tryd.prog 50).isSome = true ∧
 H.wr h559 (Addr.mk r3 0 none) ([(Value.int .i64 x560), (Value.int .i64 x561), (Value.slice x562.a x562.len x562.cap), (Value.slice x563.a x563.len x563.cap), (Value.slice x564.a x564.len x564.cap), (Value.slice x565.a x565.len x565.cap), (Value.slice x566.a x566.len x566.cap), (Value.slice x567.a x567.len x567.cap), (Value.slice x568.a x568.len x568.cap)]) fun h569 =>
 Ri h569 r3 0 fun x570 =>
 Ri h569 r3 1 fun x571 =>
 Rs h569 r3 2 fun x572 =>
 Rs h569 r3 3 fun x573 =>
 Rs h569 r3 4 fun x574 =>
 Rs h569 r3 5 fun x575 =>
 Rs h569 r3 6 fun x576 =>
 Rs h569 r3 7 fun x577 =>
 Rs h569 r3 8 fun x578 =>
 VRet h569 (Value.tuple (List.toArray [(Value.agg (List.toArray [(Value.int .i64 x570), (Value.int .i64 x571), (Value.slice x572.a x572.len x572.cap), (Value.slice x573.a x573.len x573.cap), (Value.slice x574.a x574.len x574.cap), (Value.slice x575.a x575.len x575.cap), (Value.slice x576.a x576.len x576.cap), (Value.slice x577.a x577.len x577.cap), (Value.slice x578.a x578.len x578.cap)])), (Value.bool false), (Value.int .i64 0), (Value.int .i64 0)])) post) (
 ∃ x579 : SV, H.rd h7 (Addr.add (Addr.add (Addr.mk r1 0 none) 8) 0) (Value.slice x579.a x579.len x579.cap) ∧
 ∃ b580 : Addr, x579.a = some b580 ∧ 0 ≤ p1_p ∧ p1_p < ((x579.len : Nat) : Int) ∧
 ∃ x581 : Int, H.rd h7 (Addr.add (Addr.add b580 ((p1_p).toNat * 1)) 0) (Value.int .i64 x581) ∧
 H.wr h7 (Addr.add (Addr.mk r1 0 none) 0) ([(Value.int .i64 x581)]) fun h582 =>
 (
 Ri h582 r1 0 fun x583 =>
 Ri h582 r1 1 fun x584 =>
 Rs h582 r1 2 fun x585 =>
 Rs h582 r1 3 fun x586 =>
 Rs h582 r1 4 fun x587 =>
 Rs h582 r1 5 fun x588 =>
 Rs h582 r1 6 fun x589 =>
 Rs h582 r1 7 fun x590 =>
 Rs h582 r1 8 fun x591 =>
 (
 SemCall Go.Proofs.Tryd.prog 36 (List.toArray [(Value.agg (List.toArray [(Value.int .i64 x583), (Value.int .i64 x584), (Value.slice x585.a x585.len x585.cap), (Value.slice x586.a x586.len x586.cap), (Value.slice x587.a x587.len x587.cap), (Value.slice x588.a x588.len x588.cap), (Value.slice x589.a x589.len x589.cap), (Value.slice x590.a x590.len x590.cap), (Value.slice x591.a x591.len x591.cap)])), (Value.int .i64 p1_p), (Value.int .i64 0)]) h582 fun v592 h593 =>
 ∃ x594 : Int, ∃ x595 : Int, ∃ x596 : SV, ∃ x597 : SV, ∃ x598 : SV, ∃ x599 : SV, ∃ x600 : SV, ∃ x601 : SV, ∃ x602 : SV, v592 = (Value.agg (List.toArray [(Value.int .i64 x594), (Value.int .i64 x595), (Value.slice x596.a x596.len x596.cap), (Value.slice x597.a x597.len x597.cap), (Value.slice x598.a x598.len x598.cap), (Value.slice x599.a x599.len x599.cap), (Value.slice x600.a x600.len x600.cap), (Value.slice x601.a x601.len x601.cap), (Value.slice x602.a x602.len x602.cap)])) ∧
 (
 ∃ x603 : SV, H.rd h593 (Addr.add (Addr.add (Addr.mk r1 0 none) 2) 0) (Value.slice x603.a x603.len x603.cap) ∧
 (
 ∃ x604 : SV, H.rd h593 (Addr.add (Addr.add (Addr.mk r1 0 none) 8) 0) (Value.slice x604.a x604.len x604.cap) ∧
 ∃ b605 : Addr, x604.a = some b605 ∧ 0 ≤ p1_p ∧ p1_p < ((x604.len : Nat) : Int) ∧
 (
 ∃ x606 : Int, H.rd h593 (Addr.add (Addr.add b605 ((p1_p).toNat * 1)) 0) (Value.int .i64 x606) ∧
 ∃ b607 : Addr, x603.a = some b607 ∧ 0 ≤ x606 ∧ x606 < ((x603.len : Nat) : Int) ∧
 (
 ∃ x608 : Int, H.rd h593 (Addr.add (Addr.add b607 ((x606).toNat * 1)) 0) (Value.int .i64 x608) ∧
 ([(Value.int .i64 x594), (Value.int .i64 x595), (Value.slice x596.a x596.len x596.cap), (Value.slice x597.a x597.len x597.cap), (Value.slice x598.a x598.len x598.cap), (Value.slice x599.a x599.len x599.cap), (Value.slice x600.a x600.len x600.cap), (Value.slice x601.a x601.len x601.cap), (Value.slice x602.a x602.len x602.cap)]).length = 9 ∧ (Program.underlying Go.Proofs.Tryd.prog 50).isSome = true ∧
 H.wr h593 (Addr.mk r3 0 none) ([(Value.int .i64 x594), (Value.int .i64 x595), (Value.slice x596.a x596.len x596.cap), (Value.slice x597.a x597.len x597.cap), (Value.slice x598.a x598.len x598.cap), (Value.slice x599.a x599.len x599.cap), (Value.slice x600.a x600.len x600.cap), (Value.slice x601.a x601.len x601.cap), (Value.slice x602.a x602.len x602.cap)]) fun h609 =>
 Ri h609 r3 0 fun x610 =>
 Ri h609 r3 1 fun x611 =>
 Rs h609 r3 2 fun x612 =>
 Rs h609 r3 3 fun x613 =>
 Rs h609 r3 4 fun x614 =>
 Rs h609 r3 5 fun x615 =>
 Rs h609 r3 6 fun x616 =>
 Rs h609 r3 7 fun x617 =>
 Rs h609 r3 8 fun x618 =>
 VRet h609 (Value.tuple (List.toArray [(Value.agg (List.toArray [(Value.int .i64 x610), (Value.int .i64 x611), (Value.slice x612.a x612.len x612.cap), (Value.slice x613.a x613.len x613.cap), (Value.slice x614.a x614.len x614.cap), (Value.slice x615.a x615.len x615.cap), (Value.slice x616.a x616.len x616.cap), (Value.slice x617.a x617.len x617.cap), (Value.slice x618.a x618.len x618.cap)])), (Value.bool true), (Value.int .i64 x608), (Value.int .i64 0)])) post) ∧
 (
 ([(Value.int .i64 x594), (Value.int .i64 x595), (Value.slice x596.a x596.len x596.cap), (Value.slice x597.a x597.len x597.cap), (Value.slice x598.a x598.len x598.cap), (Value.slice x599.a x599.len x599.cap), (Value.slice x600.a x600.len x600.cap), (Value.slice x601.a x601.len x601.cap), (Value.slice x602.a x602.len x602.cap)]).length = 9 ∧ (Program.underlying Go.Proofs.Tryd.prog 50).isSome = true ∧
 H.wr h593 (Addr.mk r3 0 none) ([(Value.int .i64 x594), (Value.int .i64 x595), (Value.slice x596.a x596.len x596.cap), (Value.slice x597.a x597.len x597.cap), (Value.slice x598.a x598.len x598.cap), (Value.slice x599.a x599.len x599.cap), (Value.slice x600.a x600.len x600.cap), (Value.slice x601.a x601.len x601.cap), (Value.slice x602.a x602.len x602.cap)]) fun h619 =>
 ∃ x620 : Int, H.rd h619 (Addr.add (Addr.add b607 ((x606).toNat * 1)) 0) (Value.int .i64 x620) ∧
 Ri h619 r3 0 fun x621 =>
 Ri h619 r3 1 fun x622 =>
 Rs h619 r3 2 fun x623 =>
 Rs h619 r3 3 fun x624 =>
 Rs h619 r3 4 fun x625 =>
 Rs h619 r3 5 fun x626 =>
 Rs h619 r3 6 fun x627 =>
 Rs h619 r3 7 fun x628 =>
 Rs h619 r3 8 fun x629 =>
 VRet h619 (Value.tuple (List.toArray [(Value.agg (List.toArray [(Value.int .i64 x621), (Value.int .i64 x622), (Value.slice x623.a x623.len x623.cap), (Value.slice x624.a x624.len x624.cap), (Value.slice x625.a x625.len x625.cap), (Value.slice x626.a x626.len x626.cap), (Value.slice x627.a x627.len x627.cap), (Value.slice x628.a x628.len x628.cap), (Value.slice x629.a x629.len x629.cap)])), (Value.bool true), (Value.int .i64 x620), (Value.int .i64 0)])) post)) ∧
 (
 ([(Value.int .i64 x594), (Value.int .i64 x595), (Value.slice x596.a x596.len x596.cap), (Value.slice x597.a x597.len x597.cap), (Value.slice x598.a x598.len x598.cap), (Value.slice x599.a x599.len x599.cap), (Value.slice x600.a x600.len x600.cap), (Value.slice x601.a x601.len x601.cap), (Value.slice x602.a x602.len x602.cap)]).length = 9 ∧ (Program.underlying Go.Proofs.Tryd.prog 50).isSome = true ∧
 H.wr h593 (Addr.mk r3 0 none) ([(Value.int .i64 x594), (Value.int .i64 x595), (Value.slice x596.a x596.len x596.cap), (Value.slice x597.a x597.len x597.cap), (Value.slice x598.a x598.len x598.cap), (Value.slice x599.a x599.len x599.cap), (Value.slice x600.a x600.len x600.cap), (Value.slice x601.a x601.len x601.cap), (Value.slice x602.a x602.len x602.cap)]) fun h630 =>
 ∃ x631 : Int, H.rd h630 (Addr.add (Addr.add b605 ((p1_p).toNat * 1)) 0) (Value.int .i64 x631) ∧
 ∃ b632 : Addr, x603.a = some b632 ∧ 0 ≤ x631 ∧ x631 < ((x603.len : Nat) : Int) ∧
 ∃ x633 : Int, H.rd h630 (Addr.add (Addr.add b632 ((x631).toNat * 1)) 0) (Value.int .i64 x633) ∧
 Ri h630 r3 0 fun x634 =>
 Ri h630 r3 1 fun x635 =>
 Rs h630 r3 2 fun x636 =>
 Rs h630 r3 3 fun x637 =>
 Rs h630 r3 4 fun x638 =>
 Rs h630 r3 5 fun x639 =>
 Rs h630 r3 6 fun x640 =>
 Rs h630 r3 7 fun x641 =>
 Rs h630 r3 8 fun x642 =>
 VRet h630 (Value.tuple (List.toArray [(Value.agg (List.toArray [(Value.int .i64 x634), (Value.int .i64 x635), (Value.slice x636.a x636.len x636.cap), (Value.slice x637.a x637.len x637.cap), (Value.slice x638.a x638.len x638.cap), (Value.slice x639.a x639.len x639.cap), (Value.slice x640.a x640.len x640.cap), (Value.slice x641.a x641.len x641.cap), (Value.slice x642.a x642.len x642.cap)])), (Value.bool true), (Value.int .i64 x633), (Value.int .i64 0)])) post)) ∧
 (
 ([(Value.int .i64 x594), (Value.int .i64 x595), (Value.slice x596.a x596.len x596.cap), (Value.slice x597.a x597.len x597.cap), (Value.slice x598.a x598.len x598.cap), (Value.slice x599.a x599.len x599.cap), (Value.slice x600.a x600.len x600.cap), (Value.slice x601.a x601.len x601.cap), (Value.slice x602.a x602.len x602.cap)]).length = 9 ∧ (Program.underlying Go.Proofs.Tryd.prog 50).isSome = true ∧
 H.wr h593 (Addr.mk r3 0 none) ([(Value.int .i64 x594), (Value.int .i64 x595), (Value.slice x596.a x596.len x596.cap), (Value.slice x597.a x597.len x597.cap), (Value.slice x598.a x598.len x598.cap), (Value.slice x599.a x599.len x599.cap), (Value.slice x600.a x600.len x600.cap), (Value.slice x601.a x601.len x601.cap), (Value.slice x602.a x602.len x602.cap)]) fun h643 =>
 ∃ x644 : SV, H.rd h643 (Addr.add (Addr.add (Addr.mk r1 0 none) 8) 0) (Value.slice x644.a x644.len x644.cap) ∧
 ∃ b645 : Addr, x644.a = some b645 ∧ 0 ≤ p1_p ∧ p1_p < ((x644.len : Nat) : Int) ∧
 ∃ x646 : Int, H.rd h643 (Addr.add (Addr.add b645 ((p1_p).toNat * 1)) 0) (Value.int .i64 x646) ∧
 ∃ b647 : Addr, x603.a = some b647 ∧ 0 ≤ x646 ∧ x646 < ((x603.len : Nat) : Int) ∧
 ∃ x648 : Int, H.rd h643 (Addr.add (Addr.add b647 ((x646).toNat * 1)) 0) (Value.int .i64 x648) ∧
 Ri h643 r3 0 fun x649 =>
 Ri h643 r3 1 fun x650 =>
 Rs h643 r3 2 fun x651 =>
 Rs h643 r3 3 fun x652 =>
 Rs h643 r3 4 fun x653 =>
 Rs h643 r3 5 fun x654 =>
 Rs h643 r3 6 fun x655 =>
 Rs h643 r3 7 fun x656 =>
 Rs h643 r3 8 fun x657 =>
 VRet h643 (Value.tuple (List.toArray [(Value.agg (List.toArray [(Value.int .i64 x649), (Value.int .i64 x650), (Value.slice x651.a x651.len x651.cap), (Value.slice x652.a x652.len x652.cap), (Value.slice x653.a x653.len x653.cap), (Value.slice x654.a x654.len x654.cap), (Value.slice x655.a x655.len x655.cap), (Value.slice x656.a x656.len x656.cap), (Value.slice x657.a x657.len x657.cap)])), (Value.bool true), (Value.int .i64 x648), (Value.int .i64 0)])) post)) ∧
 (
 (
 ∃ x658 : SV, H.rd h593 (Addr.add (Addr.add (Addr.mk r1 0 none) 8) 0) (Value.slice x658.a x658.len x658.cap) ∧
 ∃ b659 : Addr, x658.a = some b659 ∧ 0 ≤ p1_p ∧ p1_p < ((x658.len : Nat) : Int) ∧
 (
 ∃ x660 : SV, H.rd h593 (Addr.add (Addr.add (Addr.mk r1 0 none) 2) 0) (Value.slice x660.a x660.len x660.cap) ∧
 (
 ∃ x661 : Int, H.rd h593 (Addr.add (Addr.add b659 ((p1_p).toNat * 1)) 0) (Value.int .i64 x661) ∧
 ∃ b662 : Addr, x660.a = some b662 ∧ 0 ≤ x661 ∧ x661 < ((x660.len : Nat) : Int) ∧
 (
 ∃ x663 : Int, H.rd h593 (Addr.add (Addr.add b662 ((x661).toNat * 1)) 0) (Value.int .i64 x663) ∧
 ([(Value.int .i64 x594), (Value.int .i64 x595), (Value.slice x596.a x596.len x596.cap), (Value.slice x597.a x597.len x597.cap), (Value.slice x598.a x598.len x598.cap), (Value.slice x599.a x599.len x599.cap), (Value.slice x600.a x600.len x600.cap), (Value.slice x601.a x601.len x601.cap), (Value.slice x602.a x602.len x602.cap)]).length = 9 ∧ (Program.underlying Go.Proofs.Tryd.prog 50).isSome = true ∧
 H.wr h593 (Addr.mk r3 0 none) ([(Value.int .i64 x594), (Value.int .i64 x595), (Value.slice x596.a x596.len x596.cap), (Value.slice x597.a x597.len x597.cap), (Value.slice x598.a x598.len x598.cap), (Value.slice x599.a x599.len x599.cap), (Value.slice x600.a x600.len x600.cap), (Value.slice x601.a x601.len x601.cap), (Value.slice x602.a x602.len x602.cap)]) fun h664 =>
 Ri h664 r3 0 fun x665 =>
 Ri h664 r3 1 fun x666 =>
 Rs h664 r3 2 fun x667 =>
 Rs h664 r3 3 fun x668 =>
 Rs h664 r3 4 fun x669 =>
 Rs h664 r3 5 fun x670 =>
 Rs h664 r3 6 fun x671 =>
 Rs h664 r3 7 fun x672 =>
 Rs h664 r3 8 fun x673 =>
 VRet h664 (Value.tuple (List.toArray [(Value.agg (List.toArray [(Value.int .i64 x665), (Value.int .i64 x666), (Value.slice x667.a x667.len x667.cap), (Value.slice x668.a x668.len x668.cap), (Value.slice x669.a x669.len x669.cap), (Value.slice x670.a x670.len x670.cap), (Value.slice x671.a x671.len x671.cap), (Value.slice x672.a x672.len x672.cap), (Value.slice x673.a x673.len x673.cap)])), (Value.bool true), (Value.int .i64 x663), (Value.int .i64 0)])) post) ∧
 (
 ([(Value.int .i64 x594), (Value.int .i64 x595), (Value.slice x596.a x596.len x596.cap), (Value.slice x597.a x597.len x597.cap), (Value.slice x598.a x598.len x598.cap), (Value.slice x599.a x599.len x599.cap), (Value.slice x600.a x600.len x600.cap), (Value.slice x601.a x601.len x601.cap), (Value.slice x602.a x602.len x602.cap)]).length = 9 ∧ (Program.underlying Go.Proofs.Tryd.prog 50).isSome = true ∧
 H.wr h593 (Addr.mk r3 0 none) ([(Value.int .i64 x594), (Value.int .i64 x595), (Value.slice x596.a x596.len x596.cap), (Value.slice x597.a x597.len x597.cap), (Value.slice x598.a x598.len x598.cap), (Value.slice x599.a x599.len x599.cap), (Value.slice x600.a x600.len x600.cap), (Value.slice x601.a x601.len x601.cap), (Value.slice x602.a x602.len x602.cap)]) fun h674 =>
 ∃ x675 : Int, H.rd h674 (Addr.add (Addr.add b662 ((x661).toNat * 1)) 0) (Value.int .i64 x675) ∧
 Ri h674 r3 0 fun x676 =>
 Ri h674 r3 1 fun x677 =>
 Rs h674 r3 2 fun x678 =>
 Rs h674 r3 3 fun x679 =>
 Rs h674 r3 4 fun x680 =>
 Rs h674 r3 5 fun x681 =>
 Rs h674 r3 6 fun x682 =>
 Rs h674 r3 7 fun x683 =>
 Rs h674 r3 8 fun x684 =>
 VRet h674 (Value.tuple (List.toArray [(Value.agg (List.toArray [(Value.int .i64 x676), (Value.int .i64 x677), (Value.slice x678.a x678.len x678.cap), (Value.slice x679.a x679.len x679.cap), (Value.slice x680.a x680.len x680.cap), (Value.slice x681.a x681.len x681.cap), (Value.slice x682.a x682.len x682.cap), (Value.slice x683.a x683.len x683.cap), (Value.slice x684.a x684.len x684.cap)])), (Value.bool true), (Value.int .i64 x675), (Value.int .i64 0)])) post)) ∧
 (
 ([(Value.int .i64 x594), (Value.int .i64 x595), (Value.slice x596.a x596.len x596.cap), (Value.slice x597.a x597.len x597.cap), (Value.slice x598.a x598.len x598.cap), (Value.slice x599.a x599.len x599.cap), (Value.slice x600.a x600.len x600.cap), (Value.slice x601.a x601.len x601.cap), (Value.slice x602.a x602.len x602.cap)]).length = 9 ∧ (Program.underlying Go.Proofs.Tryd.prog 50).isSome = true ∧
 H.wr h593 (Addr.mk r3 0 none) ([(Value.int .i64 x594), (Value.int .i64 x595), (Value.slice x596.a x596.len x596.cap), (Value.slice x597.a x597.len x597.cap), (Value.slice x598.a x598.len x598.cap), (Value.slice x599.a x599.len x599.cap), (Value.slice x600.a x600.len x600.cap), (Value.slice x601.a x601.len x601.cap), (Value.slice x602.a x602.len x602.cap)]) fun h685 =>
 ∃ x686 : Int, H.rd h685 (Addr.add (Addr.add b659 ((p1_p).toNat * 1)) 0) (Value.int .i64 x686) ∧
 ∃ b687 : Addr, x660.a = some b687 ∧ 0 ≤ x686 ∧ x686 < ((x660.len : Nat) : Int) ∧
 ∃ x688 : Int, H.rd h685 (Addr.add (Addr.add b687 ((x686).toNat * 1)) 0) (Value.int .i64 x688) ∧
 Ri h685 r3 0 fun x689 =>
 Ri h685 r3 1 fun x690 =>
 Rs h685 r3 2 fun x691 =>
 Rs h685 r3 3 fun x692 =>
 Rs h685 r3 4 fun x693 =>
 Rs h685 r3 5 fun x694 =>
 Rs h685 r3 6 fun x695 =>
 Rs h685 r3 7 fun x696 =>
 Rs h685 r3 8 fun x697 =>
 VRet h685 (Value.tuple (List.toArray [(Value.agg (List.toArray [(Value.int .i64 x689), (Value.int .i64 x690), (Value.slice x691.a x691.len x691.cap), (Value.slice x692.a x692.len x692.cap), (Value.slice x693.a x693.len x693.cap), (Value.slice x694.a x694.len x694.cap), (Value.slice x695.a x695.len x695.cap), (Value.slice x696.a x696.len x696.cap), (Value.slice x697.a x697.len x697.cap)])), (Value.bool true), (Value.int .i64 x688), (Value.int .i64 0)])) post)) ∧
 (
 (
 ∃ x698 : Int, H.rd h593 (Addr.add (Addr.add b659 ((p1_p).toNat * 1)) 0) (Value.int .i64 x698) ∧
 (
 ∃ x699 : SV, H.rd h593 (Addr.add (Addr.add (Addr.mk r1 0 none) 2) 0) (Value.slice x699.a x699.len x699.cap) ∧
 ∃ b700 : Addr, x699.a = some b700 ∧ 0 ≤ x698 ∧ x698 < ((x699.len : Nat) : Int) ∧
 (
 ∃ x701 : Int, H.rd h593 (Addr.add (Addr.add b700 ((x698).toNat * 1)) 0) (Value.int .i64 x701) ∧
 ([(Value.int .i64 x594), (Value.int .i64 x595), (Value.slice x596.a x596.len x596.cap), (Value.slice x597.a x597.len x597.cap), (Value.slice x598.a x598.len x598.cap), (Value.slice x599.a x599.len x599.cap), (Value.slice x600.a x600.len x600.cap), (Value.slice x601.a x601.len x601.cap), (Value.slice x602.a x602.len x602.cap)]).length = 9 ∧ (Program.underlying Go.Proofs.Tryd.prog 50).isSome = true ∧
 H.wr h593 (Addr.mk r3 0 none) ([(Value.int .i64 x594), (Value.int .i64 x595), (Value.slice x596.a x596.len x596.cap), (Value.slice x597.a x597.len x597.cap), (Value.slice x598.a x598.len x598.cap), (Value.slice x599.a x599.len x599.cap), (Value.slice x600.a x600.len x600.cap), (Value.slice x601.a x601.len x601.cap), (Value.slice x602.a x602.len x602.cap)]) fun h702 =>
 Ri h702 r3 0 fun x703 =>
 Ri h702 r3 1 fun x704 =>
 Rs h702 r3 2 fun x705 =>
 Rs h702 r3 3 fun x706 =>
 Rs h702 r3 4 fun x707 =>
 Rs h702 r3 5 fun x708 =>
 Rs h702 r3 6 fun x709 =>
 Rs h702 r3 7 fun x710 =>
 Rs h702 r3 8 fun x711 =>
 VRet h702 (Value.tuple (List.toArray [(Value.agg (List.toArray [(Value.int .i64 x703), (Value.int .i64 x704), (Value.slice x705.a x705.len x705.cap), (Value.slice x706.a x706.len x706.cap), (Value.slice x707.a x707.len x707.cap), (Value.slice x708.a x708.len x708.cap), (Value.slice x709.a x709.len x709.cap), (Value.slice x710.a x710.len x710.cap), (Value.slice x711.a x711.len x711.cap)])), (Value.bool true), (Value.int .i64 x701), (Value.int .i64 0)])) post) ∧
 (
 ([(Value.int .i64 x594), (Value.int .i64 x595), (Value.slice x596.a x596.len x596.cap), (Value.slice x597.a x597.len x597.cap), (Value.slice x598.a x598.len x598.cap), (Value.slice x599.a x599.len x599.cap), (Value.slice x600.a x600.len x600.cap), (Value.slice x601.a x601.len x601.cap), (Value.slice x602.a x602.len x602.cap)]).length = 9 ∧ (Program.underlying Go.Proofs.Tryd.prog 50).isSome = true ∧
 H.wr h593 (Addr.mk r3 0 none) ([(Value.int .i64 x594), (Value.int .i64 x595), (Value.slice x596.a x596.len x596.cap), (Value.slice x597.a x597.len x597.cap), (Value.slice x598.a x598.len x598.cap), (Value.slice x599.a x599.len x599.cap), (Value.slice x600.a x600.len x600.cap), (Value.slice x601.a x601.len x601.cap), (Value.slice x602.a x602.len x602.cap)]) fun h712 =>
 ∃ x713 : Int, H.rd h712 (Addr.add (Addr.add b700 ((x698).toNat * 1)) 0) (Value.int .i64 x713) ∧
 Ri h712 r3 0 fun x714 =>
 Ri h712 r3 1 fun x715 =>
 Rs h712 r3 2 fun x716 =>
 Rs h712 r3 3 fun x717 =>
 Rs h712 r3 4 fun x718 =>
 Rs h712 r3 5 fun x719 =>
 Rs h712 r3 6 fun x720 =>
 Rs h712 r3 7 fun x721 =>
 Rs h712 r3 8 fun x722 =>
 VRet h712 (Value.tuple (List.toArray [(Value.agg (List.toArray [(Value.int .i64 x714), (Value.int .i64 x715), (Value.slice x716.a x716.len x716.cap), (Value.slice x717.a x717.len x717.cap), (Value.slice x718.a x718.len x718.cap), (Value.slice x719.a x719.len x719.cap), (Value.slice x720.a x720.len x720.cap), (Value.slice x721.a x721.len x721.cap), (Value.slice x722.a x722.len x722.cap)])), (Value.bool true), (Value.int .i64 x713), (Value.int .i64 0)])) post)) ∧
 (
 ([(Value.int .i64 x594), (Value.int .i64 x595), (Value.slice x596.a x596.len x596.cap), (Value.slice x597.a x597.len x597.cap), (Value.slice x598.a x598.len x598.cap), (Value.slice x599.a x599.len x599.cap), (Value.slice x600.a x600.len x600.cap), (Value.slice x601.a x601.len x601.cap), (Value.slice x602.a x602.len x602.cap)]).length = 9 ∧ (Program.underlying Go.Proofs.Tryd.prog 50).isSome = true ∧
 H.wr h593 (Addr.mk r3 0 none) ([(Value.int .i64 x594), (Value.int .i64 x595), (Value.slice x596.a x596.len x596.cap), (Value.slice x597.a x597.len x597.cap), (Value.slice x598.a x598.len x598.cap), (Value.slice x599.a x599.len x599.cap), (Value.slice x600.a x600.len x600.cap), (Value.slice x601.a x601.len x601.cap), (Value.slice x602.a x602.len x602.cap)]) fun h723 =>
 ∃ x724 : SV, H.rd h723 (Addr.add (Addr.add (Addr.mk r1 0 none) 2) 0) (Value.slice x724.a x724.len x724.cap) ∧
 ∃ b725 : Addr, x724.a = some b725 ∧ 0 ≤ x698 ∧ x698 < ((x724.len : Nat) : Int) ∧
 ∃ x726 : Int, H.rd h723 (Addr.add (Addr.add b725 ((x698).toNat * 1)) 0) (Value.int .i64 x726) ∧
 Ri h723 r3 0 fun x727 =>
 Ri h723 r3 1 fun x728 =>
 Rs h723 r3 2 fun x729 =>
 Rs h723 r3 3 fun x730 =>
 Rs h723 r3 4 fun x731 =>
 Rs h723 r3 5 fun x732 =>
 Rs h723 r3 6 fun x733 =>
 Rs h723 r3 7 fun x734 =>
 Rs h723 r3 8 fun x735 =>
 VRet h723 (Value.tuple (List.toArray [(Value.agg (List.toArray [(Value.int .i64 x727), (Value.int .i64 x728), (Value.slice x729.a x729.len x729.cap), (Value.slice x730.a x730.len x730.cap), (Value.slice x731.a x731.len x731.cap), (Value.slice x732.a x732.len x732.cap), (Value.slice x733.a x733.len x733.cap), (Value.slice x734.a x734.len x734.cap), (Value.slice x735.a x735.len x735.cap)])), (Value.bool true), (Value.int .i64 x726), (Value.int .i64 0)])) post)) ∧
 (
 ([(Value.int .i64 x594), (Value.int .i64 x595), (Value.slice x596.a x596.len x596.cap), (Value.slice x597.a x597.len x597.cap), (Value.slice x598.a x598.len x598.cap), (Value.slice x599.a x599.len x599.cap), (Value.slice x600.a x600.len x600.cap), (Value.slice x601.a x601.len x601.cap), (Value.slice x602.a x602.len x602.cap)]).length = 9 ∧ (Program.underlying Go.Proofs.Tryd.prog 50).isSome = true ∧
 H.wr h593 (Addr.mk r3 0 none) ([(Value.int .i64 x594), (Value.int .i64 x595), (Value.slice x596.a x596.len x596.cap), (Value.slice x597.a x597.len x597.cap), (Value.slice x598.a x598.len x598.cap), (Value.slice x599.a x599.len x599.cap), (Value.slice x600.a x600.len x600.cap), (Value.slice x601.a x601.len x601.cap), (Value.slice x602.a x602.len x602.cap)]) fun h736 =>
 (
 ∃ x737 : SV, H.rd h736 (Addr.add (Addr.add (Addr.mk r1 0 none) 2) 0) (Value.slice x737.a x737.len x737.cap) ∧
 ∃ x738 : Int, H.rd h736 (Addr.add (Addr.add b659 ((p1_p).toNat * 1)) 0) (Value.int .i64 x738) ∧
 ∃ b739 : Addr, x737.a = some b739 ∧ 0 ≤ x738 ∧ x738 < ((x737.len : Nat) : Int) ∧
 ∃ x740 : Int, H.rd h736 (Addr.add (Addr.add b739 ((x738).toNat * 1)) 0) (Value.int .i64 x740) ∧
 Ri h736 r3 0 fun x741 =>
 Ri h736 r3 1 fun x742 =>
 Rs h736 r3 2 fun x743 =>
 Rs h736 r3 3 fun x744 =>
 Rs h736 r3 4 fun x745 =>
 Rs h736 r3 5 fun x746 =>
 Rs h736 r3 6 fun x747 =>
 Rs h736 r3 7 fun x748 =>
 Rs h736 r3 8 fun x749 =>
 VRet h736 (Value.tuple (List.toArray [(Value.agg (List.toArray [(Value.int .i64 x741), (Value.int .i64 x742), (Value.slice x743.a x743.len x743.cap), (Value.slice x744.a x744.len x744.cap), (Value.slice x745.a x745.len x745.cap), (Value.slice x746.a x746.len x746.cap), (Value.slice x747.a x747.len x747.cap), (Value.slice x748.a x748.len x748.cap), (Value.slice x749.a x749.len x749.cap)])), (Value.bool true), (Value.int .i64 x740), (Value.int .i64 0)])) post) ∧
 (
 ∃ x750 : Int, H.rd h736 (Addr.add (Addr.add b659 ((p1_p).toNat * 1)) 0) (Value.int .i64 x750) ∧
 ∃ x751 : SV, H.rd h736 (Addr.add (Addr.add (Addr.mk r1 0 none) 2) 0) (Value.slice x751.a x751.len x751.cap) ∧
 ∃ b752 : Addr, x751.a = some b752 ∧ 0 ≤ x750 ∧ x750 < ((x751.len : Nat) : Int) ∧
 ∃ x753 : Int, H.rd h736 (Addr.add (Addr.add b752 ((x750).toNat * 1)) 0) (Value.int .i64 x753) ∧
 Ri h736 r3 0 fun x754 =>
 Ri h736 r3 1 fun x755 =>
 Rs h736 r3 2 fun x756 =>
 Rs h736 r3 3 fun x757 =>
 Rs h736 r3 4 fun x758 =>
 Rs h736 r3 5 fun x759 =>
 Rs h736 r3 6 fun x760 =>
 Rs h736 r3 7 fun x761 =>
 Rs h736 r3 8 fun x762 =>
 VRet h736 (Value.tuple (List.toArray [(Value.agg (List.toArray [(Value.int .i64 x754), (Value.int .i64 x755), (Value.slice x756.a x756.len x756.cap), (Value.slice x757.a x757.len x757.cap), (Value.slice x758.a x758.len x758.cap), (Value.slice x759.a x759.len x759.cap), (Value.slice x760.a x760.len x760.cap), (Value.slice x761.a x761.len x761.cap), (Value.slice x762.a x762.len x762.cap)])), (Value.bool true), (Value.int .i64 x753), (Value.int .i64 0)])) post)))) ∧
 (
 ([(Value.int .i64 x594), (Value.int .i64 x595), (Value.slice x596.a x596.len x596.cap), (Value.slice x597.a x597.len x597.cap), (Value.slice x598.a x598.len x598.cap), (Value.slice x599.a x599.len x599.cap), (Value.slice x600.a x600.len x600.cap), (Value.slice x601.a x601.len x601.cap), (Value.slice x602.a x602.len x602.cap)]).length = 9 ∧ (Program.underlying Go.Proofs.Tryd.prog 50).isSome = true ∧
 H.wr h593 (Addr.mk r3 0 none) ([(Value.int .i64 x594), (Value.int .i64 x595), (Value.slice x596.a x596.len x596.cap), (Value.slice x597.a x597.len x597.cap), (Value.slice x598.a x598.len x598.cap), (Value.slice x599.a x599.len x599.cap), (Value.slice x600.a x600.len x600.cap), (Value.slice x601.a x601.len x601.cap), (Value.slice x602.a x602.len x602.cap)]) fun h763 =>
 (
 ∃ x764 : SV, H.rd h763 (Addr.add (Addr.add (Addr.mk r1 0 none) 2) 0) (Value.slice x764.a x764.len x764.cap) ∧
 ∃ x765 : SV, H.rd h763 (Addr.add (Addr.add (Addr.mk r1 0 none) 8) 0) (Value.slice x765.a x765.len x765.cap) ∧
 ∃ b766 : Addr, x765.a = some b766 ∧ 0 ≤ p1_p ∧ p1_p < ((x765.len : Nat) : Int) ∧
 ∃ x767 : Int, H.rd h763 (Addr.add (Addr.add b766 ((p1_p).toNat * 1)) 0) (Value.int .i64 x767) ∧
 ∃ b768 : Addr, x764.a = some b768 ∧ 0 ≤ x767 ∧ x767 < ((x764.len : Nat) : Int) ∧
 ∃ x769 : Int, H.rd h763 (Addr.add (Addr.add b768 ((x767).toNat * 1)) 0) (Value.int .i64 x769) ∧
 Ri h763 r3 0 fun x770 =>
 Ri h763 r3 1 fun x771 =>
 Rs h763 r3 2 fun x772 =>
 Rs h763 r3 3 fun x773 =>
 Rs h763 r3 4 fun x774 =>
 Rs h763 r3 5 fun x775 =>
 Rs h763 r3 6 fun x776 =>
 Rs h763 r3 7 fun x777 =>
 Rs h763 r3 8 fun x778 =>
 VRet h763 (Value.tuple (List.toArray [(Value.agg (List.toArray [(Value.int .i64 x770), (Value.int .i64 x771), (Value.slice x772.a x772.len x772.cap), (Value.slice x773.a x773.len x773.cap), (Value.slice x774.a x774.len x774.cap), (Value.slice x775.a x775.len x775.cap), (Value.slice x776.a x776.len x776.cap), (Value.slice x777.a x777.len x777.cap), (Value.slice x778.a x778.len x778.cap)])), (Value.bool true), (Value.int .i64 x769), (Value.int .i64 0)])) post) ∧
 (
 ∃ x779 : SV, H.rd h763 (Addr.add (Addr.add (Addr.mk r1 0 none) 8) 0) (Value.slice x779.a x779.len x779.cap) ∧
 ∃ b780 : Addr, x779.a = some b780 ∧ 0 ≤ p1_p ∧ p1_p < ((x779.len : Nat) : Int) ∧
 (
 ∃ x781 : SV, H.rd h763 (Addr.add (Addr.add (Addr.mk r1 0 none) 2) 0) (Value.slice x781.a x781.len x781.cap) ∧
 ∃ x782 : Int, H.rd h763 (Addr.add (Addr.add b780 ((p1_p).toNat * 1)) 0) (Value.int .i64 x782) ∧
 ∃ b783 : Addr, x781.a = some b783 ∧ 0 ≤ x782 ∧ x782 < ((x781.len : Nat) : Int) ∧
 ∃ x784 : Int, H.rd h763 (Addr.add (Addr.add b783 ((x782).toNat * 1)) 0) (Value.int .i64 x784) ∧
 Ri h763 r3 0 fun x785 =>
 Ri h763 r3 1 fun x786 =>
 Rs h763 r3 2 fun x787 =>
 Rs h763 r3 3 fun x788 =>
 Rs h763 r3 4 fun x789 =>
 Rs h763 r3 5 fun x790 =>
 Rs h763 r3 6 fun x791 =>
 Rs h763 r3 7 fun x792 =>
 Rs h763 r3 8 fun x793 =>
 VRet h763 (Value.tuple (List.toArray [(Value.agg (List.toArray [(Value.int .i64 x785), (Value.int .i64 x786), (Value.slice x787.a x787.len x787.cap), (Value.slice x788.a x788.len x788.cap), (Value.slice x789.a x789.len x789.cap), (Value.slice x790.a x790.len x790.cap), (Value.slice x791.a x791.len x791.cap), (Value.slice x792.a x792.len x792.cap), (Value.slice x793.a x793.len x793.cap)])), (Value.bool true), (Value.int .i64 x784), (Value.int .i64 0)])) post) ∧
 (
 ∃ x794 : Int, H.rd h763 (Addr.add (Addr.add b780 ((p1_p).toNat * 1)) 0) (Value.int .i64 x794) ∧
 ∃ x795 : SV, H.rd h763 (Addr.add (Addr.add (Addr.mk r1 0 none) 2) 0) (Value.slice x795.a x795.len x795.cap) ∧
 ∃ b796 : Addr, x795.a = some b796 ∧ 0 ≤ x794 ∧ x794 < ((x795.len : Nat) : Int) ∧
 ∃ x797 : Int, H.rd h763 (Addr.add (Addr.add b796 ((x794).toNat * 1)) 0) (Value.int .i64 x797) ∧
 Ri h763 r3 0 fun x798 =>
 Ri h763 r3 1 fun x799 =>
 Rs h763 r3 2 fun x800 =>
 Rs h763 r3 3 fun x801 =>
 Rs h763 r3 4 fun x802 =>
 Rs h763 r3 5 fun x803 =>
 Rs h763 r3 6 fun x804 =>
 Rs h763 r3 7 fun x805 =>
 Rs h763 r3 8 fun x806 =>
 VRet h763 (Value.tuple (List.toArray [(Value.agg (List.toArray [(Value.int .i64 x798), (Value.int .i64 x799), (Value.slice x800.a x800.len x800.cap), (Value.slice x801.a x801.len x801.cap), (Value.slice x802.a x802.len x802.cap), (Value.slice x803.a x803.len x803.cap), (Value.slice x804.a x804.len x804.cap), (Value.slice x805.a x805.len x805.cap), (Value.slice x806.a x806.len x806.cap)])), (Value.bool true), (Value.int .i64 x797), (Value.int .i64 0)])) post))))) ∧
 (
 (
 ∃ x807 : SV, H.rd h582 (Addr.add (Addr.add (Addr.mk r1 0 none) 2) 0) (Value.slice x807.a x807.len x807.cap) ∧
 (
 SemCall Go.Proofs.Tryd.prog 36 (List.toArray [(Value.agg (List.toArray [(Value.int .i64 x583), (Value.int .i64 x584), (Value.slice x585.a x585.len x585.cap), (Value.slice x586.a x586.len x586.cap), (Value.slice x587.a x587.len x587.cap), (Value.slice x588.a x588.len x588.cap), (Value.slice x589.a x589.len x589.cap), (Value.slice x590.a x590.len x590.cap), (Value.slice x591.a x591.len x591.cap)])), (Value.int .i64 p1_p), (Value.int .i64 0)]) h582 fun v808 h809 =>
 ∃ x810 : Int, ∃ x811 : Int, ∃ x812 : SV, ∃ x813 : SV, ∃ x814 : SV, ∃ x815 : SV, ∃ x816 : SV, ∃ x817 : SV, ∃ x818 : SV, v808 = (Value.agg (List.toArray [(Value.int .i64 x810), (Value.int .i64 x811), (Value.slice x812.a x812.len x812.cap), (Value.slice x813.a x813.len x813.cap), (Value.slice x814.a x814.len x814.cap), (Value.slice x815.a x815.len x815.cap), (Value.slice x816.a x816.len x816.cap), (Value.slice x817.a x817.len x817.cap), (Value.slice x818.a x818.len x818.cap)])) ∧
 (
 ∃ x819 : SV, H.rd h809 (Addr.add (Addr.add (Addr.mk r1 0 none) 8) 0) (Value.slice x819.a x819.len x819.cap) ∧
 ∃ b820 : Addr, x819.a = some b820 ∧ 0 ≤ p1_p ∧ p1_p < ((x819.len : Nat) : Int) ∧
 (
 ∃ x821 : Int, H.rd h809 (Addr.add (Addr.add b820 ((p1_p).toNat * 1)) 0) (Value.int .i64 x821) ∧
 ∃ b822 : Addr, x807.a = some b822 ∧ 0 ≤ x821 ∧ x821 < ((x807.len : Nat) : Int) ∧
 (
 ∃ x823 : Int, H.rd h809 (Addr.add (Addr.add b822 ((x821).toNat * 1)) 0) (Value.int .i64 x823) ∧
 ([(Value.int .i64 x810), (Value.int .i64 x811), (Value.slice x812.a x812.len x812.cap), (Value.slice x813.a x813.len x813.cap), (Value.slice x814.a x814.len x814.cap), (Value.slice x815.a x815.len x815.cap), (Value.slice x816.a x816.len x816.cap), (Value.slice x817.a x817.len x817.cap), (Value.slice x818.a x818.len x818.cap)]).length = 9 ∧ (Program.underlying Go.Proofs.Tryd.prog 50).isSome = true ∧
 H.wr h809 (Addr.mk r3 0 none) ([(Value.int .i64 x810), (Value.int .i64 x811), (Value.slice x812.a x812.len x812.cap), (Value.slice x813.a x813.len x813.cap), (Value.slice x814.a x814.len x814.cap), (Value.slice x815.a x815.len x815.cap), (Value.slice x816.a x816.len x816.cap), (Value.slice x817.a x817.len x817.cap), (Value.slice x818.a x818.len x818.cap)]) fun h824 =>
 Ri h824 r3 0 fun x825 =>
 Ri h824 r3 1 fun x826 =>
 Rs h824 r3 2 fun x827 =>
 Rs h824 r3 3 fun x828 =>
 Rs h824 r3 4 fun x829 =>
 Rs h824 r3 5 fun x830 =>
 Rs h824 r3 6 fun x831 =>
 Rs h824 r3 7 fun x832 =>
 Rs h824 r3 8 fun x833 =>
 VRet h824 (Value.tuple (List.toArray [(Value.agg (List.toArray [(Value.int .i64 x825), (Value.int .i64 x826), (Value.slice x827.a x827.len x827.cap), (Value.slice x828.a x828.len x828.cap), (Value.slice x829.a x829.len x829.cap), (Value.slice x830.a x830.len x830.cap), (Value.slice x831.a x831.len x831.cap), (Value.slice x832.a x832.len x832.cap), (Value.slice x833.a x833.len x833.cap)])), (Value.bool true), (Value.int .i64 x823), (Value.int .i64 0)])) post) ∧
 (
 ([(Value.int .i64 x810), (Value.int .i64 x811), (Value.slice x812.a x812.len x812.cap), (Value.slice x813.a x813.len x813.cap), (Value.slice x814.a x814.len x814.cap), (Value.slice x815.a x815.len x815.cap), (Value.slice x816.a x816.len x816.cap), (Value.slice x817.a x817.len x817.cap), (Value.slice x818.a x818.len x818.cap)]).length = 9 ∧ (Program.underlying Go.Proofs.Tryd.prog 50).isSome = true ∧
 H.wr h809 (Addr.mk r3 0 none) ([(Value.int .i64 x810), (Value.int .i64 x811), (Value.slice x812.a x812.len x812.cap), (Value.slice x813.a x813.len x813.cap), (Value.slice x814.a x814.len x814.cap), (Value.slice x815.a x815.len x815.cap), (Value.slice x816.a x816.len x816.cap), (Value.slice x817.a x817.len x817.cap), (Value.slice x818.a x818.len x818.cap)]) fun h834 =>
 ∃ x835 : Int, H.rd h834 (Addr.add (Addr.add b822 ((x821).toNat * 1)) 0) (Value.int .i64 x835) ∧
 Ri h834 r3 0 fun x836 =>
 Ri h834 r3 1 fun x837 =>
 Rs h834 r3 2 fun x838 =>
 Rs h834 r3 3 fun x839 =>
 Rs h834 r3 4 fun x840 =>
 Rs h834 r3 5 fun x841 =>
 Rs h834 r3 6 fun x842 =>
 Rs h834 r3 7 fun x843 =>
 Rs h834 r3 8 fun x844 =>
 VRet h834 (Value.tuple (List.toArray [(Value.agg (List.toArray [(Value.int .i64 x836), (Value.int .i64 x837), (Value.slice x838.a x838.len x838.cap), (Value.slice x839.a x839.len x839.cap), (Value.slice x840.a x840.len x840.cap), (Value.slice x841.a x841.len x841.cap), (Value.slice x842.a x842.len x842.cap), (Value.slice x843.a x843.len x843.cap), (Value.slice x844.a x844.len x844.cap)])), (Value.bool true), (Value.int .i64 x835), (Value.int .i64 0)])) post)) ∧
 (
 ([(Value.int .i64 x810), (Value.int .i64 x811), (Value.slice x812.a x812.len x812.cap), (Value.slice x813.a x813.len x813.cap), (Value.slice x814.a x814.len x814.cap), (Value.slice x815.a x815.len x815.cap), (Value.slice x816.a x816.len x816.cap), (Value.slice x817.a x817.len x817.cap), (Value.slice x818.a x818.len x818.cap)]).length = 9 ∧ (Program.underlying Go.Proofs.Tryd.prog 50).isSome = true ∧
 H.wr h809 (Addr.mk r3 0 none) ([(Value.int .i64 x810), (Value.int .i64 x811), (Value.slice x812.a x812.len x812.cap), (Value.slice x813.a x813.len x813.cap), (Value.slice x814.a x814.len x814.cap), (Value.slice x815.a x815.len x815.cap), (Value.slice x816.a x816.len x816.cap), (Value.slice x817.a x817.len x817.cap), (Value.slice x818.a x818.len x818.cap)]) fun h845 =>
 ∃ x846 : Int, H.rd h845 (Addr.add (Addr.add b820 ((p1_p).toNat * 1)) 0) (Value.int .i64 x846) ∧
 ∃ b847 : Addr, x807.a = some b847 ∧ 0 ≤ x846 ∧ x846 < ((x807.len : Nat) : Int) ∧
 ∃ x848 : Int, H.rd h845 (Addr.add (Addr.add b847 ((x846).toNat * 1)) 0) (Value.int .i64 x848) ∧
 Ri h845 r3 0 fun x849 =>
 Ri h845 r3 1 fun x850 =>
 Rs h845 r3 2 fun x851 =>
 Rs h845 r3 3 fun x852 =>
 Rs h845 r3 4 fun x853 =>
 Rs h845 r3 5 fun x854 =>
 Rs h845 r3 6 fun x855 =>
 Rs h845 r3 7 fun x856 =>
 Rs h845 r3 8 fun x857 =>
 VRet h845 (Value.tuple (List.toArray [(Value.agg (List.toArray [(Value.int .i64 x849), (Value.int .i64 x850), (Value.slice x851.a x851.len x851.cap), (Value.slice x852.a x852.len x852.cap), (Value.slice x853.a x853.len x853.cap), (Value.slice x854.a x854.len x854.cap), (Value.slice x855.a x855.len x855.cap), (Value.slice x856.a x856.len x856.cap), (Value.slice x857.a x857.len x857.cap)])), (Value.bool true), (Value.int .i64 x848), (Value.int .i64 0)])) post)) ∧
 (
 ([(Value.int .i64 x810), (Value.int .i64 x811), (Value.slice x812.a x812.len x812.cap), (Value.slice x813.a x813.len x813.cap), (Value.slice x814.a x814.len x814.cap), (Value.slice x815.a x815.len x815.cap), (Value.slice x816.a x816.len x816.cap), (Value.slice x817.a x817.len x817.cap), (Value.slice x818.a x818.len x818.cap)]).length = 9 ∧ (Program.underlying Go.Proofs.Tryd.prog 50).isSome = true ∧
 H.wr h809 (Addr.mk r3 0 none) ([(Value.int .i64 x810), (Value.int .i64 x811), (Value.slice x812.a x812.len x812.cap), (Value.slice x813.a x813.len x813.cap), (Value.slice x814.a x814.len x814.cap), (Value.slice x815.a x815.len x815.cap), (Value.slice x816.a x816.len x816.cap), (Value.slice x817.a x817.len x817.cap), (Value.slice x818.a x818.len x818.cap)]) fun h858 =>
 ∃ x859 : SV, H.rd h858 (Addr.add (Addr.add (Addr.mk r1 0 none) 8) 0) (Value.slice x859.a x859.len x859.cap) ∧
 ∃ b860 : Addr, x859.a = some b860 ∧ 0 ≤ p1_p ∧ p1_p < ((x859.len : Nat) : Int) ∧
 ∃ x861 : Int, H.rd h858 (Addr.add (Addr.add b860 ((p1_p).toNat * 1)) 0) (Value.int .i64 x861) ∧
 ∃ b862 : Addr, x807.a = some b862 ∧ 0 ≤ x861 ∧ x861 < ((x807.len : Nat) : Int) ∧
 ∃ x863 : Int, H.rd h858 (Addr.add (Addr.add b862 ((x861).toNat * 1)) 0) (Value.int .i64 x863) ∧
 Ri h858 r3 0 fun x864 =>
 Ri h858 r3 1 fun x865 =>
 Rs h858 r3 2 fun x866 =>
 Rs h858 r3 3 fun x867 =>
 Rs h858 r3 4 fun x868 =>
 Rs h858 r3 5 fun x869 =>
 Rs h858 r3 6 fun x870 =>
 Rs h858 r3 7 fun x871 =>
 Rs h858 r3 8 fun x872 =>
 VRet h858 (Value.tuple (List.toArray [(Value.agg (List.toArray [(Value.int .i64 x864), (Value.int .i64 x865), (Value.slice x866.a x866.len x866.cap), (Value.slice x867.a x867.len x867.cap), (Value.slice x868.a x868.len x868.cap), (Value.slice x869.a x869.len x869.cap), (Value.slice x870.a x870.len x870.cap), (Value.slice x871.a x871.len x871.cap), (Value.slice x872.a x872.len x872.cap)])), (Value.bool true), (Value.int .i64 x863), (Value.int .i64 0)])) post)) ∧
 (
 ∃ x873 : SV, H.rd h582 (Addr.add (Addr.add (Addr.mk r1 0 none) 8) 0) (Value.slice x873.a x873.len x873.cap) ∧
 ∃ b874 : Addr, x873.a = some b874 ∧ 0 ≤ p1_p ∧ p1_p < ((x873.len : Nat) : Int) ∧
 (
 SemCall Go.Proofs.Tryd.prog 36 (List.toArray [(Value.agg (List.toArray [(Value.int .i64 x583), (Value.int .i64 x584), (Value.slice x585.a x585.len x585.cap), (Value.slice x586.a x586.len x586.cap), (Value.slice x587.a x587.len x587.cap), (Value.slice x588.a x588.len x588.cap), (Value.slice x589.a x589.len x589.cap), (Value.slice x590.a x590.len x590.cap), (Value.slice x591.a x591.len x591.cap)])), (Value.int .i64 p1_p), (Value.int .i64 0)]) h582 fun v875 h876 =>
 ∃ x877 : Int, ∃ x878 : Int, ∃ x879 : SV, ∃ x880 : SV, ∃ x881 : SV, ∃ x882 : SV, ∃ x883 : SV, ∃ x884 : SV, ∃ x885 : SV, v875 = (Value.agg (List.toArray [(Value.int .i64 x877), (Value.int .i64 x878), (Value.slice x879.a x879.len x879.cap), (Value.slice x880.a x880.len x880.cap), (Value.slice x881.a x881.len x881.cap), (Value.slice x882.a x882.len x882.cap), (Value.slice x883.a x883.len x883.cap), (Value.slice x884.a x884.len x884.cap), (Value.slice x885.a x885.len x885.cap)])) ∧
 (
 ∃ x886 : Int, H.rd h876 (Addr.add (Addr.add b874 ((p1_p).toNat * 1)) 0) (Value.int .i64 x886) ∧
 ∃ b887 : Addr, x807.a = some b887 ∧ 0 ≤ x886 ∧ x886 < ((x807.len : Nat) : Int) ∧
 (
 ∃ x888 : Int, H.rd h876 (Addr.add (Addr.add b887 ((x886).toNat * 1)) 0) (Value.int .i64 x888) ∧
 ([(Value.int .i64 x877), (Value.int .i64 x878), (Value.slice x879.a x879.len x879.cap), (Value.slice x880.a x880.len x880.cap), (Value.slice x881.a x881.len x881.cap), (Value.slice x882.a x882.len x882.cap), (Value.slice x883.a x883.len x883.cap), (Value.slice x884.a x884.len x884.cap), (Value.slice x885.a x885.len x885.cap)]).length = 9 ∧ (Program.underlying Go.Proofs.Tryd.prog 50).isSome = true ∧
 H.wr h876 (Addr.mk r3 0 none) ([(Value.int .i64 x877), (Value.int .i64 x878), (Value.slice x879.a x879.len x879.cap), (Value.slice x880.a x880.len x880.cap), (Value.slice x881.a x881.len x881.cap), (Value.slice x882.a x882.len x882.cap), (Value.slice x883.a x883.len x883.cap), (Value.slice x884.a x884.len x884.cap), (Value.slice x885.a x885.len x885.cap)]) fun h889 =>
 Ri h889 r3 0 fun x890 =>
 Ri h889 r3 1 fun x891 =>
 Rs h889 r3 2 fun x892 =>
 Rs h889 r3 3 fun x893 =>
 Rs h889 r3 4 fun x894 =>
 Rs h889 r3 5 fun x895 =>
 Rs h889 r3 6 fun x896 =>
 Rs h889 r3 7 fun x897 =>
 Rs h889 r3 8 fun x898 =>
 VRet h889 (Value.tuple (List.toArray [(Value.agg (List.toArray [(Value.int .i64 x890), (Value.int .i64 x891), (Value.slice x892.a x892.len x892.cap), (Value.slice x893.a x893.len x893.cap), (Value.slice x894.a x894.len x894.cap), (Value.slice x895.a x895.len x895.cap), (Value.slice x896.a x896.len x896.cap), (Value.slice x897.a x897.len x897.cap), (Value.slice x898.a x898.len x898.cap)])), (Value.bool true), (Value.int .i64 x888), (Value.int .i64 0)])) post) ∧
 (
 ([(Value.int .i64 x877), (Value.int .i64 x878), (Value.slice x879.a x879.len x879.cap), (Value.slice x880.a x880.len x880.cap), (Value.slice x881.a x881.len x881.cap), (Value.slice x882.a x882.len x882.cap), (Value.slice x883.a x883.len x883.cap), (Value.slice x884.a x884.len x884.cap), (Value.slice x885.a x885.len x885.cap)]).length = 9 ∧ (Program.underlying Go.Proofs.Tryd.prog 50).isSome = true ∧
 H.wr h876 (Addr.mk r3 0 none) ([(Value.int .i64 x877), (Value.int .i64 x878), (Value.slice x879.a x879.len x879.cap), (Value.slice x880.a x880.len x880.cap), (Value.slice x881.a x881.len x881.cap), (Value.slice x882.a x882.len x882.cap), (Value.slice x883.a x883.len x883.cap), (Value.slice x884.a x884.len x884.cap), (Value.slice x885.a x885.len x885.cap)]) fun h899 =>
 ∃ x900 : Int, H.rd h899 (Addr.add (Addr.add b887 ((x886).toNat * 1)) 0) (Value.int .i64 x900) ∧
 Ri h899 r3 0 fun x901 =>
 Ri h899 r3 1 fun x902 =>
 Rs h899 r3 2 fun x903 =>
 Rs h899 r3 3 fun x904 =>
 Rs h899 r3 4 fun x905 =>
 Rs h899 r3 5 fun x906 =>
 Rs h899 r3 6 fun x907 =>
 Rs h899 r3 7 fun x908 =>
 Rs h899 r3 8 fun x909 =>
 VRet h899 (Value.tuple (List.toArray [(Value.agg (List.toArray [(Value.int .i64 x901), (Value.int .i64 x902), (Value.slice x903.a x903.len x903.cap), (Value.slice x904.a x904.len x904.cap), (Value.slice x905.a x905.len x905.cap), (Value.slice x906.a x906.len x906.cap), (Value.slice x907.a x907.len x907.cap), (Value.slice x908.a x908.len x908.cap), (Value.slice x909.a x909.len x909.cap)])), (Value.bool true), (Value.int .i64 x900), (Value.int .i64 0)])) post)) ∧
 (
 ([(Value.int .i64 x877), (Value.int .i64 x878), (Value.slice x879.a x879.len x879.cap), (Value.slice x880.a x880.len x880.cap), (Value.slice x881.a x881.len x881.cap), (Value.slice x882.a x882.len x882.cap), (Value.slice x883.a x883.len x883.cap), (Value.slice x884.a x884.len x884.cap), (Value.slice x885.a x885.len x885.cap)]).length = 9 ∧ (Program.underlying Go.Proofs.Tryd.prog 50).isSome = true ∧
 H.wr h876 (Addr.mk r3 0 none) ([(Value.int .i64 x877), (Value.int .i64 x878), (Value.slice x879.a x879.len x879.cap), (Value.slice x880.a x880.len x880.cap), (Value.slice x881.a x881.len x881.cap), (Value.slice x882.a x882.len x882.cap), (Value.slice x883.a x883.len x883.cap), (Value.slice x884.a x884.len x884.cap), (Value.slice x885.a x885.len x885.cap)]) fun h910 =>
 ∃ x911 : Int, H.rd h910 (Addr.add (Addr.add b874 ((p1_p).toNat * 1)) 0) (Value.int .i64 x911) ∧
 ∃ b912 : Addr, x807.a = some b912 ∧ 0 ≤ x911 ∧ x911 < ((x807.len : Nat) : Int) ∧
 ∃ x913 : Int, H.rd h910 (Addr.add (Addr.add b912 ((x911).toNat * 1)) 0) (Value.int .i64 x913) ∧
 Ri h910 r3 0 fun x914 =>
 Ri h910 r3 1 fun x915 =>
 Rs h910 r3 2 fun x916 =>
 Rs h910 r3 3 fun x917 =>
 Rs h910 r3 4 fun x918 =>
 Rs h910 r3 5 fun x919 =>
 Rs h910 r3 6 fun x920 =>
 Rs h910 r3 7 fun x921 =>
 Rs h910 r3 8 fun x922 =>
 VRet h910 (Value.tuple (List.toArray [(Value.agg (List.toArray [(Value.int .i64 x914), (Value.int .i64 x915), (Value.slice x916.a x916.len x916.cap), (Value.slice x917.a x917.len x917.cap), (Value.slice x918.a x918.len x918.cap), (Value.slice x919.a x919.len x919.cap), (Value.slice x920.a x920.len x920.cap), (Value.slice x921.a x921.len x921.cap), (Value.slice x922.a x922.len x922.cap)])), (Value.bool true), (Value.int .i64 x913), (Value.int .i64 0)])) post)) ∧
 (
 ∃ x923 : Int, H.rd h582 (Addr.add (Addr.add b874 ((p1_p).toNat * 1)) 0) (Value.int .i64 x923) ∧
 ∃ b924 : Addr, x807.a = some b924 ∧ 0 ≤ x923 ∧ x923 < ((x807.len : Nat) : Int) ∧
 (
 SemCall Go.Proofs.Tryd.prog 36 (List.toArray [(Value.agg (List.toArray [(Value.int .i64 x583), (Value.int .i64 x584), (Value.slice x585.a x585.len x585.cap), (Value.slice x586.a x586.len x586.cap), (Value.slice x587.a x587.len x587.cap), (Value.slice x588.a x588.len x588.cap), (Value.slice x589.a x589.len x589.cap), (Value.slice x590.a x590.len x590.cap), (Value.slice x591.a x591.len x591.cap)])), (Value.int .i64 p1_p), (Value.int .i64 0)]) h582 fun v925 h926 =>
 ∃ x927 : Int, ∃ x928 : Int, ∃ x929 : SV, ∃ x930 : SV, ∃ x931 : SV, ∃ x932 : SV, ∃ x933 : SV, ∃ x934 : SV, ∃ x935 : SV, v925 = (Value.agg (List.toArray [(Value.int .i64 x927), (Value.int .i64 x928), (Value.slice x929.a x929.len x929.cap), (Value.slice x930.a x930.len x930.cap), (Value.slice x931.a x931.len x931.cap), (Value.slice x932.a x932.len x932.cap), (Value.slice x933.a x933.len x933.cap), (Value.slice x934.a x934.len x934.cap), (Value.slice x935.a x935.len x935.cap)])) ∧
 (
 ∃ x936 : Int, H.rd h926 (Addr.add (Addr.add b924 ((x923).toNat * 1)) 0) (Value.int .i64 x936) ∧
 ([(Value.int .i64 x927), (Value.int .i64 x928), (Value.slice x929.a x929.len x929.cap), (Value.slice x930.a x930.len x930.cap), (Value.slice x931.a x931.len x931.cap), (Value.slice x932.a x932.len x932.cap), (Value.slice x933.a x933.len x933.cap), (Value.slice x934.a x934.len x934.cap), (Value.slice x935.a x935.len x935.cap)]).length = 9 ∧ (Program.underlying Go.Proofs.Tryd.prog 50).isSome = true ∧
 H.wr h926 (Addr.mk r3 0 none) ([(Value.int .i64 x927), (Value.int .i64 x928), (Value.slice x929.a x929.len x929.cap), (Value.slice x930.a x930.len x930.cap), (Value.slice x931.a x931.len x931.cap), (Value.slice x932.a x932.len x932.cap), (Value.slice x933.a x933.len x933.cap), (Value.slice x934.a x934.len x934.cap), (Value.slice x935.a x935.len x935.cap)]) fun h937 =>
 Ri h937 r3 0 fun x938 =>
 Ri h937 r3 1 fun x939 =>
 Rs h937 r3 2 fun x940 =>
 Rs h937 r3 3 fun x941 =>
 Rs h937 r3 4 fun x942 =>
 Rs h937 r3 5 fun x943 =>
 Rs h937 r3 6 fun x944 =>
 Rs h937 r3 7 fun x945 =>
 Rs h937 r3 8 fun x946 =>
 VRet h937 (Value.tuple (List.toArray [(Value.agg (List.toArray [(Value.int .i64 x938), (Value.int .i64 x939), (Value.slice x940.a x940.len x940.cap), (Value.slice x941.a x941.len x941.cap), (Value.slice x942.a x942.len x942.cap), (Value.slice x943.a x943.len x943.cap), (Value.slice x944.a x944.len x944.cap), (Value.slice x945.a x945.len x945.cap), (Value.slice x946.a x946.len x946.cap)])), (Value.bool true), (Value.int .i64 x936), (Value.int .i64 0)])) post) ∧
 (
 ([(Value.int .i64 x927), (Value.int .i64 x928), (Value.slice x929.a x929.len x929.cap), (Value.slice x930.a x930.len x930.cap), (Value.slice x931.a x931.len x931.cap), (Value.slice x932.a x932.len x932.cap), (Value.slice x933.a x933.len x933.cap), (Value.slice x934.a x934.len x934.cap), (Value.slice x935.a x935.len x935.cap)]).length = 9 ∧ (Program.underlying Go.Proofs.Tryd.prog 50).isSome = true ∧
 H.wr h926 (Addr.mk r3 0 none) ([(Value.int .i64 x927), (Value.int .i64 x928), (Value.slice x929.a x929.len x929.cap), (Value.slice x930.a x930.len x930.cap), (Value.slice x931.a x931.len x931.cap), (Value.slice x932.a x932.len x932.cap), (Value.slice x933.a x933.len x933.cap), (Value.slice x934.a x934.len x934.cap), (Value.slice x935.a x935.len x935.cap)]) fun h947 =>
 ∃ x948 : Int, H.rd h947 (Addr.add (Addr.add b924 ((x923).toNat * 1)) 0) (Value.int .i64 x948) ∧
 Ri h947 r3 0 fun x949 =>
 Ri h947 r3 1 fun x950 =>
 Rs h947 r3 2 fun x951 =>
 Rs h947 r3 3 fun x952 =>
 Rs h947 r3 4 fun x953 =>
 Rs h947 r3 5 fun x954 =>
 Rs h947 r3 6 fun x955 =>
 Rs h947 r3 7 fun x956 =>
 Rs h947 r3 8 fun x957 =>
 VRet h947 (Value.tuple (List.toArray [(Value.agg (List.toArray [(Value.int .i64 x949), (Value.int .i64 x950), (Value.slice x951.a x951.len x951.cap), (Value.slice x952.a x952.len x952.cap), (Value.slice x953.a x953.len x953.cap), (Value.slice x954.a x954.len x954.cap), (Value.slice x955.a x955.len x955.cap), (Value.slice x956.a x956.len x956.cap), (Value.slice x957.a x957.len x957.cap)])), (Value.bool true), (Value.int .i64 x948), (Value.int .i64 0)])) post)) ∧
 (
 ∃ x958 : Int, H.rd h582 (Addr.add (Addr.add b924 ((x923).toNat * 1)) 0) (Value.int .i64 x958) ∧
 SemCall Go.Proofs.Tryd.prog 36 (List.toArray [(Value.agg (List.toArray [(Value.int .i64 x583), (Value.int .i64 x584), (Value.slice x585.a x585.len x585.cap), (Value.slice x586.a x586.len x586.cap), (Value.slice x587.a x587.len x587.cap), (Value.slice x588.a x588.len x588.cap), (Value.slice x589.a x589.len x589.cap), (Value.slice x590.a x590.len x590.cap), (Value.slice x591.a x591.len x591.cap)])), (Value.int .i64 p1_p), (Value.int .i64 0)]) h582 fun v959 h960 =>
 ∃ x961 : Int, ∃ x962 : Int, ∃ x963 : SV, ∃ x964 : SV, ∃ x965 : SV, ∃ x966 : SV, ∃ x967 : SV, ∃ x968 : SV, ∃ x969 : SV, v959 = (Value.agg (List.toArray [(Value.int .i64 x961), (Value.int .i64 x962), (Value.slice x963.a x963.len x963.cap), (Value.slice x964.a x964.len x964.cap), (Value.slice x965.a x965.len x965.cap), (Value.slice x966.a x966.len x966.cap), (Value.slice x967.a x967.len x967.cap), (Value.slice x968.a x968.len x968.cap), (Value.slice x969.a x969.len x969.cap)])) ∧
 ([(Value.int .i64 x961), (Value.int .i64 x962), (Value.slice x963.a x963.len x963.cap), (Value.slice x964.a x964.len x964.cap), (Value.slice x965.a x965.len x965.cap), (Value.slice x966.a x966.len x966.cap), (Value.slice x967.a x967.len x967.cap), (Value.slice x968.a x968.len x968.cap), (Value.slice x969.a x969.len x969.cap)]).length = 9 ∧ (Program.underlying Go.Proofs.Tryd.prog 50).isSome = true ∧
 H.wr h960 (Addr.mk r3 0 none) ([(Value.int .i64 x961), (Value.int .i64 x962), (Value.slice x963.a x963.len x963.cap), (Value.slice x964.a x964.len x964.cap), (Value.slice x965.a x965.len x965.cap), (Value.slice x966.a x966.len x966.cap), (Value.slice x967.a x967.len x967.cap), (Value.slice x968.a x968.len x968.cap), (Value.slice x969.a x969.len x969.cap)]) fun h970 =>
 Ri h970 r3 0 fun x971 =>
 Ri h970 r3 1 fun x972 =>
 Rs h970 r3 2 fun x973 =>
 Rs h970 r3 3 fun x974 =>
 Rs h970 r3 4 fun x975 =>
 Rs h970 r3 5 fun x976 =>
 Rs h970 r3 6 fun x977 =>
 Rs h970 r3 7 fun x978 =>
 Rs h970 r3 8 fun x979 =>
 VRet h970 (Value.tuple (List.toArray [(Value.agg (List.toArray [(Value.int .i64 x971), (Value.int .i64 x972), (Value.slice x973.a x973.len x973.cap), (Value.slice x974.a x974.len x974.cap), (Value.slice x975.a x975.len x975.cap), (Value.slice x976.a x976.len x976.cap), (Value.slice x977.a x977.len x977.cap), (Value.slice x978.a x978.len x978.cap), (Value.slice x979.a x979.len x979.cap)])), (Value.bool true), (Value.int .i64 x958), (Value.int .i64 0)])) post)))) ∧
 (
 ∃ x980 : SV, H.rd h582 (Addr.add (Addr.add (Addr.mk r1 0 none) 8) 0) (Value.slice x980.a x980.len x980.cap) ∧
 ∃ b981 : Addr, x980.a = some b981 ∧ 0 ≤ p1_p ∧ p1_p < ((x980.len : Nat) : Int) ∧
 (
 SemCall Go.Proofs.Tryd.prog 36 (List.toArray [(Value.agg (List.toArray [(Value.int .i64 x583), (Value.int .i64 x584), (Value.slice x585.a x585.len x585.cap), (Value.slice x586.a x586.len x586.cap), (Value.slice x587.a x587.len x587.cap), (Value.slice x588.a x588.len x588.cap), (Value.slice x589.a x589.len x589.cap), (Value.slice x590.a x590.len x590.cap), (Value.slice x591.a x591.len x591.cap)])), (Value.int .i64 p1_p), (Value.int .i64 0)]) h582 fun v982 h983 =>
 ∃ x984 : Int, ∃ x985 : Int, ∃ x986 : SV, ∃ x987 : SV, ∃ x988 : SV, ∃ x989 : SV, ∃ x990 : SV, ∃ x991 : SV, ∃ x992 : SV, v982 = (Value.agg (List.toArray [(Value.int .i64 x984), (Value.int .i64 x985), (Value.slice x986.a x986.len x986.cap), (Value.slice x987.a x987.len x987.cap), (Value.slice x988.a x988.len x988.cap), (Value.slice x989.a x989.len x989.cap), (Value.slice x990.a x990.len x990.cap), (Value.slice x991.a x991.len x991.cap), (Value.slice x992.a x992.len x992.cap)])) ∧
 (
 ∃ x993 : SV, H.rd h983 (Addr.add (Addr.add (Addr.mk r1 0 none) 2) 0) (Value.slice x993.a x993.len x993.cap) ∧
 (
 ∃ x994 : Int, H.rd h983 (Addr.add (Addr.add b981 ((p1_p).toNat * 1)) 0) (Value.int .i64 x994) ∧
 ∃ b995 : Addr, x993.a = some b995 ∧ 0 ≤ x994 ∧ x994 < ((x993.len : Nat) : Int) ∧
 (
 ∃ x996 : Int, H.rd h983 (Addr.add (Addr.add b995 ((x994).toNat * 1)) 0) (Value.int .i64 x996) ∧
 ([(Value.int .i64 x984), (Value.int .i64 x985), (Value.slice x986.a x986.len x986.cap), (Value.slice x987.a x987.len x987.cap), (Value.slice x988.a x988.len x988.cap), (Value.slice x989.a x989.len x989.cap), (Value.slice x990.a x990.len x990.cap), (Value.slice x991.a x991.len x991.cap), (Value.slice x992.a x992.len x992.cap)]).length = 9 ∧ (Program.underlying Go.Proofs.Tryd.prog 50).isSome = true ∧
 H.wr h983 (Addr.mk r3 0 none) ([(Value.int .i64 x984), (Value.int .i64 x985), (Value.slice x986.a x986.len x986.cap), (Value.slice x987.a x987.len x987.cap), (Value.slice x988.a x988.len x988.cap), (Value.slice x989.a x989.len x989.cap), (Value.slice x990.a x990.len x990.cap), (Value.slice x991.a x991.len x991.cap), (Value.slice x992.a x992.len x992.cap)]) fun h997 =>
 Ri h997 r3 0 fun x998 =>
 Ri h997 r3 1 fun x999 =>
 Rs h997 r3 2 fun x1000 =>
 Rs h997 r3 3 fun x1001 =>
 Rs h997 r3 4 fun x1002 =>
 Rs h997 r3 5 fun x1003 =>
 Rs h997 r3 6 fun x1004 =>
 Rs h997 r3 7 fun x1005 =>
 Rs h997 r3 8 fun x1006 =>
 VRet h997 (Value.tuple (List.toArray [(Value.agg (List.toArray [(Value.int .i64 x998), (Value.int .i64 x999), (Value.slice x1000.a x1000.len x1000.cap), (Value.slice x1001.a x1001.len x1001.cap), (Value.slice x1002.a x1002.len x1002.cap), (Value.slice x1003.a x1003.len x1003.cap), (Value.slice x1004.a x1004.len x1004.cap), (Value.slice x1005.a x1005.len x1005.cap), (Value.slice x1006.a x1006.len x1006.cap)])), (Value.bool true), (Value.int .i64 x996), (Value.int .i64 0)])) post) ∧
 (
 ([(Value.int .i64 x984), (Value.int .i64 x985), (Value.slice x986.a x986.len x986.cap), (Value.slice x987.a x987.len x987.cap), (Value.slice x988.a x988.len x988.cap), (Value.slice x989.a x989.len x989.cap), (Value.slice x990.a x990.len x990.cap), (Value.slice x991.a x991.len x991.cap), (Value.slice x992.a x992.len x992.cap)]).length = 9 ∧ (Program.underlying Go.Proofs.Tryd.prog 50).isSome = true ∧
 H.wr h983 (Addr.mk r3 0 none) ([(Value.int .i64 x984), (Value.int .i64 x985), (Value.slice x986.a x986.len x986.cap), (Value.slice x987.a x987.len x987.cap), (Value.slice x988.a x988.len x988.cap), (Value.slice x989.a x989.len x989.cap), (Value.slice x990.a x990.len x990.cap), (Value.slice x991.a x991.len x991.cap), (Value.slice x992.a x992.len x992.cap)]) fun h1007 =>
 ∃ x1008 : Int, H.rd h1007 (Addr.add (Addr.add b995 ((x994).toNat * 1)) 0) (Value.int .i64 x1008) ∧
 Ri h1007 r3 0 fun x1009 =>
 Ri h1007 r3 1 fun x1010 =>
 Rs h1007 r3 2 fun x1011 =>
 Rs h1007 r3 3 fun x1012 =>
 Rs h1007 r3 4 fun x1013 =>
 Rs h1007 r3 5 fun x1014 =>
 Rs h1007 r3 6 fun x1015 =>
 Rs h1007 r3 7 fun x1016 =>
 Rs h1007 r3 8 fun x1017 =>
 VRet h1007 (Value.tuple (List.toArray [(Value.agg (List.toArray [(Value.int .i64 x1009), (Value.int .i64 x1010), (Value.slice x1011.a x1011.len x1011.cap), (Value.slice x1012.a x1012.len x1012.cap), (Value.slice x1013.a x1013.len x1013.cap), (Value.slice x1014.a x1014.len x1014.cap), (Value.slice x1015.a x1015.len x1015.cap), (Value.slice x1016.a x1016.len x1016.cap), (Value.slice x1017.a x1017.len x1017.cap)])), (Value.bool true), (Value.int .i64 x1008), (Value.int .i64 0)])) post)) ∧
 (
 ([(Value.int .i64 x984), (Value.int .i64 x985), (Value.slice x986.a x986.len x986.cap), (Value.slice x987.a x987.len x987.cap), (Value.slice x988.a x988.len x988.cap), (Value.slice x989.a x989.len x989.cap), (Value.slice x990.a x990.len x990.cap), (Value.slice x991.a x991.len x991.cap), (Value.slice x992.a x992.len x992.cap)]).length = 9 ∧ (Program.underlying Go.Proofs.Tryd.prog 50).isSome = true ∧
 H.wr h983 (Addr.mk r3 0 none) ([(Value.int .i64 x984), (Value.int .i64 x985), (Value.slice x986.a x986.len x986.cap), (Value.slice x987.a x987.len x987.cap), (Value.slice x988.a x988.len x988.cap), (Value.slice x989.a x989.len x989.cap), (Value.slice x990.a x990.len x990.cap), (Value.slice x991.a x991.len x991.cap), (Value.slice x992.a x992.len x992.cap)]) fun h1018 =>
 ∃ x1019 : Int, H.rd h1018 (Addr.add (Addr.add b981 ((p1_p).toNat * 1)) 0) (Value.int .i64 x1019) ∧
 ∃ b1020 : Addr, x993.a = some b1020 ∧ 0 ≤ x1019 ∧ x1019 < ((x993.len : Nat) : Int) ∧
 ∃ x1021 : Int, H.rd h1018 (Addr.add (Addr.add b1020 ((x1019).toNat * 1)) 0) (Value.int .i64 x1021) ∧
 Ri h1018 r3 0 fun x1022 =>
 Ri h1018 r3 1 fun x1023 =>
 Rs h1018 r3 2 fun x1024 =>
 Rs h1018 r3 3 fun x1025 =>
 Rs h1018 r3 4 fun x1026 =>
 Rs h1018 r3 5 fun x1027 =>
 Rs h1018 r3 6 fun x1028 =>
 Rs h1018 r3 7 fun x1029 =>
 Rs h1018 r3 8 fun x1030 =>
 VRet h1018 (Value.tuple (List.toArray [(Value.agg (List.toArray [(Value.int .i64 x1022), (Value.int .i64 x1023), (Value.slice x1024.a x1024.len x1024.cap), (Value.slice x1025.a x1025.len x1025.cap), (Value.slice x1026.a x1026.len x1026.cap), (Value.slice x1027.a x1027.len x1027.cap), (Value.slice x1028.a x1028.len x1028.cap), (Value.slice x1029.a x1029.len x1029.cap), (Value.slice x1030.a x1030.len x1030.cap)])), (Value.bool true), (Value.int .i64 x1021), (Value.int .i64 0)])) post)) ∧
 (
 (
 ∃ x1031 : Int, H.rd h983 (Addr.add (Addr.add b981 ((p1_p).toNat * 1)) 0) (Value.int .i64 x1031) ∧
 (
 ∃ x1032 : SV, H.rd h983 (Addr.add (Addr.add (Addr.mk r1 0 none) 2) 0) (Value.slice x1032.a x1032.len x1032.cap) ∧
 ∃ b1033 : Addr, x1032.a = some b1033 ∧ 0 ≤ x1031 ∧ x1031 < ((x1032.len : Nat) : Int) ∧
 (
 ∃ x1034 : Int, H.rd h983 (Addr.add (Addr.add b1033 ((x1031).toNat * 1)) 0) (Value.int .i64 x1034) ∧
 ([(Value.int .i64 x984), (Value.int .i64 x985), (Value.slice x986.a x986.len x986.cap), (Value.slice x987.a x987.len x987.cap), (Value.slice x988.a x988.len x988.cap), (Value.slice x989.a x989.len x989.cap), (Value.slice x990.a x990.len x990.cap), (Value.slice x991.a x991.len x991.cap), (Value.slice x992.a x992.len x992.cap)]).length = 9 ∧ (Program.underlying Go.Proofs.Tryd.prog 50).isSome = true ∧
 H.wr h983 (Addr.mk r3 0 none) ([(Value.int .i64 x984), (Value.int .i64 x985), (Value.slice x986.a x986.len x986.cap), (Value.slice x987.a x987.len x987.cap), (Value.slice x988.a x988.len x988.cap), (Value.slice x989.a x989.len x989.cap), (Value.slice x990.a x990.len x990.cap), (Value.slice x991.a x991.len x991.cap), (Value.slice x992.a x992.len x992.cap)]) fun h1035 =>
 Ri h1035 r3 0 fun x1036 =>
 Ri h1035 r3 1 fun x1037 =>
 Rs h1035 r3 2 fun x1038 =>
 Rs h1035 r3 3 fun x1039 =>
 Rs h1035 r3 4 fun x1040 =>
 Rs h1035 r3 5 fun x1041 =>
 Rs h1035 r3 6 fun x1042 =>
 Rs h1035 r3 7 fun x1043 =>
 Rs h1035 r3 8 fun x1044 =>
 VRet h1035 (Value.tuple (List.toArray [(Value.agg (List.toArray [(Value.int .i64 x1036), (Value.int .i64 x1037), (Value.slice x1038.a x1038.len x1038.cap), (Value.slice x1039.a x1039.len x1039.cap), (Value.slice x1040.a x1040.len x1040.cap), (Value.slice x1041.a x1041.len x1041.cap), (Value.slice x1042.a x1042.len x1042.cap), (Value.slice x1043.a x1043.len x1043.cap), (Value.slice x1044.a x1044.len x1044.cap)])), (Value.bool true), (Value.int .i64 x1034), (Value.int .i64 0)])) post) ∧
 (
 ([(Value.int .i64 x984), (Value.int .i64 x985), (Value.slice x986.a x986.len x986.cap), (Value.slice x987.a x987.len x987.cap), (Value.slice x988.a x988.len x988.cap), (Value.slice x989.a x989.len x989.cap), (Value.slice x990.a x990.len x990.cap), (Value.slice x991.a x991.len x991.cap), (Value.slice x992.a x992.len x992.cap)]).length = 9 ∧ (Program.underlying Go.Proofs.Tryd.prog 50).isSome = true ∧
 H.wr h983 (Addr.mk r3 0 none) ([(Value.int .i64 x984), (Value.int .i64 x985), (Value.slice x986.a x986.len x986.cap), (Value.slice x987.a x987.len x987.cap), (Value.slice x988.a x988.len x988.cap), (Value.slice x989.a x989.len x989.cap), (Value.slice x990.a x990.len x990.cap), (Value.slice x991.a x991.len x991.cap), (Value.slice x992.a x992.len x992.cap)]) fun h1045 =>
 ∃ x1046 : Int, H.rd h1045 (Addr.add (Addr.add b1033 ((x1031).toNat * 1)) 0) (Value.int .i64 x1046) ∧
 Ri h1045 r3 0 fun x1047 =>
 Ri h1045 r3 1 fun x1048 =>
 Rs h1045 r3 2 fun x1049 =>
 Rs h1045 r3 3 fun x1050 =>
 Rs h1045 r3 4 fun x1051 =>
 Rs h1045 r3 5 fun x1052 =>
 Rs h1045 r3 6 fun x1053 =>
 Rs h1045 r3 7 fun x1054 =>
 Rs h1045 r3 8 fun x1055 =>
 VRet h1045 (Value.tuple (List.toArray [(Value.agg (List.toArray [(Value.int .i64 x1047), (Value.int .i64 x1048), (Value.slice x1049.a x1049.len x1049.cap), (Value.slice x1050.a x1050.len x1050.cap), (Value.slice x1051.a x1051.len x1051.cap), (Value.slice x1052.a x1052.len x1052.cap), (Value.slice x1053.a x1053.len x1053.cap), (Value.slice x1054.a x1054.len x1054.cap), (Value.slice x1055.a x1055.len x1055.cap)])), (Value.bool true), (Value.int .i64 x1046), (Value.int .i64 0)])) post)) ∧
 (
 ([(Value.int .i64 x984), (Value.int .i64 x985), (Value.slice x986.a x986.len x986.cap), (Value.slice x987.a x987.len x987.cap), (Value.slice x988.a x988.len x988.cap), (Value.slice x989.a x989.len x989.cap), (Value.slice x990.a x990.len x990.cap), (Value.slice x991.a x991.len x991.cap), (Value.slice x992.a x992.len x992.cap)]).length = 9 ∧ (Program.underlying Go.Proofs.Tryd.prog 50).isSome = true ∧
 H.wr h983 (Addr.mk r3 0 none) ([(Value.int .i64 x984), (Value.int .i64 x985), (Value.slice x986.a x986.len x986.cap), (Value.slice x987.a x987.len x987.cap), (Value.slice x988.a x988.len x988.cap), (Value.slice x989.a x989.len x989.cap), (Value.slice x990.a x990.len x990.cap), (Value.slice x991.a x991.len x991.cap), (Value.slice x992.a x992.len x992.cap)]) fun h1056 =>
 ∃ x1057 : SV, H.rd h1056 (Addr.add (Addr.add (Addr.mk r1 0 none) 2) 0) (Value.slice x1057.a x1057.len x1057.cap) ∧
 ∃ b1058 : Addr, x1057.a = some b1058 ∧ 0 ≤ x1031 ∧ x1031 < ((x1057.len : Nat) : Int) ∧
 ∃ x1059 : Int, H.rd h1056 (Addr.add (Addr.add b1058 ((x1031).toNat * 1)) 0) (Value.int .i64 x1059) ∧
 Ri h1056 r3 0 fun x1060 =>
 Ri h1056 r3 1 fun x1061 =>
 Rs h1056 r3 2 fun x1062 =>
 Rs h1056 r3 3 fun x1063 =>
 Rs h1056 r3 4 fun x1064 =>
 Rs h1056 r3 5 fun x1065 =>
 Rs h1056 r3 6 fun x1066 =>
 Rs h1056 r3 7 fun x1067 =>
 Rs h1056 r3 8 fun x1068 =>
 VRet h1056 (Value.tuple (List.toArray [(Value.agg (List.toArray [(Value.int .i64 x1060), (Value.int .i64 x1061), (Value.slice x1062.a x1062.len x1062.cap), (Value.slice x1063.a x1063.len x1063.cap), (Value.slice x1064.a x1064.len x1064.cap), (Value.slice x1065.a x1065.len x1065.cap), (Value.slice x1066.a x1066.len x1066.cap), (Value.slice x1067.a x1067.len x1067.cap), (Value.slice x1068.a x1068.len x1068.cap)])), (Value.bool true), (Value.int .i64 x1059), (Value.int .i64 0)])) post)) ∧
 (
 ([(Value.int .i64 x984), (Value.int .i64 x985), (Value.slice x986.a x986.len x986.cap), (Value.slice x987.a x987.len x987.cap), (Value.slice x988.a x988.len x988.cap), (Value.slice x989.a x989.len x989.cap), (Value.slice x990.a x990.len x990.cap), (Value.slice x991.a x991.len x991.cap), (Value.slice x992.a x992.len x992.cap)]).length = 9 ∧ (Program.underlying Go.Proofs.Tryd.prog 50).isSome = true ∧
 H.wr h983 (Addr.mk r3 0 none) ([(Value.int .i64 x984), (Value.int .i64 x985), (Value.slice x986.a x986.len x986.cap), (Value.slice x987.a x987.len x987.cap), (Value.slice x988.a x988.len x988.cap), (Value.slice x989.a x989.len x989.cap), (Value.slice x990.a x990.len x990.cap), (Value.slice x991.a x991.len x991.cap), (Value.slice x992.a x992.len x992.cap)]) fun h1069 =>
 (
 ∃ x1070 : SV, H.rd h1069 (Addr.add (Addr.add (Addr.mk r1 0 none) 2) 0) (Value.slice x1070.a x1070.len x1070.cap) ∧
 ∃ x1071 : Int, H.rd h1069 (Addr.add (Addr.add b981 ((p1_p).toNat * 1)) 0) (Value.int .i64 x1071) ∧
 ∃ b1072 : Addr, x1070.a = some b1072 ∧ 0 ≤ x1071 ∧ x1071 < ((x1070.len : Nat) : Int) ∧
 ∃ x1073 : Int, H.rd h1069 (Addr.add (Addr.add b1072 ((x1071).toNat * 1)) 0) (Value.int .i64 x1073) ∧
 Ri h1069 r3 0 fun x1074 =>
 Ri h1069 r3 1 fun x1075 =>
 Rs h1069 r3 2 fun x1076 =>
 Rs h1069 r3 3 fun x1077 =>
 Rs h1069 r3 4 fun x1078 =>
 Rs h1069 r3 5 fun x1079 =>
 Rs h1069 r3 6 fun x1080 =>
 Rs h1069 r3 7 fun x1081 =>
 Rs h1069 r3 8 fun x1082 =>
 VRet h1069 (Value.tuple (List.toArray [(Value.agg (List.toArray [(Value.int .i64 x1074), (Value.int .i64 x1075), (Value.slice x1076.a x1076.len x1076.cap), (Value.slice x1077.a x1077.len x1077.cap), (Value.slice x1078.a x1078.len x1078.cap), (Value.slice x1079.a x1079.len x1079.cap), (Value.slice x1080.a x1080.len x1080.cap), (Value.slice x1081.a x1081.len x1081.cap), (Value.slice x1082.a x1082.len x1082.cap)])), (Value.bool true), (Value.int .i64 x1073), (Value.int .i64 0)])) post) ∧
 (
 ∃ x1083 : Int, H.rd h1069 (Addr.add (Addr.add b981 ((p1_p).toNat * 1)) 0) (Value.int .i64 x1083) ∧
 ∃ x1084 : SV, H.rd h1069 (Addr.add (Addr.add (Addr.mk r1 0 none) 2) 0) (Value.slice x1084.a x1084.len x1084.cap) ∧
 ∃ b1085 : Addr, x1084.a = some b1085 ∧ 0 ≤ x1083 ∧ x1083 < ((x1084.len : Nat) : Int) ∧
 ∃ x1086 : Int, H.rd h1069 (Addr.add (Addr.add b1085 ((x1083).toNat * 1)) 0) (Value.int .i64 x1086) ∧
 Ri h1069 r3 0 fun x1087 =>
 Ri h1069 r3 1 fun x1088 =>
 Rs h1069 r3 2 fun x1089 =>
 Rs h1069 r3 3 fun x1090 =>
 Rs h1069 r3 4 fun x1091 =>
 Rs h1069 r3 5 fun x1092 =>
 Rs h1069 r3 6 fun x1093 =>
 Rs h1069 r3 7 fun x1094 =>
 Rs h1069 r3 8 fun x1095 =>
 VRet h1069 (Value.tuple (List.toArray [(Value.agg (List.toArray [(Value.int .i64 x1087), (Value.int .i64 x1088), (Value.slice x1089.a x1089.len x1089.cap), (Value.slice x1090.a x1090.len x1090.cap), (Value.slice x1091.a x1091.len x1091.cap), (Value.slice x1092.a x1092.len x1092.cap), (Value.slice x1093.a x1093.len x1093.cap), (Value.slice x1094.a x1094.len x1094.cap), (Value.slice x1095.a x1095.len x1095.cap)])), (Value.bool true), (Value.int .i64 x1086), (Value.int .i64 0)])) post)))) ∧
 (
 (
 ∃ x1096 : SV, H.rd h582 (Addr.add (Addr.add (Addr.mk r1 0 none) 2) 0) (Value.slice x1096.a x1096.len x1096.cap) ∧
 (
 SemCall Go.Proofs.Tryd.prog 36 (List.toArray [(Value.agg (List.toArray [(Value.int .i64 x583), (Value.int .i64 x584), (Value.slice x585.a x585.len x585.cap), (Value.slice x586.a x586.len x586.cap), (Value.slice x587.a x587.len x587.cap), (Value.slice x588.a x588.len x588.cap), (Value.slice x589.a x589.len x589.cap), (Value.slice x590.a x590.len x590.cap), (Value.slice x591.a x591.len x591.cap)])), (Value.int .i64 p1_p), (Value.int .i64 0)]) h582 fun v1097 h1098 =>
 ∃ x1099 : Int, ∃ x1100 : Int, ∃ x1101 : SV, ∃ x1102 : SV, ∃ x1103 : SV, ∃ x1104 : SV, ∃ x1105 : SV, ∃ x1106 : SV, ∃ x1107 : SV, v1097 = (Value.agg (List.toArray [(Value.int .i64 x1099), (Value.int .i64 x1100), (Value.slice x1101.a x1101.len x1101.cap), (Value.slice x1102.a x1102.len x1102.cap), (Value.slice x1103.a x1103.len x1103.cap), (Value.slice x1104.a x1104.len x1104.cap), (Value.slice x1105.a x1105.len x1105.cap), (Value.slice x1106.a x1106.len x1106.cap), (Value.slice x1107.a x1107.len x1107.cap)])) ∧
 (
 ∃ x1108 : Int, H.rd h1098 (Addr.add (Addr.add b981 ((p1_p).toNat * 1)) 0) (Value.int .i64 x1108) ∧
 ∃ b1109 : Addr, x1096.a = some b1109 ∧ 0 ≤ x1108 ∧ x1108 < ((x1096.len : Nat) : Int) ∧
 (
 ∃ x1110 : Int, H.rd h1098 (Addr.add (Addr.add b1109 ((x1108).toNat * 1)) 0) (Value.int .i64 x1110) ∧
 ([(Value.int .i64 x1099), (Value.int .i64 x1100), (Value.slice x1101.a x1101.len x1101.cap), (Value.slice x1102.a x1102.len x1102.cap), (Value.slice x1103.a x1103.len x1103.cap), (Value.slice x1104.a x1104.len x1104.cap), (Value.slice x1105.a x1105.len x1105.cap), (Value.slice x1106.a x1106.len x1106.cap), (Value.slice x1107.a x1107.len x1107.cap)]).length = 9 ∧ (Program.underlying Go.Proofs.Tryd.prog 50).isSome = true ∧
 H.wr h1098 (Addr.mk r3 0 none) ([(Value.int .i64 x1099), (Value.int .i64 x1100), (Value.slice x1101.a x1101.len x1101.cap), (Value.slice x1102.a x1102.len x1102.cap), (Value.slice x1103.a x1103.len x1103.cap), (Value.slice x1104.a x1104.len x1104.cap), (Value.slice x1105.a x1105.len x1105.cap), (Value.slice x1106.a x1106.len x1106.cap), (Value.slice x1107.a x1107.len x1107.cap)]) fun h1111 =>
 Ri h1111 r3 0 fun x1112 =>
 Ri h1111 r3 1 fun x1113 =>
 Rs h1111 r3 2 fun x1114 =>
 Rs h1111 r3 3 fun x1115 =>
 Rs h1111 r3 4 fun x1116 =>
 Rs h1111 r3 5 fun x1117 =>
 Rs h1111 r3 6 fun x1118 =>
 Rs h1111 r3 7 fun x1119 =>
 Rs h1111 r3 8 fun x1120 =>
 VRet h1111 (Value.tuple (List.toArray [(Value.agg (List.toArray [(Value.int .i64 x1112), (Value.int .i64 x1113), (Value.slice x1114.a x1114.len x1114.cap), (Value.slice x1115.a x1115.len x1115.cap), (Value.slice x1116.a x1116.len x1116.cap), (Value.slice x1117.a x1117.len x1117.cap), (Value.slice x1118.a x1118.len x1118.cap), (Value.slice x1119.a x1119.len x1119.cap), (Value.slice x1120.a x1120.len x1120.cap)])), (Value.bool true), (Value.int .i64 x1110), (Value.int .i64 0)])) post) ∧
 (
 ([(Value.int .i64 x1099), (Value.int .i64 x1100), (Value.slice x1101.a x1101.len x1101.cap), (Value.slice x1102.a x1102.len x1102.cap), (Value.slice x1103.a x1103.len x1103.cap), (Value.slice x1104.a x1104.len x1104.cap), (Value.slice x1105.a x1105.len x1105.cap), (Value.slice x1106.a x1106.len x1106.cap), (Value.slice x1107.a x1107.len x1107.cap)]).length = 9 ∧ (Program.underlying Go.Proofs.Tryd.prog 50).isSome = true ∧
 H.wr h1098 (Addr.mk r3 0 none) ([(Value.int .i64 x1099), (Value.int .i64 x1100), (Value.slice x1101.a x1101.len x1101.cap), (Value.slice x1102.a x1102.len x1102.cap), (Value.slice x1103.a x1103.len x1103.cap), (Value.slice x1104.a x1104.len x1104.cap), (Value.slice x1105.a x1105.len x1105.cap), (Value.slice x1106.a x1106.len x1106.cap), (Value.slice x1107.a x1107.len x1107.cap)]) fun h1121 =>
 ∃ x1122 : Int, H.rd h1121 (Addr.add (Addr.add b1109 ((x1108).toNat * 1)) 0) (Value.int .i64 x1122) ∧
 Ri h1121 r3 0 fun x1123 =>
 Ri h1121 r3 1 fun x1124 =>
 Rs h1121 r3 2 fun x1125 =>
 Rs h1121 r3 3 fun x1126 =>
 Rs h1121 r3 4 fun x1127 =>
 Rs h1121 r3 5 fun x1128 =>
 Rs h1121 r3 6 fun x1129 =>
 Rs h1121 r3 7 fun x1130 =>
 Rs h1121 r3 8 fun x1131 =>
 VRet h1121 (Value.tuple (List.toArray [(Value.agg (List.toArray [(Value.int .i64 x1123), (Value.int .i64 x1124), (Value.slice x1125.a x1125.len x1125.cap), (Value.slice x1126.a x1126.len x1126.cap), (Value.slice x1127.a x1127.len x1127.cap), (Value.slice x1128.a x1128.len x1128.cap), (Value.slice x1129.a x1129.len x1129.cap), (Value.slice x1130.a x1130.len x1130.cap), (Value.slice x1131.a x1131.len x1131.cap)])), (Value.bool true), (Value.int .i64 x1122), (Value.int .i64 0)])) post)) ∧
 (
 ([(Value.int .i64 x1099), (Value.int .i64 x1100), (Value.slice x1101.a x1101.len x1101.cap), (Value.slice x1102.a x1102.len x1102.cap), (Value.slice x1103.a x1103.len x1103.cap), (Value.slice x1104.a x1104.len x1104.cap), (Value.slice x1105.a x1105.len x1105.cap), (Value.slice x1106.a x1106.len x1106.cap), (Value.slice x1107.a x1107.len x1107.cap)]).length = 9 ∧ (Program.underlying Go.Proofs.Tryd.prog 50).isSome = true ∧
 H.wr h1098 (Addr.mk r3 0 none) ([(Value.int .i64 x1099), (Value.int .i64 x1100), (Value.slice x1101.a x1101.len x1101.cap), (Value.slice x1102.a x1102.len x1102.cap), (Value.slice x1103.a x1103.len x1103.cap), (Value.slice x1104.a x1104.len x1104.cap), (Value.slice x1105.a x1105.len x1105.cap), (Value.slice x1106.a x1106.len x1106.cap), (Value.slice x1107.a x1107.len x1107.cap)]) fun h1132 =>
 ∃ x1133 : Int, H.rd h1132 (Addr.add (Addr.add b981 ((p1_p).toNat * 1)) 0) (Value.int .i64 x1133) ∧
 ∃ b1134 : Addr, x1096.a = some b1134 ∧ 0 ≤ x1133 ∧ x1133 < ((x1096.len : Nat) : Int) ∧
 ∃ x1135 : Int, H.rd h1132 (Addr.add (Addr.add b1134 ((x1133).toNat * 1)) 0) (Value.int .i64 x1135) ∧
 Ri h1132 r3 0 fun x1136 =>
 Ri h1132 r3 1 fun x1137 =>
 Rs h1132 r3 2 fun x1138 =>
 Rs h1132 r3 3 fun x1139 =>
 Rs h1132 r3 4 fun x1140 =>
 Rs h1132 r3 5 fun x1141 =>
 Rs h1132 r3 6 fun x1142 =>
 Rs h1132 r3 7 fun x1143 =>
 Rs h1132 r3 8 fun x1144 =>
 VRet h1132 (Value.tuple (List.toArray [(Value.agg (List.toArray [(Value.int .i64 x1136), (Value.int .i64 x1137), (Value.slice x1138.a x1138.len x1138.cap), (Value.slice x1139.a x1139.len x1139.cap), (Value.slice x1140.a x1140.len x1140.cap), (Value.slice x1141.a x1141.len x1141.cap), (Value.slice x1142.a x1142.len x1142.cap), (Value.slice x1143.a x1143.len x1143.cap), (Value.slice x1144.a x1144.len x1144.cap)])), (Value.bool true), (Value.int .i64 x1135), (Value.int .i64 0)])) post)) ∧
 (
 ∃ x1145 : Int, H.rd h582 (Addr.add (Addr.add b981 ((p1_p).toNat * 1)) 0) (Value.int .i64 x1145) ∧
 ∃ b1146 : Addr, x1096.a = some b1146 ∧ 0 ≤ x1145 ∧ x1145 < ((x1096.len : Nat) : Int) ∧
 (
 SemCall Go.Proofs.Tryd.prog 36 (List.toArray [(Value.agg (List.toArray [(Value.int .i64 x583), (Value.int .i64 x584), (Value.slice x585.a x585.len x585.cap), (Value.slice x586.a x586.len x586.cap), (Value.slice x587.a x587.len x587.cap), (Value.slice x588.a x588.len x588.cap), (Value.slice x589.a x589.len x589.cap), (Value.slice x590.a x590.len x590.cap), (Value.slice x591.a x591.len x591.cap)])), (Value.int .i64 p1_p), (Value.int .i64 0)]) h582 fun v1147 h1148 =>
 ∃ x1149 : Int, ∃ x1150 : Int, ∃ x1151 : SV, ∃ x1152 : SV, ∃ x1153 : SV, ∃ x1154 : SV, ∃ x1155 : SV, ∃ x1156 : SV, ∃ x1157 : SV, v1147 = (Value.agg (List.toArray [(Value.int .i64 x1149), (Value.int .i64 x1150), (Value.slice x1151.a x1151.len x1151.cap), (Value.slice x1152.a x1152.len x1152.cap), (Value.slice x1153.a x1153.len x1153.cap), (Value.slice x1154.a x1154.len x1154.cap), (Value.slice x1155.a x1155.len x1155.cap), (Value.slice x1156.a x1156.len x1156.cap), (Value.slice x1157.a x1157.len x1157.cap)])) ∧
 (
 ∃ x1158 : Int, H.rd h1148 (Addr.add (Addr.add b1146 ((x1145).toNat * 1)) 0) (Value.int .i64 x1158) ∧
 ([(Value.int .i64 x1149), (Value.int .i64 x1150), (Value.slice x1151.a x1151.len x1151.cap), (Value.slice x1152.a x1152.len x1152.cap), (Value.slice x1153.a x1153.len x1153.cap), (Value.slice x1154.a x1154.len x1154.cap), (Value.slice x1155.a x1155.len x1155.cap), (Value.slice x1156.a x1156.len x1156.cap), (Value.slice x1157.a x1157.len x1157.cap)]).length = 9 ∧ (Program.underlying Go.Proofs.Tryd.prog 50).isSome = true ∧
 H.wr h1148 (Addr.mk r3 0 none) ([(Value.int .i64 x1149), (Value.int .i64 x1150), (Value.slice x1151.a x1151.len x1151.cap), (Value.slice x1152.a x1152.len x1152.cap), (Value.slice x1153.a x1153.len x1153.cap), (Value.slice x1154.a x1154.len x1154.cap), (Value.slice x1155.a x1155.len x1155.cap), (Value.slice x1156.a x1156.len x1156.cap), (Value.slice x1157.a x1157.len x1157.cap)]) fun h1159 =>
 Ri h1159 r3 0 fun x1160 =>
 Ri h1159 r3 1 fun x1161 =>
 Rs h1159 r3 2 fun x1162 =>
 Rs h1159 r3 3 fun x1163 =>
 Rs h1159 r3 4 fun x1164 =>
 Rs h1159 r3 5 fun x1165 =>
 Rs h1159 r3 6 fun x1166 =>
 Rs h1159 r3 7 fun x1167 =>
 Rs h1159 r3 8 fun x1168 =>
 VRet h1159 (Value.tuple (List.toArray [(Value.agg (List.toArray [(Value.int .i64 x1160), (Value.int .i64 x1161), (Value.slice x1162.a x1162.len x1162.cap), (Value.slice x1163.a x1163.len x1163.cap), (Value.slice x1164.a x1164.len x1164.cap), (Value.slice x1165.a x1165.len x1165.cap), (Value.slice x1166.a x1166.len x1166.cap), (Value.slice x1167.a x1167.len x1167.cap), (Value.slice x1168.a x1168.len x1168.cap)])), (Value.bool true), (Value.int .i64 x1158), (Value.int .i64 0)])) post) ∧
 (
 ([(Value.int .i64 x1149), (Value.int .i64 x1150), (Value.slice x1151.a x1151.len x1151.cap), (Value.slice x1152.a x1152.len x1152.cap), (Value.slice x1153.a x1153.len x1153.cap), (Value.slice x1154.a x1154.len x1154.cap), (Value.slice x1155.a x1155.len x1155.cap), (Value.slice x1156.a x1156.len x1156.cap), (Value.slice x1157.a x1157.len x1157.cap)]).length = 9 ∧ (Program.underlying Go.Proofs.Tryd.prog 50).isSome = true ∧
 H.wr h1148 (Addr.mk r3 0 none) ([(Value.int .i64 x1149), (Value.int .i64 x1150), (Value.slice x1151.a x1151.len x1151.cap), (Value.slice x1152.a x1152.len x1152.cap), (Value.slice x1153.a x1153.len x1153.cap), (Value.slice x1154.a x1154.len x1154.cap), (Value.slice x1155.a x1155.len x1155.cap), (Value.slice x1156.a x1156.len x1156.cap), (Value.slice x1157.a x1157.len x1157.cap)]) fun h1169 =>
 ∃ x1170 : Int, H.rd h1169 (Addr.add (Addr.add b1146 ((x1145).toNat * 1)) 0) (Value.int .i64 x1170) ∧
 Ri h1169 r3 0 fun x1171 =>
 Ri h1169 r3 1 fun x1172 =>
 Rs h1169 r3 2 fun x1173 =>
 Rs h1169 r3 3 fun x1174 =>
 Rs h1169 r3 4 fun x1175 =>
 Rs h1169 r3 5 fun x1176 =>
 Rs h1169 r3 6 fun x1177 =>
 Rs h1169 r3 7 fun x1178 =>
 Rs h1169 r3 8 fun x1179 =>
 VRet h1169 (Value.tuple (List.toArray [(Value.agg (List.toArray [(Value.int .i64 x1171), (Value.int .i64 x1172), (Value.slice x1173.a x1173.len x1173.cap), (Value.slice x1174.a x1174.len x1174.cap), (Value.slice x1175.a x1175.len x1175.cap), (Value.slice x1176.a x1176.len x1176.cap), (Value.slice x1177.a x1177.len x1177.cap), (Value.slice x1178.a x1178.len x1178.cap), (Value.slice x1179.a x1179.len x1179.cap)])), (Value.bool true), (Value.int .i64 x1170), (Value.int .i64 0)])) post)) ∧
 (
 ∃ x1180 : Int, H.rd h582 (Addr.add (Addr.add b1146 ((x1145).toNat * 1)) 0) (Value.int .i64 x1180) ∧
 SemCall Go.Proofs.Tryd.prog 36 (List.toArray [(Value.agg (List.toArray [(Value.int .i64 x583), (Value.int .i64 x584), (Value.slice x585.a x585.len x585.cap), (Value.slice x586.a x586.len x586.cap), (Value.slice x587.a x587.len x587.cap), (Value.slice x588.a x588.len x588.cap), (Value.slice x589.a x589.len x589.cap), (Value.slice x590.a x590.len x590.cap), (Value.slice x591.a x591.len x591.cap)])), (Value.int .i64 p1_p), (Value.int .i64 0)]) h582 fun v1181 h1182 =>
 ∃ x1183 : Int, ∃ x1184 : Int, ∃ x1185 : SV, ∃ x1186 : SV, ∃ x1187 : SV, ∃ x1188 : SV, ∃ x1189 : SV, ∃ x1190 : SV, ∃ x1191 : SV, v1181 = (Value.agg (List.toArray [(Value.int .i64 x1183), (Value.int .i64 x1184), (Value.slice x1185.a x1185.len x1185.cap), (Value.slice x1186.a x1186.len x1186.cap), (Value.slice x1187.a x1187.len x1187.cap), (Value.slice x1188.a x1188.len x1188.cap), (Value.slice x1189.a x1189.len x1189.cap), (Value.slice x1190.a x1190.len x1190.cap), (Value.slice x1191.a x1191.len x1191.cap)])) ∧
 ([(Value.int .i64 x1183), (Value.int .i64 x1184), (Value.slice x1185.a x1185.len x1185.cap), (Value.slice x1186.a x1186.len x1186.cap), (Value.slice x1187.a x1187.len x1187.cap), (Value.slice x1188.a x1188.len x1188.cap), (Value.slice x1189.a x1189.len x1189.cap), (Value.slice x1190.a x1190.len x1190.cap), (Value.slice x1191.a x1191.len x1191.cap)]).length = 9 ∧ (Program.underlying Go.Proofs.Tryd.prog 50).isSome = true ∧
 H.wr h1182 (Addr.mk r3 0 none) ([(Value.int .i64 x1183), (Value.int .i64 x1184), (Value.slice x1185.a x1185.len x1185.cap), (Value.slice x1186.a x1186.len x1186.cap), (Value.slice x1187.a x1187.len x1187.cap), (Value.slice x1188.a x1188.len x1188.cap), (Value.slice x1189.a x1189.len x1189.cap), (Value.slice x1190.a x1190.len x1190.cap), (Value.slice x1191.a x1191.len x1191.cap)]) fun h1192 =>
 Ri h1192 r3 0 fun x1193 =>
 Ri h1192 r3 1 fun x1194 =>
 Rs h1192 r3 2 fun x1195 =>
 Rs h1192 r3 3 fun x1196 =>
 Rs h1192 r3 4 fun x1197 =>
 Rs h1192 r3 5 fun x1198 =>
 Rs h1192 r3 6 fun x1199 =>
 Rs h1192 r3 7 fun x1200 =>
 Rs h1192 r3 8 fun x1201 =>
 VRet h1192 (Value.tuple (List.toArray [(Value.agg (List.toArray [(Value.int .i64 x1193), (Value.int .i64 x1194), (Value.slice x1195.a x1195.len x1195.cap), (Value.slice x1196.a x1196.len x1196.cap), (Value.slice x1197.a x1197.len x1197.cap), (Value.slice x1198.a x1198.len x1198.cap), (Value.slice x1199.a x1199.len x1199.cap), (Value.slice x1200.a x1200.len x1200.cap), (Value.slice x1201.a x1201.len x1201.cap)])), (Value.bool true), (Value.int .i64 x1180), (Value.int .i64 0)])) post))) ∧
 (
 ∃ x1202 : Int, H.rd h582 (Addr.add (Addr.add b981 ((p1_p).toNat * 1)) 0) (Value.int .i64 x1202) ∧
 (
 SemCall Go.Proofs.Tryd.prog 36 (List.toArray [(Value.agg (List.toArray [(Value.int .i64 x583), (Value.int .i64 x584), (Value.slice x585.a x585.len x585.cap), (Value.slice x586.a x586.len x586.cap), (Value.slice x587.a x587.len x587.cap), (Value.slice x588.a x588.len x588.cap), (Value.slice x589.a x589.len x589.cap), (Value.slice x590.a x590.len x590.cap), (Value.slice x591.a x591.len x591.cap)])), (Value.int .i64 p1_p), (Value.int .i64 0)]) h582 fun v1203 h1204 =>
 ∃ x1205 : Int, ∃ x1206 : Int, ∃ x1207 : SV, ∃ x1208 : SV, ∃ x1209 : SV, ∃ x1210 : SV, ∃ x1211 : SV, ∃ x1212 : SV, ∃ x1213 : SV, v1203 = (Value.agg (List.toArray [(Value.int .i64 x1205), (Value.int .i64 x1206), (Value.slice x1207.a x1207.len x1207.cap), (Value.slice x1208.a x1208.len x1208.cap), (Value.slice x1209.a x1209.len x1209.cap), (Value.slice x1210.a x1210.len x1210.cap), (Value.slice x1211.a x1211.len x1211.cap), (Value.slice x1212.a x1212.len x1212.cap), (Value.slice x1213.a x1213.len x1213.cap)])) ∧
 (
 ∃ x1214 : SV, H.rd h1204 (Addr.add (Addr.add (Addr.mk r1 0 none) 2) 0) (Value.slice x1214.a x1214.len x1214.cap) ∧
 ∃ b1215 : Addr, x1214.a = some b1215 ∧ 0 ≤ x1202 ∧ x1202 < ((x1214.len : Nat) : Int) ∧
 (
 ∃ x1216 : Int, H.rd h1204 (Addr.add (Addr.add b1215 ((x1202).toNat * 1)) 0) (Value.int .i64 x1216) ∧
 ([(Value.int .i64 x1205), (Value.int .i64 x1206), (Value.slice x1207.a x1207.len x1207.cap), (Value.slice x1208.a x1208.len x1208.cap), (Value.slice x1209.a x1209.len x1209.cap), (Value.slice x1210.a x1210.len x1210.cap), (Value.slice x1211.a x1211.len x1211.cap), (Value.slice x1212.a x1212.len x1212.cap), (Value.slice x1213.a x1213.len x1213.cap)]).length = 9 ∧ (Program.underlying Go.Proofs.Tryd.prog 50).isSome = true ∧
 H.wr h1204 (Addr.mk r3 0 none) ([(Value.int .i64 x1205), (Value.int .i64 x1206), (Value.slice x1207.a x1207.len x1207.cap), (Value.slice x1208.a x1208.len x1208.cap), (Value.slice x1209.a x1209.len x1209.cap), (Value.slice x1210.a x1210.len x1210.cap), (Value.slice x1211.a x1211.len x1211.cap), (Value.slice x1212.a x1212.len x1212.cap), (Value.slice x1213.a x1213.len x1213.cap)]) fun h1217 =>
 Ri h1217 r3 0 fun x1218 =>
 Ri h1217 r3 1 fun x1219 =>
 Rs h1217 r3 2 fun x1220 =>
 Rs h1217 r3 3 fun x1221 =>
 Rs h1217 r3 4 fun x1222 =>
 Rs h1217 r3 5 fun x1223 =>
 Rs h1217 r3 6 fun x1224 =>
 Rs h1217 r3 7 fun x1225 =>
 Rs h1217 r3 8 fun x1226 =>
 VRet h1217 (Value.tuple (List.toArray [(Value.agg (List.toArray [(Value.int .i64 x1218), (Value.int .i64 x1219), (Value.slice x1220.a x1220.len x1220.cap), (Value.slice x1221.a x1221.len x1221.cap), (Value.slice x1222.a x1222.len x1222.cap), (Value.slice x1223.a x1223.len x1223.cap), (Value.slice x1224.a x1224.len x1224.cap), (Value.slice x1225.a x1225.len x1225.cap), (Value.slice x1226.a x1226.len x1226.cap)])), (Value.bool true), (Value.int .i64 x1216), (Value.int .i64 0)])) post) ∧
 (
 ([(Value.int .i64 x1205), (Value.int .i64 x1206), (Value.slice x1207.a x1207.len x1207.cap), (Value.slice x1208.a x1208.len x1208.cap), (Value.slice x1209.a x1209.len x1209.cap), (Value.slice x1210.a x1210.len x1210.cap), (Value.slice x1211.a x1211.len x1211.cap), (Value.slice x1212.a x1212.len x1212.cap), (Value.slice x1213.a x1213.len x1213.cap)]).length = 9 ∧ (Program.underlying Go.Proofs.Tryd.prog 50).isSome = true ∧
 H.wr h1204 (Addr.mk r3 0 none) ([(Value.int .i64 x1205), (Value.int .i64 x1206), (Value.slice x1207.a x1207.len x1207.cap), (Value.slice x1208.a x1208.len x1208.cap), (Value.slice x1209.a x1209.len x1209.cap), (Value.slice x1210.a x1210.len x1210.cap), (Value.slice x1211.a x1211.len x1211.cap), (Value.slice x1212.a x1212.len x1212.cap), (Value.slice x1213.a x1213.len x1213.cap)]) fun h1227 =>
 ∃ x1228 : Int, H.rd h1227 (Addr.add (Addr.add b1215 ((x1202).toNat * 1)) 0) (Value.int .i64 x1228) ∧
 Ri h1227 r3 0 fun x1229 =>
 Ri h1227 r3 1 fun x1230 =>
 Rs h1227 r3 2 fun x1231 =>
 Rs h1227 r3 3 fun x1232 =>
 Rs h1227 r3 4 fun x1233 =>
 Rs h1227 r3 5 fun x1234 =>
 Rs h1227 r3 6 fun x1235 =>
 Rs h1227 r3 7 fun x1236 =>
 Rs h1227 r3 8 fun x1237 =>
 VRet h1227 (Value.tuple (List.toArray [(Value.agg (List.toArray [(Value.int .i64 x1229), (Value.int .i64 x1230), (Value.slice x1231.a x1231.len x1231.cap), (Value.slice x1232.a x1232.len x1232.cap), (Value.slice x1233.a x1233.len x1233.cap), (Value.slice x1234.a x1234.len x1234.cap), (Value.slice x1235.a x1235.len x1235.cap), (Value.slice x1236.a x1236.len x1236.cap), (Value.slice x1237.a x1237.len x1237.cap)])), (Value.bool true), (Value.int .i64 x1228), (Value.int .i64 0)])) post)) ∧
 (
 ([(Value.int .i64 x1205), (Value.int .i64 x1206), (Value.slice x1207.a x1207.len x1207.cap), (Value.slice x1208.a x1208.len x1208.cap), (Value.slice x1209.a x1209.len x1209.cap), (Value.slice x1210.a x1210.len x1210.cap), (Value.slice x1211.a x1211.len x1211.cap), (Value.slice x1212.a x1212.len x1212.cap), (Value.slice x1213.a x1213.len x1213.cap)]).length = 9 ∧ (Program.underlying Go.Proofs.Tryd.prog 50).isSome = true ∧
 H.wr h1204 (Addr.mk r3 0 none) ([(Value.int .i64 x1205), (Value.int .i64 x1206), (Value.slice x1207.a x1207.len x1207.cap), (Value.slice x1208.a x1208.len x1208.cap), (Value.slice x1209.a x1209.len x1209.cap), (Value.slice x1210.a x1210.len x1210.cap), (Value.slice x1211.a x1211.len x1211.cap), (Value.slice x1212.a x1212.len x1212.cap), (Value.slice x1213.a x1213.len x1213.cap)]) fun h1238 =>
 ∃ x1239 : SV, H.rd h1238 (Addr.add (Addr.add (Addr.mk r1 0 none) 2) 0) (Value.slice x1239.a x1239.len x1239.cap) ∧
 ∃ b1240 : Addr, x1239.a = some b1240 ∧ 0 ≤ x1202 ∧ x1202 < ((x1239.len : Nat) : Int) ∧
 ∃ x1241 : Int, H.rd h1238 (Addr.add (Addr.add b1240 ((x1202).toNat * 1)) 0) (Value.int .i64 x1241) ∧
 Ri h1238 r3 0 fun x1242 =>
 Ri h1238 r3 1 fun x1243 =>
 Rs h1238 r3 2 fun x1244 =>
 Rs h1238 r3 3 fun x1245 =>
 Rs h1238 r3 4 fun x1246 =>
 Rs h1238 r3 5 fun x1247 =>
 Rs h1238 r3 6 fun x1248 =>
 Rs h1238 r3 7 fun x1249 =>
 Rs h1238 r3 8 fun x1250 =>
 VRet h1238 (Value.tuple (List.toArray [(Value.agg (List.toArray [(Value.int .i64 x1242), (Value.int .i64 x1243), (Value.slice x1244.a x1244.len x1244.cap), (Value.slice x1245.a x1245.len x1245.cap), (Value.slice x1246.a x1246.len x1246.cap), (Value.slice x1247.a x1247.len x1247.cap), (Value.slice x1248.a x1248.len x1248.cap), (Value.slice x1249.a x1249.len x1249.cap), (Value.slice x1250.a x1250.len x1250.cap)])), (Value.bool true), (Value.int .i64 x1241), (Value.int .i64 0)])) post)) ∧
 (
 ∃ x1251 : SV, H.rd h582 (Addr.add (Addr.add (Addr.mk r1 0 none) 2) 0) (Value.slice x1251.a x1251.len x1251.cap) ∧
 ∃ b1252 : Addr, x1251.a = some b1252 ∧ 0 ≤ x1202 ∧ x1202 < ((x1251.len : Nat) : Int) ∧
 (
 SemCall Go.Proofs.Tryd.prog 36 (List.toArray [(Value.agg (List.toArray [(Value.int .i64 x583), (Value.int .i64 x584), (Value.slice x585.a x585.len x585.cap), (Value.slice x586.a x586.len x586.cap), (Value.slice x587.a x587.len x587.cap), (Value.slice x588.a x588.len x588.cap), (Value.slice x589.a x589.len x589.cap), (Value.slice x590.a x590.len x590.cap), (Value.slice x591.a x591.len x591.cap)])), (Value.int .i64 p1_p), (Value.int .i64 0)]) h582 fun v1253 h1254 =>
 ∃ x1255 : Int, ∃ x1256 : Int, ∃ x1257 : SV, ∃ x1258 : SV, ∃ x1259 : SV, ∃ x1260 : SV, ∃ x1261 : SV, ∃ x1262 : SV, ∃ x1263 : SV, v1253 = (Value.agg (List.toArray [(Value.int .i64 x1255), (Value.int .i64 x1256), (Value.slice x1257.a x1257.len x1257.cap), (Value.slice x1258.a x1258.len x1258.cap), (Value.slice x1259.a x1259.len x1259.cap), (Value.slice x1260.a x1260.len x1260.cap), (Value.slice x1261.a x1261.len x1261.cap), (Value.slice x1262.a x1262.len x1262.cap), (Value.slice x1263.a x1263.len x1263.cap)])) ∧
 (
 ∃ x1264 : Int, H.rd h1254 (Addr.add (Addr.add b1252 ((x1202).toNat * 1)) 0) (Value.int .i64 x1264) ∧
 ([(Value.int .i64 x1255), (Value.int .i64 x1256), (Value.slice x1257.a x1257.len x1257.cap), (Value.slice x1258.a x1258.len x1258.cap), (Value.slice x1259.a x1259.len x1259.cap), (Value.slice x1260.a x1260.len x1260.cap), (Value.slice x1261.a x1261.len x1261.cap), (Value.slice x1262.a x1262.len x1262.cap), (Value.slice x1263.a x1263.len x1263.cap)]).length = 9 ∧ (Program.underlying Go.Proofs.Tryd.prog 50).isSome = true ∧
 H.wr h1254 (Addr.mk r3 0 none) ([(Value.int .i64 x1255), (Value.int .i64 x1256), (Value.slice x1257.a x1257.len x1257.cap), (Value.slice x1258.a x1258.len x1258.cap), (Value.slice x1259.a x1259.len x1259.cap), (Value.slice x1260.a x1260.len x1260.cap), (Value.slice x1261.a x1261.len x1261.cap), (Value.slice x1262.a x1262.len x1262.cap), (Value.slice x1263.a x1263.len x1263.cap)]) fun h1265 =>
 Ri h1265 r3 0 fun x1266 =>
 Ri h1265 r3 1 fun x1267 =>
 Rs h1265 r3 2 fun x1268 =>
 Rs h1265 r3 3 fun x1269 =>
 Rs h1265 r3 4 fun x1270 =>
 Rs h1265 r3 5 fun x1271 =>
 Rs h1265 r3 6 fun x1272 =>
 Rs h1265 r3 7 fun x1273 =>
 Rs h1265 r3 8 fun x1274 =>
 VRet h1265 (Value.tuple (List.toArray [(Value.agg (List.toArray [(Value.int .i64 x1266), (Value.int .i64 x1267), (Value.slice x1268.a x1268.len x1268.cap), (Value.slice x1269.a x1269.len x1269.cap), (Value.slice x1270.a x1270.len x1270.cap), (Value.slice x1271.a x1271.len x1271.cap), (Value.slice x1272.a x1272.len x1272.cap), (Value.slice x1273.a x1273.len x1273.cap), (Value.slice x1274.a x1274.len x1274.cap)])), (Value.bool true), (Value.int .i64 x1264), (Value.int .i64 0)])) post) ∧
 (
 ([(Value.int .i64 x1255), (Value.int .i64 x1256), (Value.slice x1257.a x1257.len x1257.cap), (Value.slice x1258.a x1258.len x1258.cap), (Value.slice x1259.a x1259.len x1259.cap), (Value.slice x1260.a x1260.len x1260.cap), (Value.slice x1261.a x1261.len x1261.cap), (Value.slice x1262.a x1262.len x1262.cap), (Value.slice x1263.a x1263.len x1263.cap)]).length = 9 ∧ (Program.underlying Go.Proofs.Tryd.prog 50).isSome = true ∧
 H.wr h1254 (Addr.mk r3 0 none) ([(Value.int .i64 x1255), (Value.int .i64 x1256), (Value.slice x1257.a x1257.len x1257.cap), (Value.slice x1258.a x1258.len x1258.cap), (Value.slice x1259.a x1259.len x1259.cap), (Value.slice x1260.a x1260.len x1260.cap), (Value.slice x1261.a x1261.len x1261.cap), (Value.slice x1262.a x1262.len x1262.cap), (Value.slice x1263.a x1263.len x1263.cap)]) fun h1275 =>
 ∃ x1276 : Int, H.rd h1275 (Addr.add (Addr.add b1252 ((x1202).toNat * 1)) 0) (Value.int .i64 x1276) ∧
 Ri h1275 r3 0 fun x1277 =>
 Ri h1275 r3 1 fun x1278 =>
 Rs h1275 r3 2 fun x1279 =>
 Rs h1275 r3 3 fun x1280 =>
 Rs h1275 r3 4 fun x1281 =>
 Rs h1275 r3 5 fun x1282 =>
 Rs h1275 r3 6 fun x1283 =>
 Rs h1275 r3 7 fun x1284 =>
 Rs h1275 r3 8 fun x1285 =>
 VRet h1275 (Value.tuple (List.toArray [(Value.agg (List.toArray [(Value.int .i64 x1277), (Value.int .i64 x1278), (Value.slice x1279.a x1279.len x1279.cap), (Value.slice x1280.a x1280.len x1280.cap), (Value.slice x1281.a x1281.len x1281.cap), (Value.slice x1282.a x1282.len x1282.cap), (Value.slice x1283.a x1283.len x1283.cap), (Value.slice x1284.a x1284.len x1284.cap), (Value.slice x1285.a x1285.len x1285.cap)])), (Value.bool true), (Value.int .i64 x1276), (Value.int .i64 0)])) post)) ∧
 (
 ∃ x1286 : Int, H.rd h582 (Addr.add (Addr.add b1252 ((x1202).toNat * 1)) 0) (Value.int .i64 x1286) ∧
 SemCall Go.Proofs.Tryd.prog 36 (List.toArray [(Value.agg (List.toArray [(Value.int .i64 x583), (Value.int .i64 x584), (Value.slice x585.a x585.len x585.cap), (Value.slice x586.a x586.len x586.cap), (Value.slice x587.a x587.len x587.cap), (Value.slice x588.a x588.len x588.cap), (Value.slice x589.a x589.len x589.cap), (Value.slice x590.a x590.len x590.cap), (Value.slice x591.a x591.len x591.cap)])), (Value.int .i64 p1_p), (Value.int .i64 0)]) h582 fun v1287 h1288 =>
 ∃ x1289 : Int, ∃ x1290 : Int, ∃ x1291 : SV, ∃ x1292 : SV, ∃ x1293 : SV, ∃ x1294 : SV, ∃ x1295 : SV, ∃ x1296 : SV, ∃ x1297 : SV, v1287 = (Value.agg (List.toArray [(Value.int .i64 x1289), (Value.int .i64 x1290), (Value.slice x1291.a x1291.len x1291.cap), (Value.slice x1292.a x1292.len x1292.cap), (Value.slice x1293.a x1293.len x1293.cap), (Value.slice x1294.a x1294.len x1294.cap), (Value.slice x1295.a x1295.len x1295.cap), (Value.slice x1296.a x1296.len x1296.cap), (Value.slice x1297.a x1297.len x1297.cap)])) ∧
 ([(Value.int .i64 x1289), (Value.int .i64 x1290), (Value.slice x1291.a x1291.len x1291.cap), (Value.slice x1292.a x1292.len x1292.cap), (Value.slice x1293.a x1293.len x1293.cap), (Value.slice x1294.a x1294.len x1294.cap), (Value.slice x1295.a x1295.len x1295.cap), (Value.slice x1296.a x1296.len x1296.cap), (Value.slice x1297.a x1297.len x1297.cap)]).length = 9 ∧ (Program.underlying Go.Proofs.Tryd.prog 50).isSome = true ∧
 H.wr h1288 (Addr.mk r3 0 none) ([(Value.int .i64 x1289), (Value.int .i64 x1290), (Value.slice x1291.a x1291.len x1291.cap), (Value.slice x1292.a x1292.len x1292.cap), (Value.slice x1293.a x1293.len x1293.cap), (Value.slice x1294.a x1294.len x1294.cap), (Value.slice x1295.a x1295.len x1295.cap), (Value.slice x1296.a x1296.len x1296.cap), (Value.slice x1297.a x1297.len x1297.cap)]) fun h1298 =>
 Ri h1298 r3 0 fun x1299 =>
 Ri h1298 r3 1 fun x1300 =>
 Rs h1298 r3 2 fun x1301 =>
 Rs h1298 r3 3 fun x1302 =>
 Rs h1298 r3 4 fun x1303 =>
 Rs h1298 r3 5 fun x1304 =>
 Rs h1298 r3 6 fun x1305 =>
 Rs h1298 r3 7 fun x1306 =>
 Rs h1298 r3 8 fun x1307 =>
 VRet h1298 (Value.tuple (List.toArray [(Value.agg (List.toArray [(Value.int .i64 x1299), (Value.int .i64 x1300), (Value.slice x1301.a x1301.len x1301.cap), (Value.slice x1302.a x1302.len x1302.cap), (Value.slice x1303.a x1303.len x1303.cap), (Value.slice x1304.a x1304.len x1304.cap), (Value.slice x1305.a x1305.len x1305.cap), (Value.slice x1306.a x1306.len x1306.cap), (Value.slice x1307.a x1307.len x1307.cap)])), (Value.bool true), (Value.int .i64 x1286), (Value.int .i64 0)])) post))))))) ∧
 (
 (
 ∃ x1308 : SV, H.rd h582 (Addr.add (Addr.add (Addr.mk r1 0 none) 2) 0) (Value.slice x1308.a x1308.len x1308.cap) ∧
 (
 Ri h582 r1 0 fun x1309 =>
 Ri h582 r1 1 fun x1310 =>
 Rs h582 r1 2 fun x1311 =>
 Rs h582 r1 3 fun x1312 =>
 Rs h582 r1 4 fun x1313 =>
 Rs h582 r1 5 fun x1314 =>
 Rs h582 r1 6 fun x1315 =>
 Rs h582 r1 7 fun x1316 =>
 Rs h582 r1 8 fun x1317 =>
 (
 SemCall Go.Proofs.Tryd.prog 36 (List.toArray [(Value.agg (List.toArray [(Value.int .i64 x1309), (Value.int .i64 x1310), (Value.slice x1311.a x1311.len x1311.cap), (Value.slice x1312.a x1312.len x1312.cap), (Value.slice x1313.a x1313.len x1313.cap), (Value.slice x1314.a x1314.len x1314.cap), (Value.slice x1315.a x1315.len x1315.cap), (Value.slice x1316.a x1316.len x1316.cap), (Value.slice x1317.a x1317.len x1317.cap)])), (Value.int .i64 p1_p), (Value.int .i64 0)]) h582 fun v1318 h1319 =>
 ∃ x1320 : Int, ∃ x1321 : Int, ∃ x1322 : SV, ∃ x1323 : SV, ∃ x1324 : SV, ∃ x1325 : SV, ∃ x1326 : SV, ∃ x1327 : SV, ∃ x1328 : SV, v1318 = (Value.agg (List.toArray [(Value.int .i64 x1320), (Value.int .i64 x1321), (Value.slice x1322.a x1322.len x1322.cap), (Value.slice x1323.a x1323.len x1323.cap), (Value.slice x1324.a x1324.len x1324.cap), (Value.slice x1325.a x1325.len x1325.cap), (Value.slice x1326.a x1326.len x1326.cap), (Value.slice x1327.a x1327.len x1327.cap), (Value.slice x1328.a x1328.len x1328.cap)])) ∧
 (
 ∃ x1329 : SV, H.rd h1319 (Addr.add (Addr.add (Addr.mk r1 0 none) 8) 0) (Value.slice x1329.a x1329.len x1329.cap) ∧
 ∃ b1330 : Addr, x1329.a = some b1330 ∧ 0 ≤ p1_p ∧ p1_p < ((x1329.len : Nat) : Int) ∧
 (
 ∃ x1331 : Int, H.rd h1319 (Addr.add (Addr.add b1330 ((p1_p).toNat * 1)) 0) (Value.int .i64 x1331) ∧
 ∃ b1332 : Addr, x1308.a = some b1332 ∧ 0 ≤ x1331 ∧ x1331 < ((x1308.len : Nat) : Int) ∧
 (
 ∃ x1333 : Int, H.rd h1319 (Addr.add (Addr.add b1332 ((x1331).toNat * 1)) 0) (Value.int .i64 x1333) ∧
 ([(Value.int .i64 x1320), (Value.int .i64 x1321), (Value.slice x1322.a x1322.len x1322.cap), (Value.slice x1323.a x1323.len x1323.cap), (Value.slice x1324.a x1324.len x1324.cap), (Value.slice x1325.a x1325.len x1325.cap), (Value.slice x1326.a x1326.len x1326.cap), (Value.slice x1327.a x1327.len x1327.cap), (Value.slice x1328.a x1328.len x1328.cap)]).length = 9 ∧ (Program.underlying Go.Proofs.Tryd.prog 50).isSome = true ∧
 H.wr h1319 (Addr.mk r3 0 none) ([(Value.int .i64 x1320), (Value.int .i64 x1321), (Value.slice x1322.a x1322.len x1322.cap), (Value.slice x1323.a x1323.len x1323.cap), (Value.slice x1324.a x1324.len x1324.cap), (Value.slice x1325.a x1325.len x1325.cap), (Value.slice x1326.a x1326.len x1326.cap), (Value.slice x1327.a x1327.len x1327.cap), (Value.slice x1328.a x1328.len x1328.cap)]) fun h1334 =>
 Ri h1334 r3 0 fun x1335 =>
 Ri h1334 r3 1 fun x1336 =>
 Rs h1334 r3 2 fun x1337 =>
 Rs h1334 r3 3 fun x1338 =>
 Rs h1334 r3 4 fun x1339 =>
 Rs h1334 r3 5 fun x1340 =>
 Rs h1334 r3 6 fun x1341 =>
 Rs h1334 r3 7 fun x1342 =>
 Rs h1334 r3 8 fun x1343 =>
 VRet h1334 (Value.tuple (List.toArray [(Value.agg (List.toArray [(Value.int .i64 x1335), (Value.int .i64 x1336), (Value.slice x1337.a x1337.len x1337.cap), (Value.slice x1338.a x1338.len x1338.cap), (Value.slice x1339.a x1339.len x1339.cap), (Value.slice x1340.a x1340.len x1340.cap), (Value.slice x1341.a x1341.len x1341.cap), (Value.slice x1342.a x1342.len x1342.cap), (Value.slice x1343.a x1343.len x1343.cap)])), (Value.bool true), (Value.int .i64 x1333), (Value.int .i64 0)])) post) ∧
 (
 ([(Value.int .i64 x1320), (Value.int .i64 x1321), (Value.slice x1322.a x1322.len x1322.cap), (Value.slice x1323.a x1323.len x1323.cap), (Value.slice x1324.a x1324.len x1324.cap), (Value.slice x1325.a x1325.len x1325.cap), (Value.slice x1326.a x1326.len x1326.cap), (Value.slice x1327.a x1327.len x1327.cap), (Value.slice x1328.a x1328.len x1328.cap)]).length = 9 ∧ (Program.underlying Go.Proofs.Tryd.prog 50).isSome = true ∧
 H.wr h1319 (Addr.mk r3 0 none) ([(Value.int .i64 x1320), (Value.int .i64 x1321), (Value.slice x1322.a x1322.len x1322.cap), (Value.slice x1323.a x1323.len x1323.cap), (Value.slice x1324.a x1324.len x1324.cap), (Value.slice x1325.a x1325.len x1325.cap), (Value.slice x1326.a x1326.len x1326.cap), (Value.slice x1327.a x1327.len x1327.cap), (Value.slice x1328.a x1328.len x1328.cap)]) fun h1344 =>
 ∃ x1345 : Int, H.rd h1344 (Addr.add (Addr.add b1332 ((x1331).toNat * 1)) 0) (Value.int .i64 x1345) ∧
 Ri h1344 r3 0 fun x1346 =>
 Ri h1344 r3 1 fun x1347 =>
 Rs h1344 r3 2 fun x1348 =>
 Rs h1344 r3 3 fun x1349 =>
 Rs h1344 r3 4 fun x1350 =>
 Rs h1344 r3 5 fun x1351 =>
 Rs h1344 r3 6 fun x1352 =>
 Rs h1344 r3 7 fun x1353 =>
 Rs h1344 r3 8 fun x1354 =>
 VRet h1344 (Value.tuple (List.toArray [(Value.agg (List.toArray [(Value.int .i64 x1346), (Value.int .i64 x1347), (Value.slice x1348.a x1348.len x1348.cap), (Value.slice x1349.a x1349.len x1349.cap), (Value.slice x1350.a x1350.len x1350.cap), (Value.slice x1351.a x1351.len x1351.cap), (Value.slice x1352.a x1352.len x1352.cap), (Value.slice x1353.a x1353.len x1353.cap), (Value.slice x1354.a x1354.len x1354.cap)])), (Value.bool true), (Value.int .i64 x1345), (Value.int .i64 0)])) post)) ∧
 (
 ([(Value.int .i64 x1320), (Value.int .i64 x1321), (Value.slice x1322.a x1322.len x1322.cap), (Value.slice x1323.a x1323.len x1323.cap), (Value.slice x1324.a x1324.len x1324.cap), (Value.slice x1325.a x1325.len x1325.cap), (Value.slice x1326.a x1326.len x1326.cap), (Value.slice x1327.a x1327.len x1327.cap), (Value.slice x1328.a x1328.len x1328.cap)]).length = 9 ∧ (Program.underlying Go.Proofs.Tryd.prog 50).isSome = true ∧
 H.wr h1319 (Addr.mk r3 0 none) ([(Value.int .i64 x1320), (Value.int .i64 x1321), (Value.slice x1322.a x1322.len x1322.cap), (Value.slice x1323.a x1323.len x1323.cap), (Value.slice x1324.a x1324.len x1324.cap), (Value.slice x1325.a x1325.len x1325.cap), (Value.slice x1326.a x1326.len x1326.cap), (Value.slice x1327.a x1327.len x1327.cap), (Value.slice x1328.a x1328.len x1328.cap)]) fun h1355 =>
 ∃ x1356 : Int, H.rd h1355 (Addr.add (Addr.add b1330 ((p1_p).toNat * 1)) 0) (Value.int .i64 x1356) ∧
 ∃ b1357 : Addr, x1308.a = some b1357 ∧ 0 ≤ x1356 ∧ x1356 < ((x1308.len : Nat) : Int) ∧
 ∃ x1358 : Int, H.rd h1355 (Addr.add (Addr.add b1357 ((x1356).toNat * 1)) 0) (Value.int .i64 x1358) ∧
 Ri h1355 r3 0 fun x1359 =>
 Ri h1355 r3 1 fun x1360 =>
 Rs h1355 r3 2 fun x1361 =>
 Rs h1355 r3 3 fun x1362 =>
 Rs h1355 r3 4 fun x1363 =>
 Rs h1355 r3 5 fun x1364 =>
 Rs h1355 r3 6 fun x1365 =>
 Rs h1355 r3 7 fun x1366 =>
 Rs h1355 r3 8 fun x1367 =>
 VRet h1355 (Value.tuple (List.toArray [(Value.agg (List.toArray [(Value.int .i64 x1359), (Value.int .i64 x1360), (Value.slice x1361.a x1361.len x1361.cap), (Value.slice x1362.a x1362.len x1362.cap), (Value.slice x1363.a x1363.len x1363.cap), (Value.slice x1364.a x1364.len x1364.cap), (Value.slice x1365.a x1365.len x1365.cap), (Value.slice x1366.a x1366.len x1366.cap), (Value.slice x1367.a x1367.len x1367.cap)])), (Value.bool true), (Value.int .i64 x1358), (Value.int .i64 0)])) post)) ∧
 (
 ([(Value.int .i64 x1320), (Value.int .i64 x1321), (Value.slice x1322.a x1322.len x1322.cap), (Value.slice x1323.a x1323.len x1323.cap), (Value.slice x1324.a x1324.len x1324.cap), (Value.slice x1325.a x1325.len x1325.cap), (Value.slice x1326.a x1326.len x1326.cap), (Value.slice x1327.a x1327.len x1327.cap), (Value.slice x1328.a x1328.len x1328.cap)]).length = 9 ∧ (Program.underlying Go.Proofs.Tryd.prog 50).isSome = true ∧
 H.wr h1319 (Addr.mk r3 0 none) ([(Value.int .i64 x1320), (Value.int .i64 x1321), (Value.slice x1322.a x1322.len x1322.cap), (Value.slice x1323.a x1323.len x1323.cap), (Value.slice x1324.a x1324.len x1324.cap), (Value.slice x1325.a x1325.len x1325.cap), (Value.slice x1326.a x1326.len x1326.cap), (Value.slice x1327.a x1327.len x1327.cap), (Value.slice x1328.a x1328.len x1328.cap)]) fun h1368 =>
 ∃ x1369 : SV, H.rd h1368 (Addr.add (Addr.add (Addr.mk r1 0 none) 8) 0) (Value.slice x1369.a x1369.len x1369.cap) ∧
 ∃ b1370 : Addr, x1369.a = some b1370 ∧ 0 ≤ p1_p ∧ p1_p < ((x1369.len : Nat) : Int) ∧
 ∃ x1371 : Int, H.rd h1368 (Addr.add (Addr.add b1370 ((p1_p).toNat * 1)) 0) (Value.int .i64 x1371) ∧
 ∃ b1372 : Addr, x1308.a = some b1372 ∧ 0 ≤ x1371 ∧ x1371 < ((x1308.len : Nat) : Int) ∧
 ∃ x1373 : Int, H.rd h1368 (Addr.add (Addr.add b1372 ((x1371).toNat * 1)) 0) (Value.int .i64 x1373) ∧
 Ri h1368 r3 0 fun x1374 =>
 Ri h1368 r3 1 fun x1375 =>
 Rs h1368 r3 2 fun x1376 =>
 Rs h1368 r3 3 fun x1377 =>
 Rs h1368 r3 4 fun x1378 =>
 Rs h1368 r3 5 fun x1379 =>
 Rs h1368 r3 6 fun x1380 =>
 Rs h1368 r3 7 fun x1381 =>
 Rs h1368 r3 8 fun x1382 =>
 VRet h1368 (Value.tuple (List.toArray [(Value.agg (List.toArray [(Value.int .i64 x1374), (Value.int .i64 x1375), (Value.slice x1376.a x1376.len x1376.cap), (Value.slice x1377.a x1377.len x1377.cap), (Value.slice x1378.a x1378.len x1378.cap), (Value.slice x1379.a x1379.len x1379.cap), (Value.slice x1380.a x1380.len x1380.cap), (Value.slice x1381.a x1381.len x1381.cap), (Value.slice x1382.a x1382.len x1382.cap)])), (Value.bool true), (Value.int .i64 x1373), (Value.int .i64 0)])) post)) ∧
 (
 ∃ x1383 : SV, H.rd h582 (Addr.add (Addr.add (Addr.mk r1 0 none) 8) 0) (Value.slice x1383.a x1383.len x1383.cap) ∧
 ∃ b1384 : Addr, x1383.a = some b1384 ∧ 0 ≤ p1_p ∧ p1_p < ((x1383.len : Nat) : Int) ∧
 (
 SemCall Go.Proofs.Tryd.prog 36 (List.toArray [(Value.agg (List.toArray [(Value.int .i64 x1309), (Value.int .i64 x1310), (Value.slice x1311.a x1311.len x1311.cap), (Value.slice x1312.a x1312.len x1312.cap), (Value.slice x1313.a x1313.len x1313.cap), (Value.slice x1314.a x1314.len x1314.cap), (Value.slice x1315.a x1315.len x1315.cap), (Value.slice x1316.a x1316.len x1316.cap), (Value.slice x1317.a x1317.len x1317.cap)])), (Value.int .i64 p1_p), (Value.int .i64 0)]) h582 fun v1385 h1386 =>
 ∃ x1387 : Int, ∃ x1388 : Int, ∃ x1389 : SV, ∃ x1390 : SV, ∃ x1391 : SV, ∃ x1392 : SV, ∃ x1393 : SV, ∃ x1394 : SV, ∃ x1395 : SV, v1385 = (Value.agg (List.toArray [(Value.int .i64 x1387), (Value.int .i64 x1388), (Value.slice x1389.a x1389.len x1389.cap), (Value.slice x1390.a x1390.len x1390.cap), (Value.slice x1391.a x1391.len x1391.cap), (Value.slice x1392.a x1392.len x1392.cap), (Value.slice x1393.a x1393.len x1393.cap), (Value.slice x1394.a x1394.len x1394.cap), (Value.slice x1395.a x1395.len x1395.cap)])) ∧
 (
 ∃ x1396 : Int, H.rd h1386 (Addr.add (Addr.add b1384 ((p1_p).toNat * 1)) 0) (Value.int .i64 x1396) ∧
 ∃ b1397 : Addr, x1308.a = some b1397 ∧ 0 ≤ x1396 ∧ x1396 < ((x1308.len : Nat) : Int) ∧
 (
 ∃ x1398 : Int, H.rd h1386 (Addr.add (Addr.add b1397 ((x1396).toNat * 1)) 0) (Value.int .i64 x1398) ∧
 ([(Value.int .i64 x1387), (Value.int .i64 x1388), (Value.slice x1389.a x1389.len x1389.cap), (Value.slice x1390.a x1390.len x1390.cap), (Value.slice x1391.a x1391.len x1391.cap), (Value.slice x1392.a x1392.len x1392.cap), (Value.slice x1393.a x1393.len x1393.cap), (Value.slice x1394.a x1394.len x1394.cap), (Value.slice x1395.a x1395.len x1395.cap)]).length = 9 ∧ (Program.underlying Go.Proofs.Tryd.prog 50).isSome = true ∧
 H.wr h1386 (Addr.mk r3 0 none) ([(Value.int .i64 x1387), (Value.int .i64 x1388), (Value.slice x1389.a x1389.len x1389.cap), (Value.slice x1390.a x1390.len x1390.cap), (Value.slice x1391.a x1391.len x1391.cap), (Value.slice x1392.a x1392.len x1392.cap), (Value.slice x1393.a x1393.len x1393.cap), (Value.slice x1394.a x1394.len x1394.cap), (Value.slice x1395.a x1395.len x1395.cap)]) fun h1399 =>
 Ri h1399 r3 0 fun x1400 =>
 Ri h1399 r3 1 fun x1401 =>
 Rs h1399 r3 2 fun x1402 =>
 Rs h1399 r3 3 fun x1403 =>
 Rs h1399 r3 4 fun x1404 =>
 Rs h1399 r3 5 fun x1405 =>
 Rs h1399 r3 6 fun x1406 =>
 Rs h1399 r3 7 fun x1407 =>
 Rs h1399 r3 8 fun x1408 =>
 VRet h1399 (Value.tuple (List.toArray [(Value.agg (List.toArray [(Value.int .i64 x1400), (Value.int .i64 x1401), (Value.slice x1402.a x1402.len x1402.cap), (Value.slice x1403.a x1403.len x1403.cap), (Value.slice x1404.a x1404.len x1404.cap), (Value.slice x1405.a x1405.len x1405.cap), (Value.slice x1406.a x1406.len x1406.cap), (Value.slice x1407.a x1407.len x1407.cap), (Value.slice x1408.a x1408.len x1408.cap)])), (Value.bool true), (Value.int .i64 x1398), (Value.int .i64 0)])) post) ∧
 (
 ([(Value.int .i64 x1387), (Value.int .i64 x1388), (Value.slice x1389.a x1389.len x1389.cap), (Value.slice x1390.a x1390.len x1390.cap), (Value.slice x1391.a x1391.len x1391.cap), (Value.slice x1392.a x1392.len x1392.cap), (Value.slice x1393.a x1393.len x1393.cap), (Value.slice x1394.a x1394.len x1394.cap), (Value.slice x1395.a x1395.len x1395.cap)]).length = 9 ∧ (Program.underlying Go.Proofs.Tryd.prog 50).isSome = true ∧
 H.wr h1386 (Addr.mk r3 0 none) ([(Value.int .i64 x1387), (Value.int .i64 x1388), (Value.slice x1389.a x1389.len x1389.cap), (Value.slice x1390.a x1390.len x1390.cap), (Value.slice x1391.a x1391.len x1391.cap), (Value.slice x1392.a x1392.len x1392.cap), (Value.slice x1393.a x1393.len x1393.cap), (Value.slice x1394.a x1394.len x1394.cap), (Value.slice x1395.a x1395.len x1395.cap)]) fun h1409 =>
 ∃ x1410 : Int, H.rd h1409 (Addr.add (Addr.add b1397 ((x1396).toNat * 1)) 0) (Value.int .i64 x1410) ∧
 Ri h1409 r3 0 fun x1411 =>
 Ri h1409 r3 1 fun x1412 =>
 Rs h1409 r3 2 fun x1413 =>
 Rs h1409 r3 3 fun x1414 =>
 Rs h1409 r3 4 fun x1415 =>
 Rs h1409 r3 5 fun x1416 =>
 Rs h1409 r3 6 fun x1417 =>
 Rs h1409 r3 7 fun x1418 =>
 Rs h1409 r3 8 fun x1419 =>
 VRet h1409 (Value.tuple (List.toArray [(Value.agg (List.toArray [(Value.int .i64 x1411), (Value.int .i64 x1412), (Value.slice x1413.a x1413.len x1413.cap), (Value.slice x1414.a x1414.len x1414.cap), (Value.slice x1415.a x1415.len x1415.cap), (Value.slice x1416.a x1416.len x1416.cap), (Value.slice x1417.a x1417.len x1417.cap), (Value.slice x1418.a x1418.len x1418.cap), (Value.slice x1419.a x1419.len x1419.cap)])), (Value.bool true), (Value.int .i64 x1410), (Value.int .i64 0)])) post)) ∧
 (
 ([(Value.int .i64 x1387), (Value.int .i64 x1388), (Value.slice x1389.a x1389.len x1389.cap), (Value.slice x1390.a x1390.len x1390.cap), (Value.slice x1391.a x1391.len x1391.cap), (Value.slice x1392.a x1392.len x1392.cap), (Value.slice x1393.a x1393.len x1393.cap), (Value.slice x1394.a x1394.len x1394.cap), (Value.slice x1395.a x1395.len x1395.cap)]).length = 9 ∧ (Program.underlying Go.Proofs.Tryd.prog 50).isSome = true ∧
 H.wr h1386 (Addr.mk r3 0 none) ([(Value.int .i64 x1387), (Value.int .i64 x1388), (Value.slice x1389.a x1389.len x1389.cap), (Value.slice x1390.a x1390.len x1390.cap), (Value.slice x1391.a x1391.len x1391.cap), (Value.slice x1392.a x1392.len x1392.cap), (Value.slice x1393.a x1393.len x1393.cap), (Value.slice x1394.a x1394.len x1394.cap), (Value.slice x1395.a x1395.len x1395.cap)]) fun h1420 =>
 ∃ x1421 : Int, H.rd h1420 (Addr.add (Addr.add b1384 ((p1_p).toNat * 1)) 0) (Value.int .i64 x1421) ∧
 ∃ b1422 : Addr, x1308.a = some b1422 ∧ 0 ≤ x1421 ∧ x1421 < ((x1308.len : Nat) : Int) ∧
 ∃ x1423 : Int, H.rd h1420 (Addr.add (Addr.add b1422 ((x1421).toNat * 1)) 0) (Value.int .i64 x1423) ∧
 Ri h1420 r3 0 fun x1424 =>
 Ri h1420 r3 1 fun x1425 =>
 Rs h1420 r3 2 fun x1426 =>
 Rs h1420 r3 3 fun x1427 =>
 Rs h1420 r3 4 fun x1428 =>
 Rs h1420 r3 5 fun x1429 =>
 Rs h1420 r3 6 fun x1430 =>
 Rs h1420 r3 7 fun x1431 =>
 Rs h1420 r3 8 fun x1432 =>
 VRet h1420 (Value.tuple (List.toArray [(Value.agg (List.toArray [(Value.int .i64 x1424), (Value.int .i64 x1425), (Value.slice x1426.a x1426.len x1426.cap), (Value.slice x1427.a x1427.len x1427.cap), (Value.slice x1428.a x1428.len x1428.cap), (Value.slice x1429.a x1429.len x1429.cap), (Value.slice x1430.a x1430.len x1430.cap), (Value.slice x1431.a x1431.len x1431.cap), (Value.slice x1432.a x1432.len x1432.cap)])), (Value.bool true), (Value.int .i64 x1423), (Value.int .i64 0)])) post)) ∧
 (
 ∃ x1433 : Int, H.rd h582 (Addr.add (Addr.add b1384 ((p1_p).toNat * 1)) 0) (Value.int .i64 x1433) ∧
 ∃ b1434 : Addr, x1308.a = some b1434 ∧ 0 ≤ x1433 ∧ x1433 < ((x1308.len : Nat) : Int) ∧
 (
 SemCall Go.Proofs.Tryd.prog 36 (List.toArray [(Value.agg (List.toArray [(Value.int .i64 x1309), (Value.int .i64 x1310), (Value.slice x1311.a x1311.len x1311.cap), (Value.slice x1312.a x1312.len x1312.cap), (Value.slice x1313.a x1313.len x1313.cap), (Value.slice x1314.a x1314.len x1314.cap), (Value.slice x1315.a x1315.len x1315.cap), (Value.slice x1316.a x1316.len x1316.cap), (Value.slice x1317.a x1317.len x1317.cap)])), (Value.int .i64 p1_p), (Value.int .i64 0)]) h582 fun v1435 h1436 =>
 ∃ x1437 : Int, ∃ x1438 : Int, ∃ x1439 : SV, ∃ x1440 : SV, ∃ x1441 : SV, ∃ x1442 : SV, ∃ x1443 : SV, ∃ x1444 : SV, ∃ x1445 : SV, v1435 = (Value.agg (List.toArray [(Value.int .i64 x1437), (Value.int .i64 x1438), (Value.slice x1439.a x1439.len x1439.cap), (Value.slice x1440.a x1440.len x1440.cap), (Value.slice x1441.a x1441.len x1441.cap), (Value.slice x1442.a x1442.len x1442.cap), (Value.slice x1443.a x1443.len x1443.cap), (Value.slice x1444.a x1444.len x1444.cap), (Value.slice x1445.a x1445.len x1445.cap)])) ∧
 (
 ∃ x1446 : Int, H.rd h1436 (Addr.add (Addr.add b1434 ((x1433).toNat * 1)) 0) (Value.int .i64 x1446) ∧
 ([(Value.int .i64 x1437), (Value.int .i64 x1438), (Value.slice x1439.a x1439.len x1439.cap), (Value.slice x1440.a x1440.len x1440.cap), (Value.slice x1441.a x1441.len x1441.cap), (Value.slice x1442.a x1442.len x1442.cap), (Value.slice x1443.a x1443.len x1443.cap), (Value.slice x1444.a x1444.len x1444.cap), (Value.slice x1445.a x1445.len x1445.cap)]).length = 9 ∧ (Program.underlying Go.Proofs.Tryd.prog 50).isSome = true ∧
 H.wr h1436 (Addr.mk r3 0 none) ([(Value.int .i64 x1437), (Value.int .i64 x1438), (Value.slice x1439.a x1439.len x1439.cap), (Value.slice x1440.a x1440.len x1440.cap), (Value.slice x1441.a x1441.len x1441.cap), (Value.slice x1442.a x1442.len x1442.cap), (Value.slice x1443.a x1443.len x1443.cap), (Value.slice x1444.a x1444.len x1444.cap), (Value.slice x1445.a x1445.len x1445.cap)]) fun h1447 =>
 Ri h1447 r3 0 fun x1448 =>
 Ri h1447 r3 1 fun x1449 =>
 Rs h1447 r3 2 fun x1450 =>
 Rs h1447 r3 3 fun x1451 =>
 Rs h1447 r3 4 fun x1452 =>
 Rs h1447 r3 5 fun x1453 =>
 Rs h1447 r3 6 fun x1454 =>
 Rs h1447 r3 7 fun x1455 =>
 Rs h1447 r3 8 fun x1456 =>
 VRet h1447 (Value.tuple (List.toArray [(Value.agg (List.toArray [(Value.int .i64 x1448), (Value.int .i64 x1449), (Value.slice x1450.a x1450.len x1450.cap), (Value.slice x1451.a x1451.len x1451.cap), (Value.slice x1452.a x1452.len x1452.cap), (Value.slice x1453.a x1453.len x1453.cap), (Value.slice x1454.a x1454.len x1454.cap), (Value.slice x1455.a x1455.len x1455.cap), (Value.slice x1456.a x1456.len x1456.cap)])), (Value.bool true), (Value.int .i64 x1446), (Value.int .i64 0)])) post) ∧
 (
 ([(Value.int .i64 x1437), (Value.int .i64 x1438), (Value.slice x1439.a x1439.len x1439.cap), (Value.slice x1440.a x1440.len x1440.cap), (Value.slice x1441.a x1441.len x1441.cap), (Value.slice x1442.a x1442.len x1442.cap), (Value.slice x1443.a x1443.len x1443.cap), (Value.slice x1444.a x1444.len x1444.cap), (Value.slice x1445.a x1445.len x1445.cap)]).length = 9 ∧ (Program.underlying Go.Proofs.Tryd.prog 50).isSome = true ∧
 H.wr h1436 (Addr.mk r3 0 none) ([(Value.int .i64 x1437), (Value.int .i64 x1438), (Value.slice x1439.a x1439.len x1439.cap), (Value.slice x1440.a x1440.len x1440.cap), (Value.slice x1441.a x1441.len x1441.cap), (Value.slice x1442.a x1442.len x1442.cap), (Value.slice x1443.a x1443.len x1443.cap), (Value.slice x1444.a x1444.len x1444.cap), (Value.slice x1445.a x1445.len x1445.cap)]) fun h1457 =>
 ∃ x1458 : Int, H.rd h1457 (Addr.add (Addr.add b1434 ((x1433).toNat * 1)) 0) (Value.int .i64 x1458) ∧
 Ri h1457 r3 0 fun x1459 =>
 Ri h1457 r3 1 fun x1460 =>
 Rs h1457 r3 2 fun x1461 =>
 Rs h1457 r3 3 fun x1462 =>
 Rs h1457 r3 4 fun x1463 =>
 Rs h1457 r3 5 fun x1464 =>
 Rs h1457 r3 6 fun x1465 =>
 Rs h1457 r3 7 fun x1466 =>
 Rs h1457 r3 8 fun x1467 =>
 VRet h1457 (Value.tuple (List.toArray [(Value.agg (List.toArray [(Value.int .i64 x1459), (Value.int .i64 x1460), (Value.slice x1461.a x1461.len x1461.cap), (Value.slice x1462.a x1462.len x1462.cap), (Value.slice x1463.a x1463.len x1463.cap), (Value.slice x1464.a x1464.len x1464.cap), (Value.slice x1465.a x1465.len x1465.cap), (Value.slice x1466.a x1466.len x1466.cap), (Value.slice x1467.a x1467.len x1467.cap)])), (Value.bool true), (Value.int .i64 x1458), (Value.int .i64 0)])) post)) ∧
 (
 ∃ x1468 : Int, H.rd h582 (Addr.add (Addr.add b1434 ((x1433).toNat * 1)) 0) (Value.int .i64 x1468) ∧
 SemCall Go.Proofs.Tryd.prog 36 (List.toArray [(Value.agg (List.toArray [(Value.int .i64 x1309), (Value.int .i64 x1310), (Value.slice x1311.a x1311.len x1311.cap), (Value.slice x1312.a x1312.len x1312.cap), (Value.slice x1313.a x1313.len x1313.cap), (Value.slice x1314.a x1314.len x1314.cap), (Value.slice x1315.a x1315.len x1315.cap), (Value.slice x1316.a x1316.len x1316.cap), (Value.slice x1317.a x1317.len x1317.cap)])), (Value.int .i64 p1_p), (Value.int .i64 0)]) h582 fun v1469 h1470 =>
 ∃ x1471 : Int, ∃ x1472 : Int, ∃ x1473 : SV, ∃ x1474 : SV, ∃ x1475 : SV, ∃ x1476 : SV, ∃ x1477 : SV, ∃ x1478 : SV, ∃ x1479 : SV, v1469 = (Value.agg (List.toArray [(Value.int .i64 x1471), (Value.int .i64 x1472), (Value.slice x1473.a x1473.len x1473.cap), (Value.slice x1474.a x1474.len x1474.cap), (Value.slice x1475.a x1475.len x1475.cap), (Value.slice x1476.a x1476.len x1476.cap), (Value.slice x1477.a x1477.len x1477.cap), (Value.slice x1478.a x1478.len x1478.cap), (Value.slice x1479.a x1479.len x1479.cap)])) ∧
 ([(Value.int .i64 x1471), (Value.int .i64 x1472), (Value.slice x1473.a x1473.len x1473.cap), (Value.slice x1474.a x1474.len x1474.cap), (Value.slice x1475.a x1475.len x1475.cap), (Value.slice x1476.a x1476.len x1476.cap), (Value.slice x1477.a x1477.len x1477.cap), (Value.slice x1478.a x1478.len x1478.cap), (Value.slice x1479.a x1479.len x1479.cap)]).length = 9 ∧ (Program.underlying Go.Proofs.Tryd.prog 50).isSome = true ∧
 H.wr h1470 (Addr.mk r3 0 none) ([(Value.int .i64 x1471), (Value.int .i64 x1472), (Value.slice x1473.a x1473.len x1473.cap), (Value.slice x1474.a x1474.len x1474.cap), (Value.slice x1475.a x1475.len x1475.cap), (Value.slice x1476.a x1476.len x1476.cap), (Value.slice x1477.a x1477.len x1477.cap), (Value.slice x1478.a x1478.len x1478.cap), (Value.slice x1479.a x1479.len x1479.cap)]) fun h1480 =>
 Ri h1480 r3 0 fun x1481 =>
 Ri h1480 r3 1 fun x1482 =>
 Rs h1480 r3 2 fun x1483 =>
 Rs h1480 r3 3 fun x1484 =>
 Rs h1480 r3 4 fun x1485 =>
 Rs h1480 r3 5 fun x1486 =>
 Rs h1480 r3 6 fun x1487 =>
 Rs h1480 r3 7 fun x1488 =>
 Rs h1480 r3 8 fun x1489 =>
 VRet h1480 (Value.tuple (List.toArray [(Value.agg (List.toArray [(Value.int .i64 x1481), (Value.int .i64 x1482), (Value.slice x1483.a x1483.len x1483.cap), (Value.slice x1484.a x1484.len x1484.cap), (Value.slice x1485.a x1485.len x1485.cap), (Value.slice x1486.a x1486.len x1486.cap), (Value.slice x1487.a x1487.len x1487.cap), (Value.slice x1488.a x1488.len x1488.cap), (Value.slice x1489.a x1489.len x1489.cap)])), (Value.bool true), (Value.int .i64 x1468), (Value.int .i64 0)])) post)))) ∧
 (
 ∃ x1490 : SV, H.rd h582 (Addr.add (Addr.add (Addr.mk r1 0 none) 8) 0) (Value.slice x1490.a x1490.len x1490.cap) ∧
 ∃ b1491 : Addr, x1490.a = some b1491 ∧ 0 ≤ p1_p ∧ p1_p < ((x1490.len : Nat) : Int) ∧
 (
 Ri h582 r1 0 fun x1492 =>
 Ri h582 r1 1 fun x1493 =>
 Rs h582 r1 2 fun x1494 =>
 Rs h582 r1 3 fun x1495 =>
 Rs h582 r1 4 fun x1496 =>
 Rs h582 r1 5 fun x1497 =>
 Rs h582 r1 6 fun x1498 =>
 Rs h582 r1 7 fun x1499 =>
 Rs h582 r1 8 fun x1500 =>
 (
 SemCall Go.Proofs.Tryd.prog 36 (List.toArray [(Value.agg (List.toArray [(Value.int .i64 x1492), (Value.int .i64 x1493), (Value.slice x1494.a x1494.len x1494.cap), (Value.slice x1495.a x1495.len x1495.cap), (Value.slice x1496.a x1496.len x1496.cap), (Value.slice x1497.a x1497.len x1497.cap), (Value.slice x1498.a x1498.len x1498.cap), (Value.slice x1499.a x1499.len x1499.cap), (Value.slice x1500.a x1500.len x1500.cap)])), (Value.int .i64 p1_p), (Value.int .i64 0)]) h582 fun v1501 h1502 =>
 ∃ x1503 : Int, ∃ x1504 : Int, ∃ x1505 : SV, ∃ x1506 : SV, ∃ x1507 : SV, ∃ x1508 : SV, ∃ x1509 : SV, ∃ x1510 : SV, ∃ x1511 : SV, v1501 = (Value.agg (List.toArray [(Value.int .i64 x1503), (Value.int .i64 x1504), (Value.slice x1505.a x1505.len x1505.cap), (Value.slice x1506.a x1506.len x1506.cap), (Value.slice x1507.a x1507.len x1507.cap), (Value.slice x1508.a x1508.len x1508.cap), (Value.slice x1509.a x1509.len x1509.cap), (Value.slice x1510.a x1510.len x1510.cap), (Value.slice x1511.a x1511.len x1511.cap)])) ∧
 (
 ∃ x1512 : Int, H.rd h1502 (Addr.add (Addr.add b1491 ((p1_p).toNat * 1)) 0) (Value.int .i64 x1512) ∧
 ∃ b1513 : Addr, x1308.a = some b1513 ∧ 0 ≤ x1512 ∧ x1512 < ((x1308.len : Nat) : Int) ∧
 (
 ∃ x1514 : Int, H.rd h1502 (Addr.add (Addr.add b1513 ((x1512).toNat * 1)) 0) (Value.int .i64 x1514) ∧
 ([(Value.int .i64 x1503), (Value.int .i64 x1504), (Value.slice x1505.a x1505.len x1505.cap), (Value.slice x1506.a x1506.len x1506.cap), (Value.slice x1507.a x1507.len x1507.cap), (Value.slice x1508.a x1508.len x1508.cap), (Value.slice x1509.a x1509.len x1509.cap), (Value.slice x1510.a x1510.len x1510.cap), (Value.slice x1511.a x1511.len x1511.cap)]).length = 9 ∧ (Program.underlying Go.Proofs.Tryd.prog 50).isSome = true ∧
 H.wr h1502 (Addr.mk r3 0 none) ([(Value.int .i64 x1503), (Value.int .i64 x1504), (Value.slice x1505.a x1505.len x1505.cap), (Value.slice x1506.a x1506.len x1506.cap), (Value.slice x1507.a x1507.len x1507.cap), (Value.slice x1508.a x1508.len x1508.cap), (Value.slice x1509.a x1509.len x1509.cap), (Value.slice x1510.a x1510.len x1510.cap), (Value.slice x1511.a x1511.len x1511.cap)]) fun h1515 =>
 Ri h1515 r3 0 fun x1516 =>
 Ri h1515 r3 1 fun x1517 =>
 Rs h1515 r3 2 fun x1518 =>
 Rs h1515 r3 3 fun x1519 =>
 Rs h1515 r3 4 fun x1520 =>
 Rs h1515 r3 5 fun x1521 =>
 Rs h1515 r3 6 fun x1522 =>
 Rs h1515 r3 7 fun x1523 =>
 Rs h1515 r3 8 fun x1524 =>
 VRet h1515 (Value.tuple (List.toArray [(Value.agg (List.toArray [(Value.int .i64 x1516), (Value.int .i64 x1517), (Value.slice x1518.a x1518.len x1518.cap), (Value.slice x1519.a x1519.len x1519.cap), (Value.slice x1520.a x1520.len x1520.cap), (Value.slice x1521.a x1521.len x1521.cap), (Value.slice x1522.a x1522.len x1522.cap), (Value.slice x1523.a x1523.len x1523.cap), (Value.slice x1524.a x1524.len x1524.cap)])), (Value.bool true), (Value.int .i64 x1514), (Value.int .i64 0)])) post) ∧
 (
 ([(Value.int .i64 x1503), (Value.int .i64 x1504), (Value.slice x1505.a x1505.len x1505.cap), (Value.slice x1506.a x1506.len x1506.cap), (Value.slice x1507.a x1507.len x1507.cap), (Value.slice x1508.a x1508.len x1508.cap), (Value.slice x1509.a x1509.len x1509.cap), (Value.slice x1510.a x1510.len x1510.cap), (Value.slice x1511.a x1511.len x1511.cap)]).length = 9 ∧ (Program.underlying Go.Proofs.Tryd.prog 50).isSome = true ∧
 H.wr h1502 (Addr.mk r3 0 none) ([(Value.int .i64 x1503), (Value.int .i64 x1504), (Value.slice x1505.a x1505.len x1505.cap), (Value.slice x1506.a x1506.len x1506.cap), (Value.slice x1507.a x1507.len x1507.cap), (Value.slice x1508.a x1508.len x1508.cap), (Value.slice x1509.a x1509.len x1509.cap), (Value.slice x1510.a x1510.len x1510.cap), (Value.slice x1511.a x1511.len x1511.cap)]) fun h1525 =>
 ∃ x1526 : Int, H.rd h1525 (Addr.add (Addr.add b1513 ((x1512).toNat * 1)) 0) (Value.int .i64 x1526) ∧
 Ri h1525 r3 0 fun x1527 =>
 Ri h1525 r3 1 fun x1528 =>
 Rs h1525 r3 2 fun x1529 =>
 Rs h1525 r3 3 fun x1530 =>
 Rs h1525 r3 4 fun x1531 =>
 Rs h1525 r3 5 fun x1532 =>
 Rs h1525 r3 6 fun x1533 =>
 Rs h1525 r3 7 fun x1534 =>
 Rs h1525 r3 8 fun x1535 =>
 VRet h1525 (Value.tuple (List.toArray [(Value.agg (List.toArray [(Value.int .i64 x1527), (Value.int .i64 x1528), (Value.slice x1529.a x1529.len x1529.cap), (Value.slice x1530.a x1530.len x1530.cap), (Value.slice x1531.a x1531.len x1531.cap), (Value.slice x1532.a x1532.len x1532.cap), (Value.slice x1533.a x1533.len x1533.cap), (Value.slice x1534.a x1534.len x1534.cap), (Value.slice x1535.a x1535.len x1535.cap)])), (Value.bool true), (Value.int .i64 x1526), (Value.int .i64 0)])) post)) ∧
 (
 ([(Value.int .i64 x1503), (Value.int .i64 x1504), (Value.slice x1505.a x1505.len x1505.cap), (Value.slice x1506.a x1506.len x1506.cap), (Value.slice x1507.a x1507.len x1507.cap), (Value.slice x1508.a x1508.len x1508.cap), (Value.slice x1509.a x1509.len x1509.cap), (Value.slice x1510.a x1510.len x1510.cap), (Value.slice x1511.a x1511.len x1511.cap)]).length = 9 ∧ (Program.underlying Go.Proofs.Tryd.prog 50).isSome = true ∧
 H.wr h1502 (Addr.mk r3 0 none) ([(Value.int .i64 x1503), (Value.int .i64 x1504), (Value.slice x1505.a x1505.len x1505.cap), (Value.slice x1506.a x1506.len x1506.cap), (Value.slice x1507.a x1507.len x1507.cap), (Value.slice x1508.a x1508.len x1508.cap), (Value.slice x1509.a x1509.len x1509.cap), (Value.slice x1510.a x1510.len x1510.cap), (Value.slice x1511.a x1511.len x1511.cap)]) fun h1536 =>
 ∃ x1537 : Int, H.rd h1536 (Addr.add (Addr.add b1491 ((p1_p).toNat * 1)) 0) (Value.int .i64 x1537) ∧
 ∃ b1538 : Addr, x1308.a = some b1538 ∧ 0 ≤ x1537 ∧ x1537 < ((x1308.len : Nat) : Int) ∧
 ∃ x1539 : Int, H.rd h1536 (Addr.add (Addr.add b1538 ((x1537).toNat * 1)) 0) (Value.int .i64 x1539) ∧
 Ri h1536 r3 0 fun x1540 =>
 Ri h1536 r3 1 fun x1541 =>
 Rs h1536 r3 2 fun x1542 =>
 Rs h1536 r3 3 fun x1543 =>
 Rs h1536 r3 4 fun x1544 =>
 Rs h1536 r3 5 fun x1545 =>
 Rs h1536 r3 6 fun x1546 =>
 Rs h1536 r3 7 fun x1547 =>
 Rs h1536 r3 8 fun x1548 =>
 VRet h1536 (Value.tuple (List.toArray [(Value.agg (List.toArray [(Value.int .i64 x1540), (Value.int .i64 x1541), (Value.slice x1542.a x1542.len x1542.cap), (Value.slice x1543.a x1543.len x1543.cap), (Value.slice x1544.a x1544.len x1544.cap), (Value.slice x1545.a x1545.len x1545.cap), (Value.slice x1546.a x1546.len x1546.cap), (Value.slice x1547.a x1547.len x1547.cap), (Value.slice x1548.a x1548.len x1548.cap)])), (Value.bool true), (Value.int .i64 x1539), (Value.int .i64 0)])) post)) ∧
 (
 ∃ x1549 : Int, H.rd h582 (Addr.add (Addr.add b1491 ((p1_p).toNat * 1)) 0) (Value.int .i64 x1549) ∧
 ∃ b1550 : Addr, x1308.a = some b1550 ∧ 0 ≤ x1549 ∧ x1549 < ((x1308.len : Nat) : Int) ∧
 (
 SemCall Go.Proofs.Tryd.prog 36 (List.toArray [(Value.agg (List.toArray [(Value.int .i64 x1492), (Value.int .i64 x1493), (Value.slice x1494.a x1494.len x1494.cap), (Value.slice x1495.a x1495.len x1495.cap), (Value.slice x1496.a x1496.len x1496.cap), (Value.slice x1497.a x1497.len x1497.cap), (Value.slice x1498.a x1498.len x1498.cap), (Value.slice x1499.a x1499.len x1499.cap), (Value.slice x1500.a x1500.len x1500.cap)])), (Value.int .i64 p1_p), (Value.int .i64 0)]) h582 fun v1551 h1552 =>
 ∃ x1553 : Int, ∃ x1554 : Int, ∃ x1555 : SV, ∃ x1556 : SV, ∃ x1557 : SV, ∃ x1558 : SV, ∃ x1559 : SV, ∃ x1560 : SV, ∃ x1561 : SV, v1551 = (Value.agg (List.toArray [(Value.int .i64 x1553), (Value.int .i64 x1554), (Value.slice x1555.a x1555.len x1555.cap), (Value.slice x1556.a x1556.len x1556.cap), (Value.slice x1557.a x1557.len x1557.cap), (Value.slice x1558.a x1558.len x1558.cap), (Value.slice x1559.a x1559.len x1559.cap), (Value.slice x1560.a x1560.len x1560.cap), (Value.slice x1561.a x1561.len x1561.cap)])) ∧
 (
 ∃ x1562 : Int, H.rd h1552 (Addr.add (Addr.add b1550 ((x1549).toNat * 1)) 0) (Value.int .i64 x1562) ∧
 ([(Value.int .i64 x1553), (Value.int .i64 x1554), (Value.slice x1555.a x1555.len x1555.cap), (Value.slice x1556.a x1556.len x1556.cap), (Value.slice x1557.a x1557.len x1557.cap), (Value.slice x1558.a x1558.len x1558.cap), (Value.slice x1559.a x1559.len x1559.cap), (Value.slice x1560.a x1560.len x1560.cap), (Value.slice x1561.a x1561.len x1561.cap)]).length = 9 ∧ (Program.underlying Go.Proofs.Tryd.prog 50).isSome = true ∧
 H.wr h1552 (Addr.mk r3 0 none) ([(Value.int .i64 x1553), (Value.int .i64 x1554), (Value.slice x1555.a x1555.len x1555.cap), (Value.slice x1556.a x1556.len x1556.cap), (Value.slice x1557.a x1557.len x1557.cap), (Value.slice x1558.a x1558.len x1558.cap), (Value.slice x1559.a x1559.len x1559.cap), (Value.slice x1560.a x1560.len x1560.cap), (Value.slice x1561.a x1561.len x1561.cap)]) fun h1563 =>
 Ri h1563 r3 0 fun x1564 =>
 Ri h1563 r3 1 fun x1565 =>
 Rs h1563 r3 2 fun x1566 =>
 Rs h1563 r3 3 fun x1567 =>
 Rs h1563 r3 4 fun x1568 =>
 Rs h1563 r3 5 fun x1569 =>
 Rs h1563 r3 6 fun x1570 =>
 Rs h1563 r3 7 fun x1571 =>
 Rs h1563 r3 8 fun x1572 =>
 VRet h1563 (Value.tuple (List.toArray [(Value.agg (List.toArray [(Value.int .i64 x1564), (Value.int .i64 x1565), (Value.slice x1566.a x1566.len x1566.cap), (Value.slice x1567.a x1567.len x1567.cap), (Value.slice x1568.a x1568.len x1568.cap), (Value.slice x1569.a x1569.len x1569.cap), (Value.slice x1570.a x1570.len x1570.cap), (Value.slice x1571.a x1571.len x1571.cap), (Value.slice x1572.a x1572.len x1572.cap)])), (Value.bool true), (Value.int .i64 x1562), (Value.int .i64 0)])) post) ∧
 (
 ([(Value.int .i64 x1553), (Value.int .i64 x1554), (Value.slice x1555.a x1555.len x1555.cap), (Value.slice x1556.a x1556.len x1556.cap), (Value.slice x1557.a x1557.len x1557.cap), (Value.slice x1558.a x1558.len x1558.cap), (Value.slice x1559.a x1559.len x1559.cap), (Value.slice x1560.a x1560.len x1560.cap), (Value.slice x1561.a x1561.len x1561.cap)]).length = 9 ∧ (Program.underlying Go.Proofs.Tryd.prog 50).isSome = true ∧
 H.wr h1552 (Addr.mk r3 0 none) ([(Value.int .i64 x1553), (Value.int .i64 x1554), (Value.slice x1555.a x1555.len x1555.cap), (Value.slice x1556.a x1556.len x1556.cap), (Value.slice x1557.a x1557.len x1557.cap), (Value.slice x1558.a x1558.len x1558.cap), (Value.slice x1559.a x1559.len x1559.cap), (Value.slice x1560.a x1560.len x1560.cap), (Value.slice x1561.a x1561.len x1561.cap)]) fun h1573 =>
 ∃ x1574 : Int, H.rd h1573 (Addr.add (Addr.add b1550 ((x1549).toNat * 1)) 0) (Value.int .i64 x1574) ∧
 Ri h1573 r3 0 fun x1575 =>
 Ri h1573 r3 1 fun x1576 =>
 Rs h1573 r3 2 fun x1577 =>
 Rs h1573 r3 3 fun x1578 =>
 Rs h1573 r3 4 fun x1579 =>
 Rs h1573 r3 5 fun x1580 =>
 Rs h1573 r3 6 fun x1581 =>
 Rs h1573 r3 7 fun x1582 =>
 Rs h1573 r3 8 fun x1583 =>
 VRet h1573 (Value.tuple (List.toArray [(Value.agg (List.toArray [(Value.int .i64 x1575), (Value.int .i64 x1576), (Value.slice x1577.a x1577.len x1577.cap), (Value.slice x1578.a x1578.len x1578.cap), (Value.slice x1579.a x1579.len x1579.cap), (Value.slice x1580.a x1580.len x1580.cap), (Value.slice x1581.a x1581.len x1581.cap), (Value.slice x1582.a x1582.len x1582.cap), (Value.slice x1583.a x1583.len x1583.cap)])), (Value.bool true), (Value.int .i64 x1574), (Value.int .i64 0)])) post)) ∧
 (
 ∃ x1584 : Int, H.rd h582 (Addr.add (Addr.add b1550 ((x1549).toNat * 1)) 0) (Value.int .i64 x1584) ∧
 SemCall Go.Proofs.Tryd.prog 36 (List.toArray [(Value.agg (List.toArray [(Value.int .i64 x1492), (Value.int .i64 x1493), (Value.slice x1494.a x1494.len x1494.cap), (Value.slice x1495.a x1495.len x1495.cap), (Value.slice x1496.a x1496.len x1496.cap), (Value.slice x1497.a x1497.len x1497.cap), (Value.slice x1498.a x1498.len x1498.cap), (Value.slice x1499.a x1499.len x1499.cap), (Value.slice x1500.a x1500.len x1500.cap)])), (Value.int .i64 p1_p), (Value.int .i64 0)]) h582 fun v1585 h1586 =>
 ∃ x1587 : Int, ∃ x1588 : Int, ∃ x1589 : SV, ∃ x1590 : SV, ∃ x1591 : SV, ∃ x1592 : SV, ∃ x1593 : SV, ∃ x1594 : SV, ∃ x1595 : SV, v1585 = (Value.agg (List.toArray [(Value.int .i64 x1587), (Value.int .i64 x1588), (Value.slice x1589.a x1589.len x1589.cap), (Value.slice x1590.a x1590.len x1590.cap), (Value.slice x1591.a x1591.len x1591.cap), (Value.slice x1592.a x1592.len x1592.cap), (Value.slice x1593.a x1593.len x1593.cap), (Value.slice x1594.a x1594.len x1594.cap), (Value.slice x1595.a x1595.len x1595.cap)])) ∧
 ([(Value.int .i64 x1587), (Value.int .i64 x1588), (Value.slice x1589.a x1589.len x1589.cap), (Value.slice x1590.a x1590.len x1590.cap), (Value.slice x1591.a x1591.len x1591.cap), (Value.slice x1592.a x1592.len x1592.cap), (Value.slice x1593.a x1593.len x1593.cap), (Value.slice x1594.a x1594.len x1594.cap), (Value.slice x1595.a x1595.len x1595.cap)]).length = 9 ∧ (Program.underlying Go.Proofs.Tryd.prog 50).isSome = true ∧
 H.wr h1586 (Addr.mk r3 0 none) ([(Value.int .i64 x1587), (Value.int .i64 x1588), (Value.slice x1589.a x1589.len x1589.cap), (Value.slice x1590.a x1590.len x1590.cap), (Value.slice x1591.a x1591.len x1591.cap), (Value.slice x1592.a x1592.len x1592.cap), (Value.slice x1593.a x1593.len x1593.cap), (Value.slice x1594.a x1594.len x1594.cap), (Value.slice x1595.a x1595.len x1595.cap)]) fun h1596 =>
 Ri h1596 r3 0 fun x1597 =>
 Ri h1596 r3 1 fun x1598 =>
 Rs h1596 r3 2 fun x1599 =>
 Rs h1596 r3 3 fun x1600 =>
 Rs h1596 r3 4 fun x1601 =>
 Rs h1596 r3 5 fun x1602 =>
 Rs h1596 r3 6 fun x1603 =>
 Rs h1596 r3 7 fun x1604 =>
 Rs h1596 r3 8 fun x1605 =>
 VRet h1596 (Value.tuple (List.toArray [(Value.agg (List.toArray [(Value.int .i64 x1597), (Value.int .i64 x1598), (Value.slice x1599.a x1599.len x1599.cap), (Value.slice x1600.a x1600.len x1600.cap), (Value.slice x1601.a x1601.len x1601.cap), (Value.slice x1602.a x1602.len x1602.cap), (Value.slice x1603.a x1603.len x1603.cap), (Value.slice x1604.a x1604.len x1604.cap), (Value.slice x1605.a x1605.len x1605.cap)])), (Value.bool true), (Value.int .i64 x1584), (Value.int .i64 0)])) post))) ∧
 (
 ∃ x1606 : Int, H.rd h582 (Addr.add (Addr.add b1491 ((p1_p).toNat * 1)) 0) (Value.int .i64 x1606) ∧
 ∃ b1607 : Addr, x1308.a = some b1607 ∧ 0 ≤ x1606 ∧ x1606 < ((x1308.len : Nat) : Int) ∧
 (
 Ri h582 r1 0 fun x1608 =>
 Ri h582 r1 1 fun x1609 =>
 Rs h582 r1 2 fun x1610 =>
 Rs h582 r1 3 fun x1611 =>
 Rs h582 r1 4 fun x1612 =>
 Rs h582 r1 5 fun x1613 =>
 Rs h582 r1 6 fun x1614 =>
 Rs h582 r1 7 fun x1615 =>
 Rs h582 r1 8 fun x1616 =>
 (
 SemCall Go.Proofs.Tryd.prog 36 (List.toArray [(Value.agg (List.toArray [(Value.int .i64 x1608), (Value.int .i64 x1609), (Value.slice x1610.a x1610.len x1610.cap), (Value.slice x1611.a x1611.len x1611.cap), (Value.slice x1612.a x1612.len x1612.cap), (Value.slice x1613.a x1613.len x1613.cap), (Value.slice x1614.a x1614.len x1614.cap), (Value.slice x1615.a x1615.len x1615.cap), (Value.slice x1616.a x1616.len x1616.cap)])), (Value.int .i64 p1_p), (Value.int .i64 0)]) h582 fun v1617 h1618 =>
 ∃ x1619 : Int, ∃ x1620 : Int, ∃ x1621 : SV, ∃ x1622 : SV, ∃ x1623 : SV, ∃ x1624 : SV, ∃ x1625 : SV, ∃ x1626 : SV, ∃ x1627 : SV, v1617 = (Value.agg (List.toArray [(Value.int .i64 x1619), (Value.int .i64 x1620), (Value.slice x1621.a x1621.len x1621.cap), (Value.slice x1622.a x1622.len x1622.cap), (Value.slice x1623.a x1623.len x1623.cap), (Value.slice x1624.a x1624.len x1624.cap), (Value.slice x1625.a x1625.len x1625.cap), (Value.slice x1626.a x1626.len x1626.cap), (Value.slice x1627.a x1627.len x1627.cap)])) ∧
 (
 ∃ x1628 : Int, H.rd h1618 (Addr.add (Addr.add b1607 ((x1606).toNat * 1)) 0) (Value.int .i64 x1628) ∧
 ([(Value.int .i64 x1619), (Value.int .i64 x1620), (Value.slice x1621.a x1621.len x1621.cap), (Value.slice x1622.a x1622.len x1622.cap), (Value.slice x1623.a x1623.len x1623.cap), (Value.slice x1624.a x1624.len x1624.cap), (Value.slice x1625.a x1625.len x1625.cap), (Value.slice x1626.a x1626.len x1626.cap), (Value.slice x1627.a x1627.len x1627.cap)]).length = 9 ∧ (Program.underlying Go.Proofs.Tryd.prog 50).isSome = true ∧
 H.wr h1618 (Addr.mk r3 0 none) ([(Value.int .i64 x1619), (Value.int .i64 x1620), (Value.slice x1621.a x1621.len x1621.cap), (Value.slice x1622.a x1622.len x1622.cap), (Value.slice x1623.a x1623.len x1623.cap), (Value.slice x1624.a x1624.len x1624.cap), (Value.slice x1625.a x1625.len x1625.cap), (Value.slice x1626.a x1626.len x1626.cap), (Value.slice x1627.a x1627.len x1627.cap)]) fun h1629 =>
 Ri h1629 r3 0 fun x1630 =>
 Ri h1629 r3 1 fun x1631 =>
 Rs h1629 r3 2 fun x1632 =>
 Rs h1629 r3 3 fun x1633 =>
 Rs h1629 r3 4 fun x1634 =>
 Rs h1629 r3 5 fun x1635 =>
 Rs h1629 r3 6 fun x1636 =>
 Rs h1629 r3 7 fun x1637 =>
 Rs h1629 r3 8 fun x1638 =>
 VRet h1629 (Value.tuple (List.toArray [(Value.agg (List.toArray [(Value.int .i64 x1630), (Value.int .i64 x1631), (Value.slice x1632.a x1632.len x1632.cap), (Value.slice x1633.a x1633.len x1633.cap), (Value.slice x1634.a x1634.len x1634.cap), (Value.slice x1635.a x1635.len x1635.cap), (Value.slice x1636.a x1636.len x1636.cap), (Value.slice x1637.a x1637.len x1637.cap), (Value.slice x1638.a x1638.len x1638.cap)])), (Value.bool true), (Value.int .i64 x1628), (Value.int .i64 0)])) post) ∧
 (
 ([(Value.int .i64 x1619), (Value.int .i64 x1620), (Value.slice x1621.a x1621.len x1621.cap), (Value.slice x1622.a x1622.len x1622.cap), (Value.slice x1623.a x1623.len x1623.cap), (Value.slice x1624.a x1624.len x1624.cap), (Value.slice x1625.a x1625.len x1625.cap), (Value.slice x1626.a x1626.len x1626.cap), (Value.slice x1627.a x1627.len x1627.cap)]).length = 9 ∧ (Program.underlying Go.Proofs.Tryd.prog 50).isSome = true ∧
 H.wr h1618 (Addr.mk r3 0 none) ([(Value.int .i64 x1619), (Value.int .i64 x1620), (Value.slice x1621.a x1621.len x1621.cap), (Value.slice x1622.a x1622.len x1622.cap), (Value.slice x1623.a x1623.len x1623.cap), (Value.slice x1624.a x1624.len x1624.cap), (Value.slice x1625.a x1625.len x1625.cap), (Value.slice x1626.a x1626.len x1626.cap), (Value.slice x1627.a x1627.len x1627.cap)]) fun h1639 =>
 ∃ x1640 : Int, H.rd h1639 (Addr.add (Addr.add b1607 ((x1606).toNat * 1)) 0) (Value.int .i64 x1640) ∧
 Ri h1639 r3 0 fun x1641 =>
 Ri h1639 r3 1 fun x1642 =>
 Rs h1639 r3 2 fun x1643 =>
 Rs h1639 r3 3 fun x1644 =>
 Rs h1639 r3 4 fun x1645 =>
 Rs h1639 r3 5 fun x1646 =>
 Rs h1639 r3 6 fun x1647 =>
 Rs h1639 r3 7 fun x1648 =>
 Rs h1639 r3 8 fun x1649 =>
 VRet h1639 (Value.tuple (List.toArray [(Value.agg (List.toArray [(Value.int .i64 x1641), (Value.int .i64 x1642), (Value.slice x1643.a x1643.len x1643.cap), (Value.slice x1644.a x1644.len x1644.cap), (Value.slice x1645.a x1645.len x1645.cap), (Value.slice x1646.a x1646.len x1646.cap), (Value.slice x1647.a x1647.len x1647.cap), (Value.slice x1648.a x1648.len x1648.cap), (Value.slice x1649.a x1649.len x1649.cap)])), (Value.bool true), (Value.int .i64 x1640), (Value.int .i64 0)])) post)) ∧
 (
 ∃ x1650 : Int, H.rd h582 (Addr.add (Addr.add b1607 ((x1606).toNat * 1)) 0) (Value.int .i64 x1650) ∧
 SemCall Go.Proofs.Tryd.prog 36 (List.toArray [(Value.agg (List.toArray [(Value.int .i64 x1608), (Value.int .i64 x1609), (Value.slice x1610.a x1610.len x1610.cap), (Value.slice x1611.a x1611.len x1611.cap), (Value.slice x1612.a x1612.len x1612.cap), (Value.slice x1613.a x1613.len x1613.cap), (Value.slice x1614.a x1614.len x1614.cap), (Value.slice x1615.a x1615.len x1615.cap), (Value.slice x1616.a x1616.len x1616.cap)])), (Value.int .i64 p1_p), (Value.int .i64 0)]) h582 fun v1651 h1652 =>
 ∃ x1653 : Int, ∃ x1654 : Int, ∃ x1655 : SV, ∃ x1656 : SV, ∃ x1657 : SV, ∃ x1658 : SV, ∃ x1659 : SV, ∃ x1660 : SV, ∃ x1661 : SV, v1651 = (Value.agg (List.toArray [(Value.int .i64 x1653), (Value.int .i64 x1654), (Value.slice x1655.a x1655.len x1655.cap), (Value.slice x1656.a x1656.len x1656.cap), (Value.slice x1657.a x1657.len x1657.cap), (Value.slice x1658.a x1658.len x1658.cap), (Value.slice x1659.a x1659.len x1659.cap), (Value.slice x1660.a x1660.len x1660.cap), (Value.slice x1661.a x1661.len x1661.cap)])) ∧
 ([(Value.int .i64 x1653), (Value.int .i64 x1654), (Value.slice x1655.a x1655.len x1655.cap), (Value.slice x1656.a x1656.len x1656.cap), (Value.slice x1657.a x1657.len x1657.cap), (Value.slice x1658.a x1658.len x1658.cap), (Value.slice x1659.a x1659.len x1659.cap), (Value.slice x1660.a x1660.len x1660.cap), (Value.slice x1661.a x1661.len x1661.cap)]).length = 9 ∧ (Program.underlying Go.Proofs.Tryd.prog 50).isSome = true ∧
 H.wr h1652 (Addr.mk r3 0 none) ([(Value.int .i64 x1653), (Value.int .i64 x1654), (Value.slice x1655.a x1655.len x1655.cap), (Value.slice x1656.a x1656.len x1656.cap), (Value.slice x1657.a x1657.len x1657.cap), (Value.slice x1658.a x1658.len x1658.cap), (Value.slice x1659.a x1659.len x1659.cap), (Value.slice x1660.a x1660.len x1660.cap), (Value.slice x1661.a x1661.len x1661.cap)]) fun h1662 =>
 Ri h1662 r3 0 fun x1663 =>
 Ri h1662 r3 1 fun x1664 =>
 Rs h1662 r3 2 fun x1665 =>
 Rs h1662 r3 3 fun x1666 =>
 Rs h1662 r3 4 fun x1667 =>
 Rs h1662 r3 5 fun x1668 =>
 Rs h1662 r3 6 fun x1669 =>
 Rs h1662 r3 7 fun x1670 =>
 Rs h1662 r3 8 fun x1671 =>
 VRet h1662 (Value.tuple (List.toArray [(Value.agg (List.toArray [(Value.int .i64 x1663), (Value.int .i64 x1664), (Value.slice x1665.a x1665.len x1665.cap), (Value.slice x1666.a x1666.len x1666.cap), (Value.slice x1667.a x1667.len x1667.cap), (Value.slice x1668.a x1668.len x1668.cap), (Value.slice x1669.a x1669.len x1669.cap), (Value.slice x1670.a x1670.len x1670.cap), (Value.slice x1671.a x1671.len x1671.cap)])), (Value.bool true), (Value.int .i64 x1650), (Value.int .i64 0)])) post)) ∧
 (
 ∃ x1672 : Int, H.rd h582 (Addr.add (Addr.add b1607 ((x1606).toNat * 1)) 0) (Value.int .i64 x1672) ∧
 Ri h582 r1 0 fun x1673 =>
 Ri h582 r1 1 fun x1674 =>
 Rs h582 r1 2 fun x1675 =>
 Rs h582 r1 3 fun x1676 =>
 Rs h582 r1 4 fun x1677 =>
 Rs h582 r1 5 fun x1678 =>
 Rs h582 r1 6 fun x1679 =>
 Rs h582 r1 7 fun x1680 =>
 Rs h582 r1 8 fun x1681 =>
 SemCall Go.Proofs.Tryd.prog 36 (List.toArray [(Value.agg (List.toArray [(Value.int .i64 x1673), (Value.int .i64 x1674), (Value.slice x1675.a x1675.len x1675.cap), (Value.slice x1676.a x1676.len x1676.cap), (Value.slice x1677.a x1677.len x1677.cap), (Value.slice x1678.a x1678.len x1678.cap), (Value.slice x1679.a x1679.len x1679.cap), (Value.slice x1680.a x1680.len x1680.cap), (Value.slice x1681.a x1681.len x1681.cap)])), (Value.int .i64 p1_p), (Value.int .i64 0)]) h582 fun v1682 h1683 =>
 ∃ x1684 : Int, ∃ x1685 : Int, ∃ x1686 : SV, ∃ x1687 : SV, ∃ x1688 : SV, ∃ x1689 : SV, ∃ x1690 : SV, ∃ x1691 : SV, ∃ x1692 : SV, v1682 = (Value.agg (List.toArray [(Value.int .i64 x1684), (Value.int .i64 x1685), (Value.slice x1686.a x1686.len x1686.cap), (Value.slice x1687.a x1687.len x1687.cap), (Value.slice x1688.a x1688.len x1688.cap), (Value.slice x1689.a x1689.len x1689.cap), (Value.slice x1690.a x1690.len x1690.cap), (Value.slice x1691.a x1691.len x1691.cap), (Value.slice x1692.a x1692.len x1692.cap)])) ∧
 ([(Value.int .i64 x1684), (Value.int .i64 x1685), (Value.slice x1686.a x1686.len x1686.cap), (Value.slice x1687.a x1687.len x1687.cap), (Value.slice x1688.a x1688.len x1688.cap), (Value.slice x1689.a x1689.len x1689.cap), (Value.slice x1690.a x1690.len x1690.cap), (Value.slice x1691.a x1691.len x1691.cap), (Value.slice x1692.a x1692.len x1692.cap)]).length = 9 ∧ (Program.underlying Go.Proofs.Tryd.prog 50).isSome = true ∧
 H.wr h1683 (Addr.mk r3 0 none) ([(Value.int .i64 x1684), (Value.int .i64 x1685), (Value.slice x1686.a x1686.len x1686.cap), (Value.slice x1687.a x1687.len x1687.cap), (Value.slice x1688.a x1688.len x1688.cap), (Value.slice x1689.a x1689.len x1689.cap), (Value.slice x1690.a x1690.len x1690.cap), (Value.slice x1691.a x1691.len x1691.cap), (Value.slice x1692.a x1692.len x1692.cap)]) fun h1693 =>
 Ri h1693 r3 0 fun x1694 =>
 Ri h1693 r3 1 fun x1695 =>
 Rs h1693 r3 2 fun x1696 =>
 Rs h1693 r3 3 fun x1697 =>
 Rs h1693 r3 4 fun x1698 =>
 Rs h1693 r3 5 fun x1699 =>
 Rs h1693 r3 6 fun x1700 =>
 Rs h1693 r3 7 fun x1701 =>
 Rs h1693 r3 8 fun x1702 =>
 VRet h1693 (Value.tuple (List.toArray [(Value.agg (List.toArray [(Value.int .i64 x1694), (Value.int .i64 x1695), (Value.slice x1696.a x1696.len x1696.cap), (Value.slice x1697.a x1697.len x1697.cap), (Value.slice x1698.a x1698.len x1698.cap), (Value.slice x1699.a x1699.len x1699.cap), (Value.slice x1700.a x1700.len x1700.cap), (Value.slice x1701.a x1701.len x1701.cap), (Value.slice x1702.a x1702.len x1702.cap)])), (Value.bool true), (Value.int .i64 x1672), (Value.int .i64 0)])) post)))) ∧
 (
 ∃ x1703 : SV, H.rd h582 (Addr.add (Addr.add (Addr.mk r1 0 none) 8) 0) (Value.slice x1703.a x1703.len x1703.cap) ∧
 ∃ b1704 : Addr, x1703.a = some b1704 ∧ 0 ≤ p1_p ∧ p1_p < ((x1703.len : Nat) : Int) ∧
 (
 Ri h582 r1 0 fun x1705 =>
 Ri h582 r1 1 fun x1706 =>
 Rs h582 r1 2 fun x1707 =>
 Rs h582 r1 3 fun x1708 =>
 Rs h582 r1 4 fun x1709 =>
 Rs h582 r1 5 fun x1710 =>
 Rs h582 r1 6 fun x1711 =>
 Rs h582 r1 7 fun x1712 =>
 Rs h582 r1 8 fun x1713 =>
 (
 SemCall Go.Proofs.Tryd.prog 36 (List.toArray [(Value.agg (List.toArray [(Value.int .i64 x1705), (Value.int .i64 x1706), (Value.slice x1707.a x1707.len x1707.cap), (Value.slice x1708.a x1708.len x1708.cap), (Value.slice x1709.a x1709.len x1709.cap), (Value.slice x1710.a x1710.len x1710.cap), (Value.slice x1711.a x1711.len x1711.cap), (Value.slice x1712.a x1712.len x1712.cap), (Value.slice x1713.a x1713.len x1713.cap)])), (Value.int .i64 p1_p), (Value.int .i64 0)]) h582 fun v1714 h1715 =>
 ∃ x1716 : Int, ∃ x1717 : Int, ∃ x1718 : SV, ∃ x1719 : SV, ∃ x1720 : SV, ∃ x1721 : SV, ∃ x1722 : SV, ∃ x1723 : SV, ∃ x1724 : SV, v1714 = (Value.agg (List.toArray [(Value.int .i64 x1716), (Value.int .i64 x1717), (Value.slice x1718.a x1718.len x1718.cap), (Value.slice x1719.a x1719.len x1719.cap), (Value.slice x1720.a x1720.len x1720.cap), (Value.slice x1721.a x1721.len x1721.cap), (Value.slice x1722.a x1722.len x1722.cap), (Value.slice x1723.a x1723.len x1723.cap), (Value.slice x1724.a x1724.len x1724.cap)])) ∧
 (
 ∃ x1725 : SV, H.rd h1715 (Addr.add (Addr.add (Addr.mk r1 0 none) 2) 0) (Value.slice x1725.a x1725.len x1725.cap) ∧
 (
 ∃ x1726 : Int, H.rd h1715 (Addr.add (Addr.add b1704 ((p1_p).toNat * 1)) 0) (Value.int .i64 x1726) ∧
 ∃ b1727 : Addr, x1725.a = some b1727 ∧ 0 ≤ x1726 ∧ x1726 < ((x1725.len : Nat) : Int) ∧
 (
 ∃ x1728 : Int, H.rd h1715 (Addr.add (Addr.add b1727 ((x1726).toNat * 1)) 0) (Value.int .i64 x1728) ∧
 ([(Value.int .i64 x1716), (Value.int .i64 x1717), (Value.slice x1718.a x1718.len x1718.cap), (Value.slice x1719.a x1719.len x1719.cap), (Value.slice x1720.a x1720.len x1720.cap), (Value.slice x1721.a x1721.len x1721.cap), (Value.slice x1722.a x1722.len x1722.cap), (Value.slice x1723.a x1723.len x1723.cap), (Value.slice x1724.a x1724.len x1724.cap)]).length = 9 ∧ (Program.underlying Go.Proofs.Tryd.prog 50).isSome = true ∧
 H.wr h1715 (Addr.mk r3 0 none) ([(Value.int .i64 x1716), (Value.int .i64 x1717), (Value.slice x1718.a x1718.len x1718.cap), (Value.slice x1719.a x1719.len x1719.cap), (Value.slice x1720.a x1720.len x1720.cap), (Value.slice x1721.a x1721.len x1721.cap), (Value.slice x1722.a x1722.len x1722.cap), (Value.slice x1723.a x1723.len x1723.cap), (Value.slice x1724.a x1724.len x1724.cap)]) fun h1729 =>
 Ri h1729 r3 0 fun x1730 =>
 Ri h1729 r3 1 fun x1731 =>
 Rs h1729 r3 2 fun x1732 =>
 Rs h1729 r3 3 fun x1733 =>
 Rs h1729 r3 4 fun x1734 =>
 Rs h1729 r3 5 fun x1735 =>
 Rs h1729 r3 6 fun x1736 =>
 Rs h1729 r3 7 fun x1737 =>
 Rs h1729 r3 8 fun x1738 =>
 VRet h1729 (Value.tuple (List.toArray [(Value.agg (List.toArray [(Value.int .i64 x1730), (Value.int .i64 x1731), (Value.slice x1732.a x1732.len x1732.cap), (Value.slice x1733.a x1733.len x1733.cap), (Value.slice x1734.a x1734.len x1734.cap), (Value.slice x1735.a x1735.len x1735.cap), (Value.slice x1736.a x1736.len x1736.cap), (Value.slice x1737.a x1737.len x1737.cap), (Value.slice x1738.a x1738.len x1738.cap)])), (Value.bool true), (Value.int .i64 x1728), (Value.int .i64 0)])) post) ∧
 (
 ([(Value.int .i64 x1716), (Value.int .i64 x1717), (Value.slice x1718.a x1718.len x1718.cap), (Value.slice x1719.a x1719.len x1719.cap), (Value.slice x1720.a x1720.len x1720.cap), (Value.slice x1721.a x1721.len x1721.cap), (Value.slice x1722.a x1722.len x1722.cap), (Value.slice x1723.a x1723.len x1723.cap), (Value.slice x1724.a x1724.len x1724.cap)]).length = 9 ∧ (Program.underlying Go.Proofs.Tryd.prog 50).isSome = true ∧
 H.wr h1715 (Addr.mk r3 0 none) ([(Value.int .i64 x1716), (Value.int .i64 x1717), (Value.slice x1718.a x1718.len x1718.cap), (Value.slice x1719.a x1719.len x1719.cap), (Value.slice x1720.a x1720.len x1720.cap), (Value.slice x1721.a x1721.len x1721.cap), (Value.slice x1722.a x1722.len x1722.cap), (Value.slice x1723.a x1723.len x1723.cap), (Value.slice x1724.a x1724.len x1724.cap)]) fun h1739 =>
 ∃ x1740 : Int, H.rd h1739 (Addr.add (Addr.add b1727 ((x1726).toNat * 1)) 0) (Value.int .i64 x1740) ∧
 Ri h1739 r3 0 fun x1741 =>
 Ri h1739 r3 1 fun x1742 =>
 Rs h1739 r3 2 fun x1743 =>
 Rs h1739 r3 3 fun x1744 =>
 Rs h1739 r3 4 fun x1745 =>
 Rs h1739 r3 5 fun x1746 =>
 Rs h1739 r3 6 fun x1747 =>
 Rs h1739 r3 7 fun x1748 =>
 Rs h1739 r3 8 fun x1749 =>
 VRet h1739 (Value.tuple (List.toArray [(Value.agg (List.toArray [(Value.int .i64 x1741), (Value.int .i64 x1742), (Value.slice x1743.a x1743.len x1743.cap), (Value.slice x1744.a x1744.len x1744.cap), (Value.slice x1745.a x1745.len x1745.cap), (Value.slice x1746.a x1746.len x1746.cap), (Value.slice x1747.a x1747.len x1747.cap), (Value.slice x1748.a x1748.len x1748.cap), (Value.slice x1749.a x1749.len x1749.cap)])), (Value.bool true), (Value.int .i64 x1740), (Value.int .i64 0)])) post)) ∧
 (
 ([(Value.int .i64 x1716), (Value.int .i64 x1717), (Value.slice x1718.a x1718.len x1718.cap), (Value.slice x1719.a x1719.len x1719.cap), (Value.slice x1720.a x1720.len x1720.cap), (Value.slice x1721.a x1721.len x1721.cap), (Value.slice x1722.a x1722.len x1722.cap), (Value.slice x1723.a x1723.len x1723.cap), (Value.slice x1724.a x1724.len x1724.cap)]).length = 9 ∧ (Program.underlying Go.Proofs.Tryd.prog 50).isSome = true ∧
 H.wr h1715 (Addr.mk r3 0 none) ([(Value.int .i64 x1716), (Value.int .i64 x1717), (Value.slice x1718.a x1718.len x1718.cap), (Value.slice x1719.a x1719.len x1719.cap), (Value.slice x1720.a x1720.len x1720.cap), (Value.slice x1721.a x1721.len x1721.cap), (Value.slice x1722.a x1722.len x1722.cap), (Value.slice x1723.a x1723.len x1723.cap), (Value.slice x1724.a x1724.len x1724.cap)]) fun h1750 =>
 ∃ x1751 : Int, H.rd h1750 (Addr.add (Addr.add b1704 ((p1_p).toNat * 1)) 0) (Value.int .i64 x1751) ∧
 ∃ b1752 : Addr, x1725.a = some b1752 ∧ 0 ≤ x1751 ∧ x1751 < ((x1725.len : Nat) : Int) ∧
 ∃ x1753 : Int, H.rd h1750 (Addr.add (Addr.add b1752 ((x1751).toNat * 1)) 0) (Value.int .i64 x1753) ∧
 Ri h1750 r3 0 fun x1754 =>
 Ri h1750 r3 1 fun x1755 =>
 Rs h1750 r3 2 fun x1756 =>
 Rs h1750 r3 3 fun x1757 =>
 Rs h1750 r3 4 fun x1758 =>
 Rs h1750 r3 5 fun x1759 =>
 Rs h1750 r3 6 fun x1760 =>
 Rs h1750 r3 7 fun x1761 =>
 Rs h1750 r3 8 fun x1762 =>
 VRet h1750 (Value.tuple (List.toArray [(Value.agg (List.toArray [(Value.int .i64 x1754), (Value.int .i64 x1755), (Value.slice x1756.a x1756.len x1756.cap), (Value.slice x1757.a x1757.len x1757.cap), (Value.slice x1758.a x1758.len x1758.cap), (Value.slice x1759.a x1759.len x1759.cap), (Value.slice x1760.a x1760.len x1760.cap), (Value.slice x1761.a x1761.len x1761.cap), (Value.slice x1762.a x1762.len x1762.cap)])), (Value.bool true), (Value.int .i64 x1753), (Value.int .i64 0)])) post)) ∧
 (
 (
 ∃ x1763 : Int, H.rd h1715 (Addr.add (Addr.add b1704 ((p1_p).toNat * 1)) 0) (Value.int .i64 x1763) ∧
 (
 ∃ x1764 : SV, H.rd h1715 (Addr.add (Addr.add (Addr.mk r1 0 none) 2) 0) (Value.slice x1764.a x1764.len x1764.cap) ∧
 ∃ b1765 : Addr, x1764.a = some b1765 ∧ 0 ≤ x1763 ∧ x1763 < ((x1764.len : Nat) : Int) ∧
 (
 ∃ x1766 : Int, H.rd h1715 (Addr.add (Addr.add b1765 ((x1763).toNat * 1)) 0) (Value.int .i64 x1766) ∧
 ([(Value.int .i64 x1716), (Value.int .i64 x1717), (Value.slice x1718.a x1718.len x1718.cap), (Value.slice x1719.a x1719.len x1719.cap), (Value.slice x1720.a x1720.len x1720.cap), (Value.slice x1721.a x1721.len x1721.cap), (Value.slice x1722.a x1722.len x1722.cap), (Value.slice x1723.a x1723.len x1723.cap), (Value.slice x1724.a x1724.len x1724.cap)]).length = 9 ∧ (Program.underlying Go.Proofs.Tryd.prog 50).isSome = true ∧
 H.wr h1715 (Addr.mk r3 0 none) ([(Value.int .i64 x1716), (Value.int .i64 x1717), (Value.slice x1718.a x1718.len x1718.cap), (Value.slice x1719.a x1719.len x1719.cap), (Value.slice x1720.a x1720.len x1720.cap), (Value.slice x1721.a x1721.len x1721.cap), (Value.slice x1722.a x1722.len x1722.cap), (Value.slice x1723.a x1723.len x1723.cap), (Value.slice x1724.a x1724.len x1724.cap)]) fun h1767 =>
 Ri h1767 r3 0 fun x1768 =>
 Ri h1767 r3 1 fun x1769 =>
 Rs h1767 r3 2 fun x1770 =>
 Rs h1767 r3 3 fun x1771 =>
 Rs h1767 r3 4 fun x1772 =>
 Rs h1767 r3 5 fun x1773 =>
 Rs h1767 r3 6 fun x1774 =>
 Rs h1767 r3 7 fun x1775 =>
 Rs h1767 r3 8 fun x1776 =>
 VRet h1767 (Value.tuple (List.toArray [(Value.agg (List.toArray [(Value.int .i64 x1768), (Value.int .i64 x1769), (Value.slice x1770.a x1770.len x1770.cap), (Value.slice x1771.a x1771.len x1771.cap), (Value.slice x1772.a x1772.len x1772.cap), (Value.slice x1773.a x1773.len x1773.cap), (Value.slice x1774.a x1774.len x1774.cap), (Value.slice x1775.a x1775.len x1775.cap), (Value.slice x1776.a x1776.len x1776.cap)])), (Value.bool true), (Value.int .i64 x1766), (Value.int .i64 0)])) post) ∧
 (
 ([(Value.int .i64 x1716), (Value.int .i64 x1717), (Value.slice x1718.a x1718.len x1718.cap), (Value.slice x1719.a x1719.len x1719.cap), (Value.slice x1720.a x1720.len x1720.cap), (Value.slice x1721.a x1721.len x1721.cap), (Value.slice x1722.a x1722.len x1722.cap), (Value.slice x1723.a x1723.len x1723.cap), (Value.slice x1724.a x1724.len x1724.cap)]).length = 9 ∧ (Program.underlying Go.Proofs.Tryd.prog 50).isSome = true ∧
 H.wr h1715 (Addr.mk r3 0 none) ([(Value.int .i64 x1716), (Value.int .i64 x1717), (Value.slice x1718.a x1718.len x1718.cap), (Value.slice x1719.a x1719.len x1719.cap), (Value.slice x1720.a x1720.len x1720.cap), (Value.slice x1721.a x1721.len x1721.cap), (Value.slice x1722.a x1722.len x1722.cap), (Value.slice x1723.a x1723.len x1723.cap), (Value.slice x1724.a x1724.len x1724.cap)]) fun h1777 =>
 ∃ x1778 : Int, H.rd h1777 (Addr.add (Addr.add b1765 ((x1763).toNat * 1)) 0) (Value.int .i64 x1778) ∧
 Ri h1777 r3 0 fun x1779 =>
 Ri h1777 r3 1 fun x1780 =>
 Rs h1777 r3 2 fun x1781 =>
 Rs h1777 r3 3 fun x1782 =>
 Rs h1777 r3 4 fun x1783 =>
 Rs h1777 r3 5 fun x1784 =>
 Rs h1777 r3 6 fun x1785 =>
 Rs h1777 r3 7 fun x1786 =>
 Rs h1777 r3 8 fun x1787 =>
 VRet h1777 (Value.tuple (List.toArray [(Value.agg (List.toArray [(Value.int .i64 x1779), (Value.int .i64 x1780), (Value.slice x1781.a x1781.len x1781.cap), (Value.slice x1782.a x1782.len x1782.cap), (Value.slice x1783.a x1783.len x1783.cap), (Value.slice x1784.a x1784.len x1784.cap), (Value.slice x1785.a x1785.len x1785.cap), (Value.slice x1786.a x1786.len x1786.cap), (Value.slice x1787.a x1787.len x1787.cap)])), (Value.bool true), (Value.int .i64 x1778), (Value.int .i64 0)])) post)) ∧
 (
 ([(Value.int .i64 x1716), (Value.int .i64 x1717), (Value.slice x1718.a x1718.len x1718.cap), (Value.slice x1719.a x1719.len x1719.cap), (Value.slice x1720.a x1720.len x1720.cap), (Value.slice x1721.a x1721.len x1721.cap), (Value.slice x1722.a x1722.len x1722.cap), (Value.slice x1723.a x1723.len x1723.cap), (Value.slice x1724.a x1724.len x1724.cap)]).length = 9 ∧ (Program.underlying Go.Proofs.Tryd.prog 50).isSome = true ∧
 H.wr h1715 (Addr.mk r3 0 none) ([(Value.int .i64 x1716), (Value.int .i64 x1717), (Value.slice x1718.a x1718.len x1718.cap), (Value.slice x1719.a x1719.len x1719.cap), (Value.slice x1720.a x1720.len x1720.cap), (Value.slice x1721.a x1721.len x1721.cap), (Value.slice x1722.a x1722.len x1722.cap), (Value.slice x1723.a x1723.len x1723.cap), (Value.slice x1724.a x1724.len x1724.cap)]) fun h1788 =>
 ∃ x1789 : SV, H.rd h1788 (Addr.add (Addr.add (Addr.mk r1 0 none) 2) 0) (Value.slice x1789.a x1789.len x1789.cap) ∧
 ∃ b1790 : Addr, x1789.a = some b1790 ∧ 0 ≤ x1763 ∧ x1763 < ((x1789.len : Nat) : Int) ∧
 ∃ x1791 : Int, H.rd h1788 (Addr.add (Addr.add b1790 ((x1763).toNat * 1)) 0) (Value.int .i64 x1791) ∧
 Ri h1788 r3 0 fun x1792 =>
 Ri h1788 r3 1 fun x1793 =>
 Rs h1788 r3 2 fun x1794 =>
 Rs h1788 r3 3 fun x1795 =>
 Rs h1788 r3 4 fun x1796 =>
 Rs h1788 r3 5 fun x1797 =>
 Rs h1788 r3 6 fun x1798 =>
 Rs h1788 r3 7 fun x1799 =>
 Rs h1788 r3 8 fun x1800 =>
 VRet h1788 (Value.tuple (List.toArray [(Value.agg (List.toArray [(Value.int .i64 x1792), (Value.int .i64 x1793), (Value.slice x1794.a x1794.len x1794.cap), (Value.slice x1795.a x1795.len x1795.cap), (Value.slice x1796.a x1796.len x1796.cap), (Value.slice x1797.a x1797.len x1797.cap), (Value.slice x1798.a x1798.len x1798.cap), (Value.slice x1799.a x1799.len x1799.cap), (Value.slice x1800.a x1800.len x1800.cap)])), (Value.bool true), (Value.int .i64 x1791), (Value.int .i64 0)])) post)) ∧
 (
 ([(Value.int .i64 x1716), (Value.int .i64 x1717), (Value.slice x1718.a x1718.len x1718.cap), (Value.slice x1719.a x1719.len x1719.cap), (Value.slice x1720.a x1720.len x1720.cap), (Value.slice x1721.a x1721.len x1721.cap), (Value.slice x1722.a x1722.len x1722.cap), (Value.slice x1723.a x1723.len x1723.cap), (Value.slice x1724.a x1724.len x1724.cap)]).length = 9 ∧ (Program.underlying Go.Proofs.Tryd.prog 50).isSome = true ∧
 H.wr h1715 (Addr.mk r3 0 none) ([(Value.int .i64 x1716), (Value.int .i64 x1717), (Value.slice x1718.a x1718.len x1718.cap), (Value.slice x1719.a x1719.len x1719.cap), (Value.slice x1720.a x1720.len x1720.cap), (Value.slice x1721.a x1721.len x1721.cap), (Value.slice x1722.a x1722.len x1722.cap), (Value.slice x1723.a x1723.len x1723.cap), (Value.slice x1724.a x1724.len x1724.cap)]) fun h1801 =>
 (
 ∃ x1802 : SV, H.rd h1801 (Addr.add (Addr.add (Addr.mk r1 0 none) 2) 0) (Value.slice x1802.a x1802.len x1802.cap) ∧
 ∃ x1803 : Int, H.rd h1801 (Addr.add (Addr.add b1704 ((p1_p).toNat * 1)) 0) (Value.int .i64 x1803) ∧
 ∃ b1804 : Addr, x1802.a = some b1804 ∧ 0 ≤ x1803 ∧ x1803 < ((x1802.len : Nat) : Int) ∧
 ∃ x1805 : Int, H.rd h1801 (Addr.add (Addr.add b1804 ((x1803).toNat * 1)) 0) (Value.int .i64 x1805) ∧
 Ri h1801 r3 0 fun x1806 =>
 Ri h1801 r3 1 fun x1807 =>
 Rs h1801 r3 2 fun x1808 =>
 Rs h1801 r3 3 fun x1809 =>
 Rs h1801 r3 4 fun x1810 =>
 Rs h1801 r3 5 fun x1811 =>
 Rs h1801 r3 6 fun x1812 =>
 Rs h1801 r3 7 fun x1813 =>
 Rs h1801 r3 8 fun x1814 =>
 VRet h1801 (Value.tuple (List.toArray [(Value.agg (List.toArray [(Value.int .i64 x1806), (Value.int .i64 x1807), (Value.slice x1808.a x1808.len x1808.cap), (Value.slice x1809.a x1809.len x1809.cap), (Value.slice x1810.a x1810.len x1810.cap), (Value.slice x1811.a x1811.len x1811.cap), (Value.slice x1812.a x1812.len x1812.cap), (Value.slice x1813.a x1813.len x1813.cap), (Value.slice x1814.a x1814.len x1814.cap)])), (Value.bool true), (Value.int .i64 x1805), (Value.int .i64 0)])) post) ∧
 (
 ∃ x1815 : Int, H.rd h1801 (Addr.add (Addr.add b1704 ((p1_p).toNat * 1)) 0) (Value.int .i64 x1815) ∧
 ∃ x1816 : SV, H.rd h1801 (Addr.add (Addr.add (Addr.mk r1 0 none) 2) 0) (Value.slice x1816.a x1816.len x1816.cap) ∧
 ∃ b1817 : Addr, x1816.a = some b1817 ∧ 0 ≤ x1815 ∧ x1815 < ((x1816.len : Nat) : Int) ∧
 ∃ x1818 : Int, H.rd h1801 (Addr.add (Addr.add b1817 ((x1815).toNat * 1)) 0) (Value.int .i64 x1818) ∧
 Ri h1801 r3 0 fun x1819 =>
 Ri h1801 r3 1 fun x1820 =>
 Rs h1801 r3 2 fun x1821 =>
 Rs h1801 r3 3 fun x1822 =>
 Rs h1801 r3 4 fun x1823 =>
 Rs h1801 r3 5 fun x1824 =>
 Rs h1801 r3 6 fun x1825 =>
 Rs h1801 r3 7 fun x1826 =>
 Rs h1801 r3 8 fun x1827 =>
 VRet h1801 (Value.tuple (List.toArray [(Value.agg (List.toArray [(Value.int .i64 x1819), (Value.int .i64 x1820), (Value.slice x1821.a x1821.len x1821.cap), (Value.slice x1822.a x1822.len x1822.cap), (Value.slice x1823.a x1823.len x1823.cap), (Value.slice x1824.a x1824.len x1824.cap), (Value.slice x1825.a x1825.len x1825.cap), (Value.slice x1826.a x1826.len x1826.cap), (Value.slice x1827.a x1827.len x1827.cap)])), (Value.bool true), (Value.int .i64 x1818), (Value.int .i64 0)])) post)))) ∧
 (
 (
 ∃ x1828 : SV, H.rd h582 (Addr.add (Addr.add (Addr.mk r1 0 none) 2) 0) (Value.slice x1828.a x1828.len x1828.cap) ∧
 (
 SemCall Go.Proofs.Tryd.prog 36 (List.toArray [(Value.agg (List.toArray [(Value.int .i64 x1705), (Value.int .i64 x1706), (Value.slice x1707.a x1707.len x1707.cap), (Value.slice x1708.a x1708.len x1708.cap), (Value.slice x1709.a x1709.len x1709.cap), (Value.slice x1710.a x1710.len x1710.cap), (Value.slice x1711.a x1711.len x1711.cap), (Value.slice x1712.a x1712.len x1712.cap), (Value.slice x1713.a x1713.len x1713.cap)])), (Value.int .i64 p1_p), (Value.int .i64 0)]) h582 fun v1829 h1830 =>
 ∃ x1831 : Int, ∃ x1832 : Int, ∃ x1833 : SV, ∃ x1834 : SV, ∃ x1835 : SV, ∃ x1836 : SV, ∃ x1837 : SV, ∃ x1838 : SV, ∃ x1839 : SV, v1829 = (Value.agg (List.toArray [(Value.int .i64 x1831), (Value.int .i64 x1832), (Value.slice x1833.a x1833.len x1833.cap), (Value.slice x1834.a x1834.len x1834.cap), (Value.slice x1835.a x1835.len x1835.cap), (Value.slice x1836.a x1836.len x1836.cap), (Value.slice x1837.a x1837.len x1837.cap), (Value.slice x1838.a x1838.len x1838.cap), (Value.slice x1839.a x1839.len x1839.cap)])) ∧
 (
 ∃ x1840 : Int, H.rd h1830 (Addr.add (Addr.add b1704 ((p1_p).toNat * 1)) 0) (Value.int .i64 x1840) ∧
 ∃ b1841 : Addr, x1828.a = some b1841 ∧ 0 ≤ x1840 ∧ x1840 < ((x1828.len : Nat) : Int) ∧
 (
 ∃ x1842 : Int, H.rd h1830 (Addr.add (Addr.add b1841 ((x1840).toNat * 1)) 0) (Value.int .i64 x1842) ∧
 ([(Value.int .i64 x1831), (Value.int .i64 x1832), (Value.slice x1833.a x1833.len x1833.cap), (Value.slice x1834.a x1834.len x1834.cap), (Value.slice x1835.a x1835.len x1835.cap), (Value.slice x1836.a x1836.len x1836.cap), (Value.slice x1837.a x1837.len x1837.cap), (Value.slice x1838.a x1838.len x1838.cap), (Value.slice x1839.a x1839.len x1839.cap)]).length = 9 ∧ (Program.underlying Go.Proofs.Tryd.prog 50).isSome = true ∧
 H.wr h1830 (Addr.mk r3 0 none) ([(Value.int .i64 x1831), (Value.int .i64 x1832), (Value.slice x1833.a x1833.len x1833.cap), (Value.slice x1834.a x1834.len x1834.cap), (Value.slice x1835.a x1835.len x1835.cap), (Value.slice x1836.a x1836.len x1836.cap), (Value.slice x1837.a x1837.len x1837.cap), (Value.slice x1838.a x1838.len x1838.cap), (Value.slice x1839.a x1839.len x1839.cap)]) fun h1843 =>
 Ri h1843 r3 0 fun x1844 =>
 Ri h1843 r3 1 fun x1845 =>
 Rs h1843 r3 2 fun x1846 =>
 Rs h1843 r3 3 fun x1847 =>
 Rs h1843 r3 4 fun x1848 =>
 Rs h1843 r3 5 fun x1849 =>
 Rs h1843 r3 6 fun x1850 =>
 Rs h1843 r3 7 fun x1851 =>
 Rs h1843 r3 8 fun x1852 =>
 VRet h1843 (Value.tuple (List.toArray [(Value.agg (List.toArray [(Value.int .i64 x1844), (Value.int .i64 x1845), (Value.slice x1846.a x1846.len x1846.cap), (Value.slice x1847.a x1847.len x1847.cap), (Value.slice x1848.a x1848.len x1848.cap), (Value.slice x1849.a x1849.len x1849.cap), (Value.slice x1850.a x1850.len x1850.cap), (Value.slice x1851.a x1851.len x1851.cap), (Value.slice x1852.a x1852.len x1852.cap)])), (Value.bool true), (Value.int .i64 x1842), (Value.int .i64 0)])) post) ∧
 (
 ([(Value.int .i64 x1831), (Value.int .i64 x1832), (Value.slice x1833.a x1833.len x1833.cap), (Value.slice x1834.a x1834.len x1834.cap), (Value.slice x1835.a x1835.len x1835.cap), (Value.slice x1836.a x1836.len x1836.cap), (Value.slice x1837.a x1837.len x1837.cap), (Value.slice x1838.a x1838.len x1838.cap), (Value.slice x1839.a x1839.len x1839.cap)]).length = 9 ∧ (Program.underlying Go.Proofs.Tryd.prog 50).isSome = true ∧
 H.wr h1830 (Addr.mk r3 0 none) ([(Value.int .i64 x1831), (Value.int .i64 x1832), (Value.slice x1833.a x1833.len x1833.cap), (Value.slice x1834.a x1834.len x1834.cap), (Value.slice x1835.a x1835.len x1835.cap), (Value.slice x1836.a x1836.len x1836.cap), (Value.slice x1837.a x1837.len x1837.cap), (Value.slice x1838.a x1838.len x1838.cap), (Value.slice x1839.a x1839.len x1839.cap)]) fun h1853 =>
 ∃ x1854 : Int, H.rd h1853 (Addr.add (Addr.add b1841 ((x1840).toNat * 1)) 0) (Value.int .i64 x1854) ∧
 Ri h1853 r3 0 fun x1855 =>
 Ri h1853 r3 1 fun x1856 =>
 Rs h1853 r3 2 fun x1857 =>
 Rs h1853 r3 3 fun x1858 =>
 Rs h1853 r3 4 fun x1859 =>
 Rs h1853 r3 5 fun x1860 =>
 Rs h1853 r3 6 fun x1861 =>
 Rs h1853 r3 7 fun x1862 =>
 Rs h1853 r3 8 fun x1863 =>
 VRet h1853 (Value.tuple (List.toArray [(Value.agg (List.toArray [(Value.int .i64 x1855), (Value.int .i64 x1856), (Value.slice x1857.a x1857.len x1857.cap), (Value.slice x1858.a x1858.len x1858.cap), (Value.slice x1859.a x1859.len x1859.cap), (Value.slice x1860.a x1860.len x1860.cap), (Value.slice x1861.a x1861.len x1861.cap), (Value.slice x1862.a x1862.len x1862.cap), (Value.slice x1863.a x1863.len x1863.cap)])), (Value.bool true), (Value.int .i64 x1854), (Value.int .i64 0)])) post)) ∧
 (
 ([(Value.int .i64 x1831), (Value.int .i64 x1832), (Value.slice x1833.a x1833.len x1833.cap), (Value.slice x1834.a x1834.len x1834.cap), (Value.slice x1835.a x1835.len x1835.cap), (Value.slice x1836.a x1836.len x1836.cap), (Value.slice x1837.a x1837.len x1837.cap), (Value.slice x1838.a x1838.len x1838.cap), (Value.slice x1839.a x1839.len x1839.cap)]).length = 9 ∧ (Program.underlying Go.Proofs.Tryd.prog 50).isSome = true ∧
 H.wr h1830 (Addr.mk r3 0 none) ([(Value.int .i64 x1831), (Value.int .i64 x1832), (Value.slice x1833.a x1833.len x1833.cap), (Value.slice x1834.a x1834.len x1834.cap), (Value.slice x1835.a x1835.len x1835.cap), (Value.slice x1836.a x1836.len x1836.cap), (Value.slice x1837.a x1837.len x1837.cap), (Value.slice x1838.a x1838.len x1838.cap), (Value.slice x1839.a x1839.len x1839.cap)]) fun h1864 =>
 ∃ x1865 : Int, H.rd h1864 (Addr.add (Addr.add b1704 ((p1_p).toNat * 1)) 0) (Value.int .i64 x1865) ∧
 ∃ b1866 : Addr, x1828.a = some b1866 ∧ 0 ≤ x1865 ∧ x1865 < ((x1828.len : Nat) : Int) ∧
 ∃ x1867 : Int, H.rd h1864 (Addr.add (Addr.add b1866 ((x1865).toNat * 1)) 0) (Value.int .i64 x1867) ∧
 Ri h1864 r3 0 fun x1868 =>
 Ri h1864 r3 1 fun x1869 =>
 Rs h1864 r3 2 fun x1870 =>
 Rs h1864 r3 3 fun x1871 =>
 Rs h1864 r3 4 fun x1872 =>
 Rs h1864 r3 5 fun x1873 =>
 Rs h1864 r3 6 fun x1874 =>
 Rs h1864 r3 7 fun x1875 =>
 Rs h1864 r3 8 fun x1876 =>
 VRet h1864 (Value.tuple (List.toArray [(Value.agg (List.toArray [(Value.int .i64 x1868), (Value.int .i64 x1869), (Value.slice x1870.a x1870.len x1870.cap), (Value.slice x1871.a x1871.len x1871.cap), (Value.slice x1872.a x1872.len x1872.cap), (Value.slice x1873.a x1873.len x1873.cap), (Value.slice x1874.a x1874.len x1874.cap), (Value.slice x1875.a x1875.len x1875.cap), (Value.slice x1876.a x1876.len x1876.cap)])), (Value.bool true), (Value.int .i64 x1867), (Value.int .i64 0)])) post)) ∧
 (
 ∃ x1877 : Int, H.rd h582 (Addr.add (Addr.add b1704 ((p1_p).toNat * 1)) 0) (Value.int .i64 x1877) ∧
 ∃ b1878 : Addr, x1828.a = some b1878 ∧ 0 ≤ x1877 ∧ x1877 < ((x1828.len : Nat) : Int) ∧
 (
 SemCall Go.Proofs.Tryd.prog 36 (List.toArray [(Value.agg (List.toArray [(Value.int .i64 x1705), (Value.int .i64 x1706), (Value.slice x1707.a x1707.len x1707.cap), (Value.slice x1708.a x1708.len x1708.cap), (Value.slice x1709.a x1709.len x1709.cap), (Value.slice x1710.a x1710.len x1710.cap), (Value.slice x1711.a x1711.len x1711.cap), (Value.slice x1712.a x1712.len x1712.cap), (Value.slice x1713.a x1713.len x1713.cap)])), (Value.int .i64 p1_p), (Value.int .i64 0)]) h582 fun v1879 h1880 =>
 ∃ x1881 : Int, ∃ x1882 : Int, ∃ x1883 : SV, ∃ x1884 : SV, ∃ x1885 : SV, ∃ x1886 : SV, ∃ x1887 : SV, ∃ x1888 : SV, ∃ x1889 : SV, v1879 = (Value.agg (List.toArray [(Value.int .i64 x1881), (Value.int .i64 x1882), (Value.slice x1883.a x1883.len x1883.cap), (Value.slice x1884.a x1884.len x1884.cap), (Value.slice x1885.a x1885.len x1885.cap), (Value.slice x1886.a x1886.len x1886.cap), (Value.slice x1887.a x1887.len x1887.cap), (Value.slice x1888.a x1888.len x1888.cap), (Value.slice x1889.a x1889.len x1889.cap)])) ∧
 (
 ∃ x1890 : Int, H.rd h1880 (Addr.add (Addr.add b1878 ((x1877).toNat * 1)) 0) (Value.int .i64 x1890) ∧
 ([(Value.int .i64 x1881), (Value.int .i64 x1882), (Value.slice x1883.a x1883.len x1883.cap), (Value.slice x1884.a x1884.len x1884.cap), (Value.slice x1885.a x1885.len x1885.cap), (Value.slice x1886.a x1886.len x1886.cap), (Value.slice x1887.a x1887.len x1887.cap), (Value.slice x1888.a x1888.len x1888.cap), (Value.slice x1889.a x1889.len x1889.cap)]).length = 9 ∧ (Program.underlying Go.Proofs.Tryd.prog 50).isSome = true ∧
 H.wr h1880 (Addr.mk r3 0 none) ([(Value.int .i64 x1881), (Value.int .i64 x1882), (Value.slice x1883.a x1883.len x1883.cap), (Value.slice x1884.a x1884.len x1884.cap), (Value.slice x1885.a x1885.len x1885.cap), (Value.slice x1886.a x1886.len x1886.cap), (Value.slice x1887.a x1887.len x1887.cap), (Value.slice x1888.a x1888.len x1888.cap), (Value.slice x1889.a x1889.len x1889.cap)]) fun h1891 =>
 Ri h1891 r3 0 fun x1892 =>
 Ri h1891 r3 1 fun x1893 =>
 Rs h1891 r3 2 fun x1894 =>
 Rs h1891 r3 3 fun x1895 =>
 Rs h1891 r3 4 fun x1896 =>
 Rs h1891 r3 5 fun x1897 =>
 Rs h1891 r3 6 fun x1898 =>
 Rs h1891 r3 7 fun x1899 =>
 Rs h1891 r3 8 fun x1900 =>
 VRet h1891 (Value.tuple (List.toArray [(Value.agg (List.toArray [(Value.int .i64 x1892), (Value.int .i64 x1893), (Value.slice x1894.a x1894.len x1894.cap), (Value.slice x1895.a x1895.len x1895.cap), (Value.slice x1896.a x1896.len x1896.cap), (Value.slice x1897.a x1897.len x1897.cap), (Value.slice x1898.a x1898.len x1898.cap), (Value.slice x1899.a x1899.len x1899.cap), (Value.slice x1900.a x1900.len x1900.cap)])), (Value.bool true), (Value.int .i64 x1890), (Value.int .i64 0)])) post) ∧
 (
 ([(Value.int .i64 x1881), (Value.int .i64 x1882), (Value.slice x1883.a x1883.len x1883.cap), (Value.slice x1884.a x1884.len x1884.cap), (Value.slice x1885.a x1885.len x1885.cap), (Value.slice x1886.a x1886.len x1886.cap), (Value.slice x1887.a x1887.len x1887.cap), (Value.slice x1888.a x1888.len x1888.cap), (Value.slice x1889.a x1889.len x1889.cap)]).length = 9 ∧ (Program.underlying Go.Proofs.Tryd.prog 50).isSome = true ∧
 H.wr h1880 (Addr.mk r3 0 none) ([(Value.int .i64 x1881), (Value.int .i64 x1882), (Value.slice x1883.a x1883.len x1883.cap), (Value.slice x1884.a x1884.len x1884.cap), (Value.slice x1885.a x1885.len x1885.cap), (Value.slice x1886.a x1886.len x1886.cap), (Value.slice x1887.a x1887.len x1887.cap), (Value.slice x1888.a x1888.len x1888.cap), (Value.slice x1889.a x1889.len x1889.cap)]) fun h1901 =>
 ∃ x1902 : Int, H.rd h1901 (Addr.add (Addr.add b1878 ((x1877).toNat * 1)) 0) (Value.int .i64 x1902) ∧
 Ri h1901 r3 0 fun x1903 =>
 Ri h1901 r3 1 fun x1904 =>
 Rs h1901 r3 2 fun x1905 =>
 Rs h1901 r3 3 fun x1906 =>
 Rs h1901 r3 4 fun x1907 =>
 Rs h1901 r3 5 fun x1908 =>
 Rs h1901 r3 6 fun x1909 =>
 Rs h1901 r3 7 fun x1910 =>
 Rs h1901 r3 8 fun x1911 =>
 VRet h1901 (Value.tuple (List.toArray [(Value.agg (List.toArray [(Value.int .i64 x1903), (Value.int .i64 x1904), (Value.slice x1905.a x1905.len x1905.cap), (Value.slice x1906.a x1906.len x1906.cap), (Value.slice x1907.a x1907.len x1907.cap), (Value.slice x1908.a x1908.len x1908.cap), (Value.slice x1909.a x1909.len x1909.cap), (Value.slice x1910.a x1910.len x1910.cap), (Value.slice x1911.a x1911.len x1911.cap)])), (Value.bool true), (Value.int .i64 x1902), (Value.int .i64 0)])) post)) ∧
 (
 ∃ x1912 : Int, H.rd h582 (Addr.add (Addr.add b1878 ((x1877).toNat * 1)) 0) (Value.int .i64 x1912) ∧
 SemCall Go.Proofs.Tryd.prog 36 (List.toArray [(Value.agg (List.toArray [(Value.int .i64 x1705), (Value.int .i64 x1706), (Value.slice x1707.a x1707.len x1707.cap), (Value.slice x1708.a x1708.len x1708.cap), (Value.slice x1709.a x1709.len x1709.cap), (Value.slice x1710.a x1710.len x1710.cap), (Value.slice x1711.a x1711.len x1711.cap), (Value.slice x1712.a x1712.len x1712.cap), (Value.slice x1713.a x1713.len x1713.cap)])), (Value.int .i64 p1_p), (Value.int .i64 0)]) h582 fun v1913 h1914 =>
 ∃ x1915 : Int, ∃ x1916 : Int, ∃ x1917 : SV, ∃ x1918 : SV, ∃ x1919 : SV, ∃ x1920 : SV, ∃ x1921 : SV, ∃ x1922 : SV, ∃ x1923 : SV, v1913 = (Value.agg (List.toArray [(Value.int .i64 x1915), (Value.int .i64 x1916), (Value.slice x1917.a x1917.len x1917.cap), (Value.slice x1918.a x1918.len x1918.cap), (Value.slice x1919.a x1919.len x1919.cap), (Value.slice x1920.a x1920.len x1920.cap), (Value.slice x1921.a x1921.len x1921.cap), (Value.slice x1922.a x1922.len x1922.cap), (Value.slice x1923.a x1923.len x1923.cap)])) ∧
 ([(Value.int .i64 x1915), (Value.int .i64 x1916), (Value.slice x1917.a x1917.len x1917.cap), (Value.slice x1918.a x1918.len x1918.cap), (Value.slice x1919.a x1919.len x1919.cap), (Value.slice x1920.a x1920.len x1920.cap), (Value.slice x1921.a x1921.len x1921.cap), (Value.slice x1922.a x1922.len x1922.cap), (Value.slice x1923.a x1923.len x1923.cap)]).length = 9 ∧ (Program.underlying Go.Proofs.Tryd.prog 50).isSome = true ∧
 H.wr h1914 (Addr.mk r3 0 none) ([(Value.int .i64 x1915), (Value.int .i64 x1916), (Value.slice x1917.a x1917.len x1917.cap), (Value.slice x1918.a x1918.len x1918.cap), (Value.slice x1919.a x1919.len x1919.cap), (Value.slice x1920.a x1920.len x1920.cap), (Value.slice x1921.a x1921.len x1921.cap), (Value.slice x1922.a x1922.len x1922.cap), (Value.slice x1923.a x1923.len x1923.cap)]) fun h1924 =>
 Ri h1924 r3 0 fun x1925 =>
 Ri h1924 r3 1 fun x1926 =>
 Rs h1924 r3 2 fun x1927 =>
 Rs h1924 r3 3 fun x1928 =>
 Rs h1924 r3 4 fun x1929 =>
 Rs h1924 r3 5 fun x1930 =>
 Rs h1924 r3 6 fun x1931 =>
 Rs h1924 r3 7 fun x1932 =>
 Rs h1924 r3 8 fun x1933 =>
 VRet h1924 (Value.tuple (List.toArray [(Value.agg (List.toArray [(Value.int .i64 x1925), (Value.int .i64 x1926), (Value.slice x1927.a x1927.len x1927.cap), (Value.slice x1928.a x1928.len x1928.cap), (Value.slice x1929.a x1929.len x1929.cap), (Value.slice x1930.a x1930.len x1930.cap), (Value.slice x1931.a x1931.len x1931.cap), (Value.slice x1932.a x1932.len x1932.cap), (Value.slice x1933.a x1933.len x1933.cap)])), (Value.bool true), (Value.int .i64 x1912), (Value.int .i64 0)])) post))) ∧
 (
 ∃ x1934 : Int, H.rd h582 (Addr.add (Addr.add b1704 ((p1_p).toNat * 1)) 0) (Value.int .i64 x1934) ∧
 (
 SemCall Go.Proofs.Tryd.prog 36 (List.toArray [(Value.agg (List.toArray [(Value.int .i64 x1705), (Value.int .i64 x1706), (Value.slice x1707.a x1707.len x1707.cap), (Value.slice x1708.a x1708.len x1708.cap), (Value.slice x1709.a x1709.len x1709.cap), (Value.slice x1710.a x1710.len x1710.cap), (Value.slice x1711.a x1711.len x1711.cap), (Value.slice x1712.a x1712.len x1712.cap), (Value.slice x1713.a x1713.len x1713.cap)])), (Value.int .i64 p1_p), (Value.int .i64 0)]) h582 fun v1935 h1936 =>
 ∃ x1937 : Int, ∃ x1938 : Int, ∃ x1939 : SV, ∃ x1940 : SV, ∃ x1941 : SV, ∃ x1942 : SV, ∃ x1943 : SV, ∃ x1944 : SV, ∃ x1945 : SV, v1935 = (Value.agg (List.toArray [(Value.int .i64 x1937), (Value.int .i64 x1938), (Value.slice x1939.a x1939.len x1939.cap), (Value.slice x1940.a x1940.len x1940.cap), (Value.slice x1941.a x1941.len x1941.cap), (Value.slice x1942.a x1942.len x1942.cap), (Value.slice x1943.a x1943.len x1943.cap), (Value.slice x1944.a x1944.len x1944.cap), (Value.slice x1945.a x1945.len x1945.cap)])) ∧
 (
 ∃ x1946 : SV, H.rd h1936 (Addr.add (Addr.add (Addr.mk r1 0 none) 2) 0) (Value.slice x1946.a x1946.len x1946.cap) ∧
 ∃ b1947 : Addr, x1946.a = some b1947 ∧ 0 ≤ x1934 ∧ x1934 < ((x1946.len : Nat) : Int) ∧
 (
 ∃ x1948 : Int, H.rd h1936 (Addr.add (Addr.add b1947 ((x1934).toNat * 1)) 0) (Value.int .i64 x1948) ∧
 ([(Value.int .i64 x1937), (Value.int .i64 x1938), (Value.slice x1939.a x1939.len x1939.cap), (Value.slice x1940.a x1940.len x1940.cap), (Value.slice x1941.a x1941.len x1941.cap), (Value.slice x1942.a x1942.len x1942.cap), (Value.slice x1943.a x1943.len x1943.cap), (Value.slice x1944.a x1944.len x1944.cap), (Value.slice x1945.a x1945.len x1945.cap)]).length = 9 ∧ (Program.underlying Go.Proofs.Tryd.prog 50).isSome = true ∧
 H.wr h1936 (Addr.mk r3 0 none) ([(Value.int .i64 x1937), (Value.int .i64 x1938), (Value.slice x1939.a x1939.len x1939.cap), (Value.slice x1940.a x1940.len x1940.cap), (Value.slice x1941.a x1941.len x1941.cap), (Value.slice x1942.a x1942.len x1942.cap), (Value.slice x1943.a x1943.len x1943.cap), (Value.slice x1944.a x1944.len x1944.cap), (Value.slice x1945.a x1945.len x1945.cap)]) fun h1949 =>
 Ri h1949 r3 0 fun x1950 =>
 Ri h1949 r3 1 fun x1951 =>
 Rs h1949 r3 2 fun x1952 =>
 Rs h1949 r3 3 fun x1953 =>
 Rs h1949 r3 4 fun x1954 =>
 Rs h1949 r3 5 fun x1955 =>
 Rs h1949 r3 6 fun x1956 =>
 Rs h1949 r3 7 fun x1957 =>
 Rs h1949 r3 8 fun x1958 =>
 VRet h1949 (Value.tuple (List.toArray [(Value.agg (List.toArray [(Value.int .i64 x1950), (Value.int .i64 x1951), (Value.slice x1952.a x1952.len x1952.cap), (Value.slice x1953.a x1953.len x1953.cap), (Value.slice x1954.a x1954.len x1954.cap), (Value.slice x1955.a x1955.len x1955.cap), (Value.slice x1956.a x1956.len x1956.cap), (Value.slice x1957.a x1957.len x1957.cap), (Value.slice x1958.a x1958.len x1958.cap)])), (Value.bool true), (Value.int .i64 x1948), (Value.int .i64 0)])) post) ∧
 (
 ([(Value.int .i64 x1937), (Value.int .i64 x1938), (Value.slice x1939.a x1939.len x1939.cap), (Value.slice x1940.a x1940.len x1940.cap), (Value.slice x1941.a x1941.len x1941.cap), (Value.slice x1942.a x1942.len x1942.cap), (Value.slice x1943.a x1943.len x1943.cap), (Value.slice x1944.a x1944.len x1944.cap), (Value.slice x1945.a x1945.len x1945.cap)]).length = 9 ∧ (Program.underlying Go.Proofs.Tryd.prog 50).isSome = true ∧
 H.wr h1936 (Addr.mk r3 0 none) ([(Value.int .i64 x1937), (Value.int .i64 x1938), (Value.slice x1939.a x1939.len x1939.cap), (Value.slice x1940.a x1940.len x1940.cap), (Value.slice x1941.a x1941.len x1941.cap), (Value.slice x1942.a x1942.len x1942.cap), (Value.slice x1943.a x1943.len x1943.cap), (Value.slice x1944.a x1944.len x1944.cap), (Value.slice x1945.a x1945.len x1945.cap)]) fun h1959 =>
 ∃ x1960 : Int, H.rd h1959 (Addr.add (Addr.add b1947 ((x1934).toNat * 1)) 0) (Value.int .i64 x1960) ∧
 Ri h1959 r3 0 fun x1961 =>
 Ri h1959 r3 1 fun x1962 =>
 Rs h1959 r3 2 fun x1963 =>
 Rs h1959 r3 3 fun x1964 =>
 Rs h1959 r3 4 fun x1965 =>
 Rs h1959 r3 5 fun x1966 =>
 Rs h1959 r3 6 fun x1967 =>
 Rs h1959 r3 7 fun x1968 =>
 Rs h1959 r3 8 fun x1969 =>
 VRet h1959 (Value.tuple (List.toArray [(Value.agg (List.toArray [(Value.int .i64 x1961), (Value.int .i64 x1962), (Value.slice x1963.a x1963.len x1963.cap), (Value.slice x1964.a x1964.len x1964.cap), (Value.slice x1965.a x1965.len x1965.cap), (Value.slice x1966.a x1966.len x1966.cap), (Value.slice x1967.a x1967.len x1967.cap), (Value.slice x1968.a x1968.len x1968.cap), (Value.slice x1969.a x1969.len x1969.cap)])), (Value.bool true), (Value.int .i64 x1960), (Value.int .i64 0)])) post)) ∧
 (
 ([(Value.int .i64 x1937), (Value.int .i64 x1938), (Value.slice x1939.a x1939.len x1939.cap), (Value.slice x1940.a x1940.len x1940.cap), (Value.slice x1941.a x1941.len x1941.cap), (Value.slice x1942.a x1942.len x1942.cap), (Value.slice x1943.a x1943.len x1943.cap), (Value.slice x1944.a x1944.len x1944.cap), (Value.slice x1945.a x1945.len x1945.cap)]).length = 9 ∧ (Program.underlying Go.Proofs.Tryd.prog 50).isSome = true ∧
 H.wr h1936 (Addr.mk r3 0 none) ([(Value.int .i64 x1937), (Value.int .i64 x1938), (Value.slice x1939.a x1939.len x1939.cap), (Value.slice x1940.a x1940.len x1940.cap), (Value.slice x1941.a x1941.len x1941.cap), (Value.slice x1942.a x1942.len x1942.cap), (Value.slice x1943.a x1943.len x1943.cap), (Value.slice x1944.a x1944.len x1944.cap), (Value.slice x1945.a x1945.len x1945.cap)]) fun h1970 =>
 ∃ x1971 : SV, H.rd h1970 (Addr.add (Addr.add (Addr.mk r1 0 none) 2) 0) (Value.slice x1971.a x1971.len x1971.cap) ∧
 ∃ b1972 : Addr, x1971.a = some b1972 ∧ 0 ≤ x1934 ∧ x1934 < ((x1971.len : Nat) : Int) ∧
 ∃ x1973 : Int, H.rd h1970 (Addr.add (Addr.add b1972 ((x1934).toNat * 1)) 0) (Value.int .i64 x1973) ∧
 Ri h1970 r3 0 fun x1974 =>
 Ri h1970 r3 1 fun x1975 =>
 Rs h1970 r3 2 fun x1976 =>
 Rs h1970 r3 3 fun x1977 =>
 Rs h1970 r3 4 fun x1978 =>
 Rs h1970 r3 5 fun x1979 =>
 Rs h1970 r3 6 fun x1980 =>
 Rs h1970 r3 7 fun x1981 =>
 Rs h1970 r3 8 fun x1982 =>
 VRet h1970 (Value.tuple (List.toArray [(Value.agg (List.toArray [(Value.int .i64 x1974), (Value.int .i64 x1975), (Value.slice x1976.a x1976.len x1976.cap), (Value.slice x1977.a x1977.len x1977.cap), (Value.slice x1978.a x1978.len x1978.cap), (Value.slice x1979.a x1979.len x1979.cap), (Value.slice x1980.a x1980.len x1980.cap), (Value.slice x1981.a x1981.len x1981.cap), (Value.slice x1982.a x1982.len x1982.cap)])), (Value.bool true), (Value.int .i64 x1973), (Value.int .i64 0)])) post)) ∧
 (
 ∃ x1983 : SV, H.rd h582 (Addr.add (Addr.add (Addr.mk r1 0 none) 2) 0) (Value.slice x1983.a x1983.len x1983.cap) ∧
 ∃ b1984 : Addr, x1983.a = some b1984 ∧ 0 ≤ x1934 ∧ x1934 < ((x1983.len : Nat) : Int) ∧
 (
 SemCall Go.Proofs.Tryd.prog 36 (List.toArray [(Value.agg (List.toArray [(Value.int .i64 x1705), (Value.int .i64 x1706), (Value.slice x1707.a x1707.len x1707.cap), (Value.slice x1708.a x1708.len x1708.cap), (Value.slice x1709.a x1709.len x1709.cap), (Value.slice x1710.a x1710.len x1710.cap), (Value.slice x1711.a x1711.len x1711.cap), (Value.slice x1712.a x1712.len x1712.cap), (Value.slice x1713.a x1713.len x1713.cap)])), (Value.int .i64 p1_p), (Value.int .i64 0)]) h582 fun v1985 h1986 =>
 ∃ x1987 : Int, ∃ x1988 : Int, ∃ x1989 : SV, ∃ x1990 : SV, ∃ x1991 : SV, ∃ x1992 : SV, ∃ x1993 : SV, ∃ x1994 : SV, ∃ x1995 : SV, v1985 = (Value.agg (List.toArray [(Value.int .i64 x1987), (Value.int .i64 x1988), (Value.slice x1989.a x1989.len x1989.cap), (Value.slice x1990.a x1990.len x1990.cap), (Value.slice x1991.a x1991.len x1991.cap), (Value.slice x1992.a x1992.len x1992.cap), (Value.slice x1993.a x1993.len x1993.cap), (Value.slice x1994.a x1994.len x1994.cap), (Value.slice x1995.a x1995.len x1995.cap)])) ∧
 (
 ∃ x1996 : Int, H.rd h1986 (Addr.add (Addr.add b1984 ((x1934).toNat * 1)) 0) (Value.int .i64 x1996) ∧
 ([(Value.int .i64 x1987), (Value.int .i64 x1988), (Value.slice x1989.a x1989.len x1989.cap), (Value.slice x1990.a x1990.len x1990.cap), (Value.slice x1991.a x1991.len x1991.cap), (Value.slice x1992.a x1992.len x1992.cap), (Value.slice x1993.a x1993.len x1993.cap), (Value.slice x1994.a x1994.len x1994.cap), (Value.slice x1995.a x1995.len x1995.cap)]).length = 9 ∧ (Program.underlying Go.Proofs.Tryd.prog 50).isSome = true ∧
 H.wr h1986 (Addr.mk r3 0 none) ([(Value.int .i64 x1987), (Value.int .i64 x1988), (Value.slice x1989.a x1989.len x1989.cap), (Value.slice x1990.a x1990.len x1990.cap), (Value.slice x1991.a x1991.len x1991.cap), (Value.slice x1992.a x1992.len x1992.cap), (Value.slice x1993.a x1993.len x1993.cap), (Value.slice x1994.a x1994.len x1994.cap), (Value.slice x1995.a x1995.len x1995.cap)]) fun h1997 =>
 Ri h1997 r3 0 fun x1998 =>
 Ri h1997 r3 1 fun x1999 =>
 Rs h1997 r3 2 fun x2000 =>
 Rs h1997 r3 3 fun x2001 =>
 Rs h1997 r3 4 fun x2002 =>
 Rs h1997 r3 5 fun x2003 =>
 Rs h1997 r3 6 fun x2004 =>
 Rs h1997 r3 7 fun x2005 =>
 Rs h1997 r3 8 fun x2006 =>
 VRet h1997 (Value.tuple (List.toArray [(Value.agg (List.toArray [(Value.int .i64 x1998), (Value.int .i64 x1999), (Value.slice x2000.a x2000.len x2000.cap), (Value.slice x2001.a x2001.len x2001.cap), (Value.slice x2002.a x2002.len x2002.cap), (Value.slice x2003.a x2003.len x2003.cap), (Value.slice x2004.a x2004.len x2004.cap), (Value.slice x2005.a x2005.len x2005.cap), (Value.slice x2006.a x2006.len x2006.cap)])), (Value.bool true), (Value.int .i64 x1996), (Value.int .i64 0)])) post) ∧
 (
 ([(Value.int .i64 x1987), (Value.int .i64 x1988), (Value.slice x1989.a x1989.len x1989.cap), (Value.slice x1990.a x1990.len x1990.cap), (Value.slice x1991.a x1991.len x1991.cap), (Value.slice x1992.a x1992.len x1992.cap), (Value.slice x1993.a x1993.len x1993.cap), (Value.slice x1994.a x1994.len x1994.cap), (Value.slice x1995.a x1995.len x1995.cap)]).length = 9 ∧ (Program.underlying Go.Proofs.Tryd.prog 50).isSome = true ∧
 H.wr h1986 (Addr.mk r3 0 none) ([(Value.int .i64 x1987), (Value.int .i64 x1988), (Value.slice x1989.a x1989.len x1989.cap), (Value.slice x1990.a x1990.len x1990.cap), (Value.slice x1991.a x1991.len x1991.cap), (Value.slice x1992.a x1992.len x1992.cap), (Value.slice x1993.a x1993.len x1993.cap), (Value.slice x1994.a x1994.len x1994.cap), (Value.slice x1995.a x1995.len x1995.cap)]) fun h2007 =>
 ∃ x2008 : Int, H.rd h2007 (Addr.add (Addr.add b1984 ((x1934).toNat * 1)) 0) (Value.int .i64 x2008) ∧
 Ri h2007 r3 0 fun x2009 =>
 Ri h2007 r3 1 fun x2010 =>
 Rs h2007 r3 2 fun x2011 =>
 Rs h2007 r3 3 fun x2012 =>
 Rs h2007 r3 4 fun x2013 =>
 Rs h2007 r3 5 fun x2014 =>
 Rs h2007 r3 6 fun x2015 =>
 Rs h2007 r3 7 fun x2016 =>
 Rs h2007 r3 8 fun x2017 =>
 VRet h2007 (Value.tuple (List.toArray [(Value.agg (List.toArray [(Value.int .i64 x2009), (Value.int .i64 x2010), (Value.slice x2011.a x2011.len x2011.cap), (Value.slice x2012.a x2012.len x2012.cap), (Value.slice x2013.a x2013.len x2013.cap), (Value.slice x2014.a x2014.len x2014.cap), (Value.slice x2015.a x2015.len x2015.cap), (Value.slice x2016.a x2016.len x2016.cap), (Value.slice x2017.a x2017.len x2017.cap)])), (Value.bool true), (Value.int .i64 x2008), (Value.int .i64 0)])) post)) ∧
 (
 ∃ x2018 : Int, H.rd h582 (Addr.add (Addr.add b1984 ((x1934).toNat * 1)) 0) (Value.int .i64 x2018) ∧
 SemCall Go.Proofs.Tryd.prog 36 (List.toArray [(Value.agg (List.toArray [(Value.int .i64 x1705), (Value.int .i64 x1706), (Value.slice x1707.a x1707.len x1707.cap), (Value.slice x1708.a x1708.len x1708.cap), (Value.slice x1709.a x1709.len x1709.cap), (Value.slice x1710.a x1710.len x1710.cap), (Value.slice x1711.a x1711.len x1711.cap), (Value.slice x1712.a x1712.len x1712.cap), (Value.slice x1713.a x1713.len x1713.cap)])), (Value.int .i64 p1_p), (Value.int .i64 0)]) h582 fun v2019 h2020 =>
 ∃ x2021 : Int, ∃ x2022 : Int, ∃ x2023 : SV, ∃ x2024 : SV, ∃ x2025 : SV, ∃ x2026 : SV, ∃ x2027 : SV, ∃ x2028 : SV, ∃ x2029 : SV, v2019 = (Value.agg (List.toArray [(Value.int .i64 x2021), (Value.int .i64 x2022), (Value.slice x2023.a x2023.len x2023.cap), (Value.slice x2024.a x2024.len x2024.cap), (Value.slice x2025.a x2025.len x2025.cap), (Value.slice x2026.a x2026.len x2026.cap), (Value.slice x2027.a x2027.len x2027.cap), (Value.slice x2028.a x2028.len x2028.cap), (Value.slice x2029.a x2029.len x2029.cap)])) ∧
 ([(Value.int .i64 x2021), (Value.int .i64 x2022), (Value.slice x2023.a x2023.len x2023.cap), (Value.slice x2024.a x2024.len x2024.cap), (Value.slice x2025.a x2025.len x2025.cap), (Value.slice x2026.a x2026.len x2026.cap), (Value.slice x2027.a x2027.len x2027.cap), (Value.slice x2028.a x2028.len x2028.cap), (Value.slice x2029.a x2029.len x2029.cap)]).length = 9 ∧ (Program.underlying Go.Proofs.Tryd.prog 50).isSome = true ∧
 H.wr h2020 (Addr.mk r3 0 none) ([(Value.int .i64 x2021), (Value.int .i64 x2022), (Value.slice x2023.a x2023.len x2023.cap), (Value.slice x2024.a x2024.len x2024.cap), (Value.slice x2025.a x2025.len x2025.cap), (Value.slice x2026.a x2026.len x2026.cap), (Value.slice x2027.a x2027.len x2027.cap), (Value.slice x2028.a x2028.len x2028.cap), (Value.slice x2029.a x2029.len x2029.cap)]) fun h2030 =>
 Ri h2030 r3 0 fun x2031 =>
 Ri h2030 r3 1 fun x2032 =>
 Rs h2030 r3 2 fun x2033 =>
 Rs h2030 r3 3 fun x2034 =>
 Rs h2030 r3 4 fun x2035 =>
 Rs h2030 r3 5 fun x2036 =>
 Rs h2030 r3 6 fun x2037 =>
 Rs h2030 r3 7 fun x2038 =>
 Rs h2030 r3 8 fun x2039 =>
 VRet h2030 (Value.tuple (List.toArray [(Value.agg (List.toArray [(Value.int .i64 x2031), (Value.int .i64 x2032), (Value.slice x2033.a x2033.len x2033.cap), (Value.slice x2034.a x2034.len x2034.cap), (Value.slice x2035.a x2035.len x2035.cap), (Value.slice x2036.a x2036.len x2036.cap), (Value.slice x2037.a x2037.len x2037.cap), (Value.slice x2038.a x2038.len x2038.cap), (Value.slice x2039.a x2039.len x2039.cap)])), (Value.bool true), (Value.int .i64 x2018), (Value.int .i64 0)])) post))))) ∧
 (
 (
 ∃ x2040 : SV, H.rd h582 (Addr.add (Addr.add (Addr.mk r1 0 none) 2) 0) (Value.slice x2040.a x2040.len x2040.cap) ∧
 (
 Ri h582 r1 0 fun x2041 =>
 Ri h582 r1 1 fun x2042 =>
 Rs h582 r1 2 fun x2043 =>
 Rs h582 r1 3 fun x2044 =>
 Rs h582 r1 4 fun x2045 =>
 Rs h582 r1 5 fun x2046 =>
 Rs h582 r1 6 fun x2047 =>
 Rs h582 r1 7 fun x2048 =>
 Rs h582 r1 8 fun x2049 =>
 (
 SemCall Go.Proofs.Tryd.prog 36 (List.toArray [(Value.agg (List.toArray [(Value.int .i64 x2041), (Value.int .i64 x2042), (Value.slice x2043.a x2043.len x2043.cap), (Value.slice x2044.a x2044.len x2044.cap), (Value.slice x2045.a x2045.len x2045.cap), (Value.slice x2046.a x2046.len x2046.cap), (Value.slice x2047.a x2047.len x2047.cap), (Value.slice x2048.a x2048.len x2048.cap), (Value.slice x2049.a x2049.len x2049.cap)])), (Value.int .i64 p1_p), (Value.int .i64 0)]) h582 fun v2050 h2051 =>
 ∃ x2052 : Int, ∃ x2053 : Int, ∃ x2054 : SV, ∃ x2055 : SV, ∃ x2056 : SV, ∃ x2057 : SV, ∃ x2058 : SV, ∃ x2059 : SV, ∃ x2060 : SV, v2050 = (Value.agg (List.toArray [(Value.int .i64 x2052), (Value.int .i64 x2053), (Value.slice x2054.a x2054.len x2054.cap), (Value.slice x2055.a x2055.len x2055.cap), (Value.slice x2056.a x2056.len x2056.cap), (Value.slice x2057.a x2057.len x2057.cap), (Value.slice x2058.a x2058.len x2058.cap), (Value.slice x2059.a x2059.len x2059.cap), (Value.slice x2060.a x2060.len x2060.cap)])) ∧
 (
 ∃ x2061 : Int, H.rd h2051 (Addr.add (Addr.add b1704 ((p1_p).toNat * 1)) 0) (Value.int .i64 x2061) ∧
 ∃ b2062 : Addr, x2040.a = some b2062 ∧ 0 ≤ x2061 ∧ x2061 < ((x2040.len : Nat) : Int) ∧
 (
 ∃ x2063 : Int, H.rd h2051 (Addr.add (Addr.add b2062 ((x2061).toNat * 1)) 0) (Value.int .i64 x2063) ∧
 ([(Value.int .i64 x2052), (Value.int .i64 x2053), (Value.slice x2054.a x2054.len x2054.cap), (Value.slice x2055.a x2055.len x2055.cap), (Value.slice x2056.a x2056.len x2056.cap), (Value.slice x2057.a x2057.len x2057.cap), (Value.slice x2058.a x2058.len x2058.cap), (Value.slice x2059.a x2059.len x2059.cap), (Value.slice x2060.a x2060.len x2060.cap)]).length = 9 ∧ (Program.underlying Go.Proofs.Tryd.prog 50).isSome = true ∧
 H.wr h2051 (Addr.mk r3 0 none) ([(Value.int .i64 x2052), (Value.int .i64 x2053), (Value.slice x2054.a x2054.len x2054.cap), (Value.slice x2055.a x2055.len x2055.cap), (Value.slice x2056.a x2056.len x2056.cap), (Value.slice x2057.a x2057.len x2057.cap), (Value.slice x2058.a x2058.len x2058.cap), (Value.slice x2059.a x2059.len x2059.cap), (Value.slice x2060.a x2060.len x2060.cap)]) fun h2064 =>
 Ri h2064 r3 0 fun x2065 =>
 Ri h2064 r3 1 fun x2066 =>
 Rs h2064 r3 2 fun x2067 =>
 Rs h2064 r3 3 fun x2068 =>
 Rs h2064 r3 4 fun x2069 =>
 Rs h2064 r3 5 fun x2070 =>
 Rs h2064 r3 6 fun x2071 =>
 Rs h2064 r3 7 fun x2072 =>
 Rs h2064 r3 8 fun x2073 =>
 VRet h2064 (Value.tuple (List.toArray [(Value.agg (List.toArray [(Value.int .i64 x2065), (Value.int .i64 x2066), (Value.slice x2067.a x2067.len x2067.cap), (Value.slice x2068.a x2068.len x2068.cap), (Value.slice x2069.a x2069.len x2069.cap), (Value.slice x2070.a x2070.len x2070.cap), (Value.slice x2071.a x2071.len x2071.cap), (Value.slice x2072.a x2072.len x2072.cap), (Value.slice x2073.a x2073.len x2073.cap)])), (Value.bool true), (Value.int .i64 x2063), (Value.int .i64 0)])) post) ∧
 (
 ([(Value.int .i64 x2052), (Value.int .i64 x2053), (Value.slice x2054.a x2054.len x2054.cap), (Value.slice x2055.a x2055.len x2055.cap), (Value.slice x2056.a x2056.len x2056.cap), (Value.slice x2057.a x2057.len x2057.cap), (Value.slice x2058.a x2058.len x2058.cap), (Value.slice x2059.a x2059.len x2059.cap), (Value.slice x2060.a x2060.len x2060.cap)]).length = 9 ∧ (Program.underlying Go.Proofs.Tryd.prog 50).isSome = true ∧
 H.wr h2051 (Addr.mk r3 0 none) ([(Value.int .i64 x2052), (Value.int .i64 x2053), (Value.slice x2054.a x2054.len x2054.cap), (Value.slice x2055.a x2055.len x2055.cap), (Value.slice x2056.a x2056.len x2056.cap), (Value.slice x2057.a x2057.len x2057.cap), (Value.slice x2058.a x2058.len x2058.cap), (Value.slice x2059.a x2059.len x2059.cap), (Value.slice x2060.a x2060.len x2060.cap)]) fun h2074 =>
 ∃ x2075 : Int, H.rd h2074 (Addr.add (Addr.add b2062 ((x2061).toNat * 1)) 0) (Value.int .i64 x2075) ∧
 Ri h2074 r3 0 fun x2076 =>
 Ri h2074 r3 1 fun x2077 =>
 Rs h2074 r3 2 fun x2078 =>
 Rs h2074 r3 3 fun x2079 =>
 Rs h2074 r3 4 fun x2080 =>
 Rs h2074 r3 5 fun x2081 =>
 Rs h2074 r3 6 fun x2082 =>
 Rs h2074 r3 7 fun x2083 =>
 Rs h2074 r3 8 fun x2084 =>
 VRet h2074 (Value.tuple (List.toArray [(Value.agg (List.toArray [(Value.int .i64 x2076), (Value.int .i64 x2077), (Value.slice x2078.a x2078.len x2078.cap), (Value.slice x2079.a x2079.len x2079.cap), (Value.slice x2080.a x2080.len x2080.cap), (Value.slice x2081.a x2081.len x2081.cap), (Value.slice x2082.a x2082.len x2082.cap), (Value.slice x2083.a x2083.len x2083.cap), (Value.slice x2084.a x2084.len x2084.cap)])), (Value.bool true), (Value.int .i64 x2075), (Value.int .i64 0)])) post)) ∧
 (
 ([(Value.int .i64 x2052), (Value.int .i64 x2053), (Value.slice x2054.a x2054.len x2054.cap), (Value.slice x2055.a x2055.len x2055.cap), (Value.slice x2056.a x2056.len x2056.cap), (Value.slice x2057.a x2057.len x2057.cap), (Value.slice x2058.a x2058.len x2058.cap), (Value.slice x2059.a x2059.len x2059.cap), (Value.slice x2060.a x2060.len x2060.cap)]).length = 9 ∧ (Program.underlying Go.Proofs.Tryd.prog 50).isSome = true ∧
 H.wr h2051 (Addr.mk r3 0 none) ([(Value.int .i64 x2052), (Value.int .i64 x2053), (Value.slice x2054.a x2054.len x2054.cap), (Value.slice x2055.a x2055.len x2055.cap), (Value.slice x2056.a x2056.len x2056.cap), (Value.slice x2057.a x2057.len x2057.cap), (Value.slice x2058.a x2058.len x2058.cap), (Value.slice x2059.a x2059.len x2059.cap), (Value.slice x2060.a x2060.len x2060.cap)]) fun h2085 =>
 ∃ x2086 : Int, H.rd h2085 (Addr.add (Addr.add b1704 ((p1_p).toNat * 1)) 0) (Value.int .i64 x2086) ∧
 ∃ b2087 : Addr, x2040.a = some b2087 ∧ 0 ≤ x2086 ∧ x2086 < ((x2040.len : Nat) : Int) ∧
 ∃ x2088 : Int, H.rd h2085 (Addr.add (Addr.add b2087 ((x2086).toNat * 1)) 0) (Value.int .i64 x2088) ∧
 Ri h2085 r3 0 fun x2089 =>
 Ri h2085 r3 1 fun x2090 =>
 Rs h2085 r3 2 fun x2091 =>
 Rs h2085 r3 3 fun x2092 =>
 Rs h2085 r3 4 fun x2093 =>
 Rs h2085 r3 5 fun x2094 =>
 Rs h2085 r3 6 fun x2095 =>
 Rs h2085 r3 7 fun x2096 =>
 Rs h2085 r3 8 fun x2097 =>
 VRet h2085 (Value.tuple (List.toArray [(Value.agg (List.toArray [(Value.int .i64 x2089), (Value.int .i64 x2090), (Value.slice x2091.a x2091.len x2091.cap), (Value.slice x2092.a x2092.len x2092.cap), (Value.slice x2093.a x2093.len x2093.cap), (Value.slice x2094.a x2094.len x2094.cap), (Value.slice x2095.a x2095.len x2095.cap), (Value.slice x2096.a x2096.len x2096.cap), (Value.slice x2097.a x2097.len x2097.cap)])), (Value.bool true), (Value.int .i64 x2088), (Value.int .i64 0)])) post)) ∧
 (
 ∃ x2098 : Int, H.rd h582 (Addr.add (Addr.add b1704 ((p1_p).toNat * 1)) 0) (Value.int .i64 x2098) ∧
 ∃ b2099 : Addr, x2040.a = some b2099 ∧ 0 ≤ x2098 ∧ x2098 < ((x2040.len : Nat) : Int) ∧
 (
 SemCall Go.Proofs.Tryd.prog 36 (List.toArray [(Value.agg (List.toArray [(Value.int .i64 x2041), (Value.int .i64 x2042), (Value.slice x2043.a x2043.len x2043.cap), (Value.slice x2044.a x2044.len x2044.cap), (Value.slice x2045.a x2045.len x2045.cap), (Value.slice x2046.a x2046.len x2046.cap), (Value.slice x2047.a x2047.len x2047.cap), (Value.slice x2048.a x2048.len x2048.cap), (Value.slice x2049.a x2049.len x2049.cap)])), (Value.int .i64 p1_p), (Value.int .i64 0)]) h582 fun v2100 h2101 =>
 ∃ x2102 : Int, ∃ x2103 : Int, ∃ x2104 : SV, ∃ x2105 : SV, ∃ x2106 : SV, ∃ x2107 : SV, ∃ x2108 : SV, ∃ x2109 : SV, ∃ x2110 : SV, v2100 = (Value.agg (List.toArray [(Value.int .i64 x2102), (Value.int .i64 x2103), (Value.slice x2104.a x2104.len x2104.cap), (Value.slice x2105.a x2105.len x2105.cap), (Value.slice x2106.a x2106.len x2106.cap), (Value.slice x2107.a x2107.len x2107.cap), (Value.slice x2108.a x2108.len x2108.cap), (Value.slice x2109.a x2109.len x2109.cap), (Value.slice x2110.a x2110.len x2110.cap)])) ∧
 (
 ∃ x2111 : Int, H.rd h2101 (Addr.add (Addr.add b2099 ((x2098).toNat * 1)) 0) (Value.int .i64 x2111) ∧
 ([(Value.int .i64 x2102), (Value.int .i64 x2103), (Value.slice x2104.a x2104.len x2104.cap), (Value.slice x2105.a x2105.len x2105.cap), (Value.slice x2106.a x2106.len x2106.cap), (Value.slice x2107.a x2107.len x2107.cap), (Value.slice x2108.a x2108.len x2108.cap), (Value.slice x2109.a x2109.len x2109.cap), (Value.slice x2110.a x2110.len x2110.cap)]).length = 9 ∧ (Program.underlying Go.Proofs.Tryd.prog 50).isSome = true ∧
 H.wr h2101 (Addr.mk r3 0 none) ([(Value.int .i64 x2102), (Value.int .i64 x2103), (Value.slice x2104.a x2104.len x2104.cap), (Value.slice x2105.a x2105.len x2105.cap), (Value.slice x2106.a x2106.len x2106.cap), (Value.slice x2107.a x2107.len x2107.cap), (Value.slice x2108.a x2108.len x2108.cap), (Value.slice x2109.a x2109.len x2109.cap), (Value.slice x2110.a x2110.len x2110.cap)]) fun h2112 =>
 Ri h2112 r3 0 fun x2113 =>
 Ri h2112 r3 1 fun x2114 =>
 Rs h2112 r3 2 fun x2115 =>
 Rs h2112 r3 3 fun x2116 =>
 Rs h2112 r3 4 fun x2117 =>
 Rs h2112 r3 5 fun x2118 =>
 Rs h2112 r3 6 fun x2119 =>
 Rs h2112 r3 7 fun x2120 =>
 Rs h2112 r3 8 fun x2121 =>
 VRet h2112 (Value.tuple (List.toArray [(Value.agg (List.toArray [(Value.int .i64 x2113), (Value.int .i64 x2114), (Value.slice x2115.a x2115.len x2115.cap), (Value.slice x2116.a x2116.len x2116.cap), (Value.slice x2117.a x2117.len x2117.cap), (Value.slice x2118.a x2118.len x2118.cap), (Value.slice x2119.a x2119.len x2119.cap), (Value.slice x2120.a x2120.len x2120.cap), (Value.slice x2121.a x2121.len x2121.cap)])), (Value.bool true), (Value.int .i64 x2111), (Value.int .i64 0)])) post) ∧
 (
 ([(Value.int .i64 x2102), (Value.int .i64 x2103), (Value.slice x2104.a x2104.len x2104.cap), (Value.slice x2105.a x2105.len x2105.cap), (Value.slice x2106.a x2106.len x2106.cap), (Value.slice x2107.a x2107.len x2107.cap), (Value.slice x2108.a x2108.len x2108.cap), (Value.slice x2109.a x2109.len x2109.cap), (Value.slice x2110.a x2110.len x2110.cap)]).length = 9 ∧ (Program.underlying Go.Proofs.Tryd.prog 50).isSome = true ∧
 H.wr h2101 (Addr.mk r3 0 none) ([(Value.int .i64 x2102), (Value.int .i64 x2103), (Value.slice x2104.a x2104.len x2104.cap), (Value.slice x2105.a x2105.len x2105.cap), (Value.slice x2106.a x2106.len x2106.cap), (Value.slice x2107.a x2107.len x2107.cap), (Value.slice x2108.a x2108.len x2108.cap), (Value.slice x2109.a x2109.len x2109.cap), (Value.slice x2110.a x2110.len x2110.cap)]) fun h2122 =>
 ∃ x2123 : Int, H.rd h2122 (Addr.add (Addr.add b2099 ((x2098).toNat * 1)) 0) (Value.int .i64 x2123) ∧
 Ri h2122 r3 0 fun x2124 =>
 Ri h2122 r3 1 fun x2125 =>
 Rs h2122 r3 2 fun x2126 =>
 Rs h2122 r3 3 fun x2127 =>
 Rs h2122 r3 4 fun x2128 =>
 Rs h2122 r3 5 fun x2129 =>
 Rs h2122 r3 6 fun x2130 =>
 Rs h2122 r3 7 fun x2131 =>
 Rs h2122 r3 8 fun x2132 =>
 VRet h2122 (Value.tuple (List.toArray [(Value.agg (List.toArray [(Value.int .i64 x2124), (Value.int .i64 x2125), (Value.slice x2126.a x2126.len x2126.cap), (Value.slice x2127.a x2127.len x2127.cap), (Value.slice x2128.a x2128.len x2128.cap), (Value.slice x2129.a x2129.len x2129.cap), (Value.slice x2130.a x2130.len x2130.cap), (Value.slice x2131.a x2131.len x2131.cap), (Value.slice x2132.a x2132.len x2132.cap)])), (Value.bool true), (Value.int .i64 x2123), (Value.int .i64 0)])) post)) ∧
 (
 ∃ x2133 : Int, H.rd h582 (Addr.add (Addr.add b2099 ((x2098).toNat * 1)) 0) (Value.int .i64 x2133) ∧
 SemCall Go.Proofs.Tryd.prog 36 (List.toArray [(Value.agg (List.toArray [(Value.int .i64 x2041), (Value.int .i64 x2042), (Value.slice x2043.a x2043.len x2043.cap), (Value.slice x2044.a x2044.len x2044.cap), (Value.slice x2045.a x2045.len x2045.cap), (Value.slice x2046.a x2046.len x2046.cap), (Value.slice x2047.a x2047.len x2047.cap), (Value.slice x2048.a x2048.len x2048.cap), (Value.slice x2049.a x2049.len x2049.cap)])), (Value.int .i64 p1_p), (Value.int .i64 0)]) h582 fun v2134 h2135 =>
 ∃ x2136 : Int, ∃ x2137 : Int, ∃ x2138 : SV, ∃ x2139 : SV, ∃ x2140 : SV, ∃ x2141 : SV, ∃ x2142 : SV, ∃ x2143 : SV, ∃ x2144 : SV, v2134 = (Value.agg (List.toArray [(Value.int .i64 x2136), (Value.int .i64 x2137), (Value.slice x2138.a x2138.len x2138.cap), (Value.slice x2139.a x2139.len x2139.cap), (Value.slice x2140.a x2140.len x2140.cap), (Value.slice x2141.a x2141.len x2141.cap), (Value.slice x2142.a x2142.len x2142.cap), (Value.slice x2143.a x2143.len x2143.cap), (Value.slice x2144.a x2144.len x2144.cap)])) ∧
 ([(Value.int .i64 x2136), (Value.int .i64 x2137), (Value.slice x2138.a x2138.len x2138.cap), (Value.slice x2139.a x2139.len x2139.cap), (Value.slice x2140.a x2140.len x2140.cap), (Value.slice x2141.a x2141.len x2141.cap), (Value.slice x2142.a x2142.len x2142.cap), (Value.slice x2143.a x2143.len x2143.cap), (Value.slice x2144.a x2144.len x2144.cap)]).length = 9 ∧ (Program.underlying Go.Proofs.Tryd.prog 50).isSome = true ∧
 H.wr h2135 (Addr.mk r3 0 none) ([(Value.int .i64 x2136), (Value.int .i64 x2137), (Value.slice x2138.a x2138.len x2138.cap), (Value.slice x2139.a x2139.len x2139.cap), (Value.slice x2140.a x2140.len x2140.cap), (Value.slice x2141.a x2141.len x2141.cap), (Value.slice x2142.a x2142.len x2142.cap), (Value.slice x2143.a x2143.len x2143.cap), (Value.slice x2144.a x2144.len x2144.cap)]) fun h2145 =>
 Ri h2145 r3 0 fun x2146 =>
 Ri h2145 r3 1 fun x2147 =>
 Rs h2145 r3 2 fun x2148 =>
 Rs h2145 r3 3 fun x2149 =>
 Rs h2145 r3 4 fun x2150 =>
 Rs h2145 r3 5 fun x2151 =>
 Rs h2145 r3 6 fun x2152 =>
 Rs h2145 r3 7 fun x2153 =>
 Rs h2145 r3 8 fun x2154 =>
 VRet h2145 (Value.tuple (List.toArray [(Value.agg (List.toArray [(Value.int .i64 x2146), (Value.int .i64 x2147), (Value.slice x2148.a x2148.len x2148.cap), (Value.slice x2149.a x2149.len x2149.cap), (Value.slice x2150.a x2150.len x2150.cap), (Value.slice x2151.a x2151.len x2151.cap), (Value.slice x2152.a x2152.len x2152.cap), (Value.slice x2153.a x2153.len x2153.cap), (Value.slice x2154.a x2154.len x2154.cap)])), (Value.bool true), (Value.int .i64 x2133), (Value.int .i64 0)])) post))) ∧
 (
 ∃ x2155 : Int, H.rd h582 (Addr.add (Addr.add b1704 ((p1_p).toNat * 1)) 0) (Value.int .i64 x2155) ∧
 ∃ b2156 : Addr, x2040.a = some b2156 ∧ 0 ≤ x2155 ∧ x2155 < ((x2040.len : Nat) : Int) ∧
 (
 Ri h582 r1 0 fun x2157 =>
 Ri h582 r1 1 fun x2158 =>
 Rs h582 r1 2 fun x2159 =>
 Rs h582 r1 3 fun x2160 =>
 Rs h582 r1 4 fun x2161 =>
 Rs h582 r1 5 fun x2162 =>
 Rs h582 r1 6 fun x2163 =>
 Rs h582 r1 7 fun x2164 =>
 Rs h582 r1 8 fun x2165 =>
 (
 SemCall Go.Proofs.Tryd.prog 36 (List.toArray [(Value.agg (List.toArray [(Value.int .i64 x2157), (Value.int .i64 x2158), (Value.slice x2159.a x2159.len x2159.cap), (Value.slice x2160.a x2160.len x2160.cap), (Value.slice x2161.a x2161.len x2161.cap), (Value.slice x2162.a x2162.len x2162.cap), (Value.slice x2163.a x2163.len x2163.cap), (Value.slice x2164.a x2164.len x2164.cap), (Value.slice x2165.a x2165.len x2165.cap)])), (Value.int .i64 p1_p), (Value.int .i64 0)]) h582 fun v2166 h2167 =>
 ∃ x2168 : Int, ∃ x2169 : Int, ∃ x2170 : SV, ∃ x2171 : SV, ∃ x2172 : SV, ∃ x2173 : SV, ∃ x2174 : SV, ∃ x2175 : SV, ∃ x2176 : SV, v2166 = (Value.agg (List.toArray [(Value.int .i64 x2168), (Value.int .i64 x2169), (Value.slice x2170.a x2170.len x2170.cap), (Value.slice x2171.a x2171.len x2171.cap), (Value.slice x2172.a x2172.len x2172.cap), (Value.slice x2173.a x2173.len x2173.cap), (Value.slice x2174.a x2174.len x2174.cap), (Value.slice x2175.a x2175.len x2175.cap), (Value.slice x2176.a x2176.len x2176.cap)])) ∧
 (
 ∃ x2177 : Int, H.rd h2167 (Addr.add (Addr.add b2156 ((x2155).toNat * 1)) 0) (Value.int .i64 x2177) ∧
 ([(Value.int .i64 x2168), (Value.int .i64 x2169), (Value.slice x2170.a x2170.len x2170.cap), (Value.slice x2171.a x2171.len x2171.cap), (Value.slice x2172.a x2172.len x2172.cap), (Value.slice x2173.a x2173.len x2173.cap), (Value.slice x2174.a x2174.len x2174.cap), (Value.slice x2175.a x2175.len x2175.cap), (Value.slice x2176.a x2176.len x2176.cap)]).length = 9 ∧ (Program.underlying Go.Proofs.Tryd.prog 50).isSome = true ∧
 H.wr h2167 (Addr.mk r3 0 none) ([(Value.int .i64 x2168), (Value.int .i64 x2169), (Value.slice x2170.a x2170.len x2170.cap), (Value.slice x2171.a x2171.len x2171.cap), (Value.slice x2172.a x2172.len x2172.cap), (Value.slice x2173.a x2173.len x2173.cap), (Value.slice x2174.a x2174.len x2174.cap), (Value.slice x2175.a x2175.len x2175.cap), (Value.slice x2176.a x2176.len x2176.cap)]) fun h2178 =>
 Ri h2178 r3 0 fun x2179 =>
 Ri h2178 r3 1 fun x2180 =>
 Rs h2178 r3 2 fun x2181 =>
 Rs h2178 r3 3 fun x2182 =>
 Rs h2178 r3 4 fun x2183 =>
 Rs h2178 r3 5 fun x2184 =>
 Rs h2178 r3 6 fun x2185 =>
 Rs h2178 r3 7 fun x2186 =>
 Rs h2178 r3 8 fun x2187 =>
 VRet h2178 (Value.tuple (List.toArray [(Value.agg (List.toArray [(Value.int .i64 x2179), (Value.int .i64 x2180), (Value.slice x2181.a x2181.len x2181.cap), (Value.slice x2182.a x2182.len x2182.cap), (Value.slice x2183.a x2183.len x2183.cap), (Value.slice x2184.a x2184.len x2184.cap), (Value.slice x2185.a x2185.len x2185.cap), (Value.slice x2186.a x2186.len x2186.cap), (Value.slice x2187.a x2187.len x2187.cap)])), (Value.bool true), (Value.int .i64 x2177), (Value.int .i64 0)])) post) ∧
 (
 ([(Value.int .i64 x2168), (Value.int .i64 x2169), (Value.slice x2170.a x2170.len x2170.cap), (Value.slice x2171.a x2171.len x2171.cap), (Value.slice x2172.a x2172.len x2172.cap), (Value.slice x2173.a x2173.len x2173.cap), (Value.slice x2174.a x2174.len x2174.cap), (Value.slice x2175.a x2175.len x2175.cap), (Value.slice x2176.a x2176.len x2176.cap)]).length = 9 ∧ (Program.underlying Go.Proofs.Tryd.prog 50).isSome = true ∧
 H.wr h2167 (Addr.mk r3 0 none) ([(Value.int .i64 x2168), (Value.int .i64 x2169), (Value.slice x2170.a x2170.len x2170.cap), (Value.slice x2171.a x2171.len x2171.cap), (Value.slice x2172.a x2172.len x2172.cap), (Value.slice x2173.a x2173.len x2173.cap), (Value.slice x2174.a x2174.len x2174.cap), (Value.slice x2175.a x2175.len x2175.cap), (Value.slice x2176.a x2176.len x2176.cap)]) fun h2188 =>
 ∃ x2189 : Int, H.rd h2188 (Addr.add (Addr.add b2156 ((x2155).toNat * 1)) 0) (Value.int .i64 x2189) ∧
 Ri h2188 r3 0 fun x2190 =>
 Ri h2188 r3 1 fun x2191 =>
 Rs h2188 r3 2 fun x2192 =>
 Rs h2188 r3 3 fun x2193 =>
 Rs h2188 r3 4 fun x2194 =>
 Rs h2188 r3 5 fun x2195 =>
 Rs h2188 r3 6 fun x2196 =>
 Rs h2188 r3 7 fun x2197 =>
 Rs h2188 r3 8 fun x2198 =>
 VRet h2188 (Value.tuple (List.toArray [(Value.agg (List.toArray [(Value.int .i64 x2190), (Value.int .i64 x2191), (Value.slice x2192.a x2192.len x2192.cap), (Value.slice x2193.a x2193.len x2193.cap), (Value.slice x2194.a x2194.len x2194.cap), (Value.slice x2195.a x2195.len x2195.cap), (Value.slice x2196.a x2196.len x2196.cap), (Value.slice x2197.a x2197.len x2197.cap), (Value.slice x2198.a x2198.len x2198.cap)])), (Value.bool true), (Value.int .i64 x2189), (Value.int .i64 0)])) post)) ∧
 (
 ∃ x2199 : Int, H.rd h582 (Addr.add (Addr.add b2156 ((x2155).toNat * 1)) 0) (Value.int .i64 x2199) ∧
 SemCall Go.Proofs.Tryd.prog 36 (List.toArray [(Value.agg (List.toArray [(Value.int .i64 x2157), (Value.int .i64 x2158), (Value.slice x2159.a x2159.len x2159.cap), (Value.slice x2160.a x2160.len x2160.cap), (Value.slice x2161.a x2161.len x2161.cap), (Value.slice x2162.a x2162.len x2162.cap), (Value.slice x2163.a x2163.len x2163.cap), (Value.slice x2164.a x2164.len x2164.cap), (Value.slice x2165.a x2165.len x2165.cap)])), (Value.int .i64 p1_p), (Value.int .i64 0)]) h582 fun v2200 h2201 =>
 ∃ x2202 : Int, ∃ x2203 : Int, ∃ x2204 : SV, ∃ x2205 : SV, ∃ x2206 : SV, ∃ x2207 : SV, ∃ x2208 : SV, ∃ x2209 : SV, ∃ x2210 : SV, v2200 = (Value.agg (List.toArray [(Value.int .i64 x2202), (Value.int .i64 x2203), (Value.slice x2204.a x2204.len x2204.cap), (Value.slice x2205.a x2205.len x2205.cap), (Value.slice x2206.a x2206.len x2206.cap), (Value.slice x2207.a x2207.len x2207.cap), (Value.slice x2208.a x2208.len x2208.cap), (Value.slice x2209.a x2209.len x2209.cap), (Value.slice x2210.a x2210.len x2210.cap)])) ∧
 ([(Value.int .i64 x2202), (Value.int .i64 x2203), (Value.slice x2204.a x2204.len x2204.cap), (Value.slice x2205.a x2205.len x2205.cap), (Value.slice x2206.a x2206.len x2206.cap), (Value.slice x2207.a x2207.len x2207.cap), (Value.slice x2208.a x2208.len x2208.cap), (Value.slice x2209.a x2209.len x2209.cap), (Value.slice x2210.a x2210.len x2210.cap)]).length = 9 ∧ (Program.underlying Go.Proofs.Tryd.prog 50).isSome = true ∧
 H.wr h2201 (Addr.mk r3 0 none) ([(Value.int .i64 x2202), (Value.int .i64 x2203), (Value.slice x2204.a x2204.len x2204.cap), (Value.slice x2205.a x2205.len x2205.cap), (Value.slice x2206.a x2206.len x2206.cap), (Value.slice x2207.a x2207.len x2207.cap), (Value.slice x2208.a x2208.len x2208.cap), (Value.slice x2209.a x2209.len x2209.cap), (Value.slice x2210.a x2210.len x2210.cap)]) fun h2211 =>
 Ri h2211 r3 0 fun x2212 =>
 Ri h2211 r3 1 fun x2213 =>
 Rs h2211 r3 2 fun x2214 =>
 Rs h2211 r3 3 fun x2215 =>
 Rs h2211 r3 4 fun x2216 =>
 Rs h2211 r3 5 fun x2217 =>
 Rs h2211 r3 6 fun x2218 =>
 Rs h2211 r3 7 fun x2219 =>
 Rs h2211 r3 8 fun x2220 =>
 VRet h2211 (Value.tuple (List.toArray [(Value.agg (List.toArray [(Value.int .i64 x2212), (Value.int .i64 x2213), (Value.slice x2214.a x2214.len x2214.cap), (Value.slice x2215.a x2215.len x2215.cap), (Value.slice x2216.a x2216.len x2216.cap), (Value.slice x2217.a x2217.len x2217.cap), (Value.slice x2218.a x2218.len x2218.cap), (Value.slice x2219.a x2219.len x2219.cap), (Value.slice x2220.a x2220.len x2220.cap)])), (Value.bool true), (Value.int .i64 x2199), (Value.int .i64 0)])) post)) ∧
 (
 ∃ x2221 : Int, H.rd h582 (Addr.add (Addr.add b2156 ((x2155).toNat * 1)) 0) (Value.int .i64 x2221) ∧
 Ri h582 r1 0 fun x2222 =>
 Ri h582 r1 1 fun x2223 =>
 Rs h582 r1 2 fun x2224 =>
 Rs h582 r1 3 fun x2225 =>
 Rs h582 r1 4 fun x2226 =>
 Rs h582 r1 5 fun x2227 =>
 Rs h582 r1 6 fun x2228 =>
 Rs h582 r1 7 fun x2229 =>
 Rs h582 r1 8 fun x2230 =>
 SemCall Go.Proofs.Tryd.prog 36 (List.toArray [(Value.agg (List.toArray [(Value.int .i64 x2222), (Value.int .i64 x2223), (Value.slice x2224.a x2224.len x2224.cap), (Value.slice x2225.a x2225.len x2225.cap), (Value.slice x2226.a x2226.len x2226.cap), (Value.slice x2227.a x2227.len x2227.cap), (Value.slice x2228.a x2228.len x2228.cap), (Value.slice x2229.a x2229.len x2229.cap), (Value.slice x2230.a x2230.len x2230.cap)])), (Value.int .i64 p1_p), (Value.int .i64 0)]) h582 fun v2231 h2232 =>
 ∃ x2233 : Int, ∃ x2234 : Int, ∃ x2235 : SV, ∃ x2236 : SV, ∃ x2237 : SV, ∃ x2238 : SV, ∃ x2239 : SV, ∃ x2240 : SV, ∃ x2241 : SV, v2231 = (Value.agg (List.toArray [(Value.int .i64 x2233), (Value.int .i64 x2234), (Value.slice x2235.a x2235.len x2235.cap), (Value.slice x2236.a x2236.len x2236.cap), (Value.slice x2237.a x2237.len x2237.cap), (Value.slice x2238.a x2238.len x2238.cap), (Value.slice x2239.a x2239.len x2239.cap), (Value.slice x2240.a x2240.len x2240.cap), (Value.slice x2241.a x2241.len x2241.cap)])) ∧
 ([(Value.int .i64 x2233), (Value.int .i64 x2234), (Value.slice x2235.a x2235.len x2235.cap), (Value.slice x2236.a x2236.len x2236.cap), (Value.slice x2237.a x2237.len x2237.cap), (Value.slice x2238.a x2238.len x2238.cap), (Value.slice x2239.a x2239.len x2239.cap), (Value.slice x2240.a x2240.len x2240.cap), (Value.slice x2241.a x2241.len x2241.cap)]).length = 9 ∧ (Program.underlying Go.Proofs.Tryd.prog 50).isSome = true ∧
 H.wr h2232 (Addr.mk r3 0 none) ([(Value.int .i64 x2233), (Value.int .i64 x2234), (Value.slice x2235.a x2235.len x2235.cap), (Value.slice x2236.a x2236.len x2236.cap), (Value.slice x2237.a x2237.len x2237.cap), (Value.slice x2238.a x2238.len x2238.cap), (Value.slice x2239.a x2239.len x2239.cap), (Value.slice x2240.a x2240.len x2240.cap), (Value.slice x2241.a x2241.len x2241.cap)]) fun h2242 =>
 Ri h2242 r3 0 fun x2243 =>
 Ri h2242 r3 1 fun x2244 =>
 Rs h2242 r3 2 fun x2245 =>
 Rs h2242 r3 3 fun x2246 =>
 Rs h2242 r3 4 fun x2247 =>
 Rs h2242 r3 5 fun x2248 =>
 Rs h2242 r3 6 fun x2249 =>
 Rs h2242 r3 7 fun x2250 =>
 Rs h2242 r3 8 fun x2251 =>
 VRet h2242 (Value.tuple (List.toArray [(Value.agg (List.toArray [(Value.int .i64 x2243), (Value.int .i64 x2244), (Value.slice x2245.a x2245.len x2245.cap), (Value.slice x2246.a x2246.len x2246.cap), (Value.slice x2247.a x2247.len x2247.cap), (Value.slice x2248.a x2248.len x2248.cap), (Value.slice x2249.a x2249.len x2249.cap), (Value.slice x2250.a x2250.len x2250.cap), (Value.slice x2251.a x2251.len x2251.cap)])), (Value.bool true), (Value.int .i64 x2221), (Value.int .i64 0)])) post))) ∧
 (
 ∃ x2252 : Int, H.rd h582 (Addr.add (Addr.add b1704 ((p1_p).toNat * 1)) 0) (Value.int .i64 x2252) ∧
 (
 Ri h582 r1 0 fun x2253 =>
 Ri h582 r1 1 fun x2254 =>
 Rs h582 r1 2 fun x2255 =>
 Rs h582 r1 3 fun x2256 =>
 Rs h582 r1 4 fun x2257 =>
 Rs h582 r1 5 fun x2258 =>
 Rs h582 r1 6 fun x2259 =>
 Rs h582 r1 7 fun x2260 =>
 Rs h582 r1 8 fun x2261 =>
 (
 SemCall Go.Proofs.Tryd.prog 36 (List.toArray [(Value.agg (List.toArray [(Value.int .i64 x2253), (Value.int .i64 x2254), (Value.slice x2255.a x2255.len x2255.cap), (Value.slice x2256.a x2256.len x2256.cap), (Value.slice x2257.a x2257.len x2257.cap), (Value.slice x2258.a x2258.len x2258.cap), (Value.slice x2259.a x2259.len x2259.cap), (Value.slice x2260.a x2260.len x2260.cap), (Value.slice x2261.a x2261.len x2261.cap)])), (Value.int .i64 p1_p), (Value.int .i64 0)]) h582 fun v2262 h2263 =>
 ∃ x2264 : Int, ∃ x2265 : Int, ∃ x2266 : SV, ∃ x2267 : SV, ∃ x2268 : SV, ∃ x2269 : SV, ∃ x2270 : SV, ∃ x2271 : SV, ∃ x2272 : SV, v2262 = (Value.agg (List.toArray [(Value.int .i64 x2264), (Value.int .i64 x2265), (Value.slice x2266.a x2266.len x2266.cap), (Value.slice x2267.a x2267.len x2267.cap), (Value.slice x2268.a x2268.len x2268.cap), (Value.slice x2269.a x2269.len x2269.cap), (Value.slice x2270.a x2270.len x2270.cap), (Value.slice x2271.a x2271.len x2271.cap), (Value.slice x2272.a x2272.len x2272.cap)])) ∧
 (
 ∃ x2273 : SV, H.rd h2263 (Addr.add (Addr.add (Addr.mk r1 0 none) 2) 0) (Value.slice x2273.a x2273.len x2273.cap) ∧
 ∃ b2274 : Addr, x2273.a = some b2274 ∧ 0 ≤ x2252 ∧ x2252 < ((x2273.len : Nat) : Int) ∧
 (
 ∃ x2275 : Int, H.rd h2263 (Addr.add (Addr.add b2274 ((x2252).toNat * 1)) 0) (Value.int .i64 x2275) ∧
 ([(Value.int .i64 x2264), (Value.int .i64 x2265), (Value.slice x2266.a x2266.len x2266.cap), (Value.slice x2267.a x2267.len x2267.cap), (Value.slice x2268.a x2268.len x2268.cap), (Value.slice x2269.a x2269.len x2269.cap), (Value.slice x2270.a x2270.len x2270.cap), (Value.slice x2271.a x2271.len x2271.cap), (Value.slice x2272.a x2272.len x2272.cap)]).length = 9 ∧ (Program.underlying Go.Proofs.Tryd.prog 50).isSome = true ∧
 H.wr h2263 (Addr.mk r3 0 none) ([(Value.int .i64 x2264), (Value.int .i64 x2265), (Value.slice x2266.a x2266.len x2266.cap), (Value.slice x2267.a x2267.len x2267.cap), (Value.slice x2268.a x2268.len x2268.cap), (Value.slice x2269.a x2269.len x2269.cap), (Value.slice x2270.a x2270.len x2270.cap), (Value.slice x2271.a x2271.len x2271.cap), (Value.slice x2272.a x2272.len x2272.cap)]) fun h2276 =>
 Ri h2276 r3 0 fun x2277 =>
 Ri h2276 r3 1 fun x2278 =>
 Rs h2276 r3 2 fun x2279 =>
 Rs h2276 r3 3 fun x2280 =>
 Rs h2276 r3 4 fun x2281 =>
 Rs h2276 r3 5 fun x2282 =>
 Rs h2276 r3 6 fun x2283 =>
 Rs h2276 r3 7 fun x2284 =>
 Rs h2276 r3 8 fun x2285 =>
 VRet h2276 (Value.tuple (List.toArray [(Value.agg (List.toArray [(Value.int .i64 x2277), (Value.int .i64 x2278), (Value.slice x2279.a x2279.len x2279.cap), (Value.slice x2280.a x2280.len x2280.cap), (Value.slice x2281.a x2281.len x2281.cap), (Value.slice x2282.a x2282.len x2282.cap), (Value.slice x2283.a x2283.len x2283.cap), (Value.slice x2284.a x2284.len x2284.cap), (Value.slice x2285.a x2285.len x2285.cap)])), (Value.bool true), (Value.int .i64 x2275), (Value.int .i64 0)])) post) ∧
 (
 ([(Value.int .i64 x2264), (Value.int .i64 x2265), (Value.slice x2266.a x2266.len x2266.cap), (Value.slice x2267.a x2267.len x2267.cap), (Value.slice x2268.a x2268.len x2268.cap), (Value.slice x2269.a x2269.len x2269.cap), (Value.slice x2270.a x2270.len x2270.cap), (Value.slice x2271.a x2271.len x2271.cap), (Value.slice x2272.a x2272.len x2272.cap)]).length = 9 ∧ (Program.underlying Go.Proofs.Tryd.prog 50).isSome = true ∧
 H.wr h2263 (Addr.mk r3 0 none) ([(Value.int .i64 x2264), (Value.int .i64 x2265), (Value.slice x2266.a x2266.len x2266.cap), (Value.slice x2267.a x2267.len x2267.cap), (Value.slice x2268.a x2268.len x2268.cap), (Value.slice x2269.a x2269.len x2269.cap), (Value.slice x2270.a x2270.len x2270.cap), (Value.slice x2271.a x2271.len x2271.cap), (Value.slice x2272.a x2272.len x2272.cap)]) fun h2286 =>
 ∃ x2287 : Int, H.rd h2286 (Addr.add (Addr.add b2274 ((x2252).toNat * 1)) 0) (Value.int .i64 x2287) ∧
 Ri h2286 r3 0 fun x2288 =>
 Ri h2286 r3 1 fun x2289 =>
 Rs h2286 r3 2 fun x2290 =>
 Rs h2286 r3 3 fun x2291 =>
 Rs h2286 r3 4 fun x2292 =>
 Rs h2286 r3 5 fun x2293 =>
 Rs h2286 r3 6 fun x2294 =>
 Rs h2286 r3 7 fun x2295 =>
 Rs h2286 r3 8 fun x2296 =>
 VRet h2286 (Value.tuple (List.toArray [(Value.agg (List.toArray [(Value.int .i64 x2288), (Value.int .i64 x2289), (Value.slice x2290.a x2290.len x2290.cap), (Value.slice x2291.a x2291.len x2291.cap), (Value.slice x2292.a x2292.len x2292.cap), (Value.slice x2293.a x2293.len x2293.cap), (Value.slice x2294.a x2294.len x2294.cap), (Value.slice x2295.a x2295.len x2295.cap), (Value.slice x2296.a x2296.len x2296.cap)])), (Value.bool true), (Value.int .i64 x2287), (Value.int .i64 0)])) post)) ∧
 (
 ([(Value.int .i64 x2264), (Value.int .i64 x2265), (Value.slice x2266.a x2266.len x2266.cap), (Value.slice x2267.a x2267.len x2267.cap), (Value.slice x2268.a x2268.len x2268.cap), (Value.slice x2269.a x2269.len x2269.cap), (Value.slice x2270.a x2270.len x2270.cap), (Value.slice x2271.a x2271.len x2271.cap), (Value.slice x2272.a x2272.len x2272.cap)]).length = 9 ∧ (Program.underlying Go.Proofs.Tryd.prog 50).isSome = true ∧
 H.wr h2263 (Addr.mk r3 0 none) ([(Value.int .i64 x2264), (Value.int .i64 x2265), (Value.slice x2266.a x2266.len x2266.cap), (Value.slice x2267.a x2267.len x2267.cap), (Value.slice x2268.a x2268.len x2268.cap), (Value.slice x2269.a x2269.len x2269.cap), (Value.slice x2270.a x2270.len x2270.cap), (Value.slice x2271.a x2271.len x2271.cap), (Value.slice x2272.a x2272.len x2272.cap)]) fun h2297 =>
 ∃ x2298 : SV, H.rd h2297 (Addr.add (Addr.add (Addr.mk r1 0 none) 2) 0) (Value.slice x2298.a x2298.len x2298.cap) ∧
 ∃ b2299 : Addr, x2298.a = some b2299 ∧ 0 ≤ x2252 ∧ x2252 < ((x2298.len : Nat) : Int) ∧
 ∃ x2300 : Int, H.rd h2297 (Addr.add (Addr.add b2299 ((x2252).toNat * 1)) 0) (Value.int .i64 x2300) ∧
 Ri h2297 r3 0 fun x2301 =>
 Ri h2297 r3 1 fun x2302 =>
 Rs h2297 r3 2 fun x2303 =>
 Rs h2297 r3 3 fun x2304 =>
 Rs h2297 r3 4 fun x2305 =>
 Rs h2297 r3 5 fun x2306 =>
 Rs h2297 r3 6 fun x2307 =>
 Rs h2297 r3 7 fun x2308 =>
 Rs h2297 r3 8 fun x2309 =>
 VRet h2297 (Value.tuple (List.toArray [(Value.agg (List.toArray [(Value.int .i64 x2301), (Value.int .i64 x2302), (Value.slice x2303.a x2303.len x2303.cap), (Value.slice x2304.a x2304.len x2304.cap), (Value.slice x2305.a x2305.len x2305.cap), (Value.slice x2306.a x2306.len x2306.cap), (Value.slice x2307.a x2307.len x2307.cap), (Value.slice x2308.a x2308.len x2308.cap), (Value.slice x2309.a x2309.len x2309.cap)])), (Value.bool true), (Value.int .i64 x2300), (Value.int .i64 0)])) post)) ∧
 (
 ∃ x2310 : SV, H.rd h582 (Addr.add (Addr.add (Addr.mk r1 0 none) 2) 0) (Value.slice x2310.a x2310.len x2310.cap) ∧
 ∃ b2311 : Addr, x2310.a = some b2311 ∧ 0 ≤ x2252 ∧ x2252 < ((x2310.len : Nat) : Int) ∧
 (
 SemCall Go.Proofs.Tryd.prog 36 (List.toArray [(Value.agg (List.toArray [(Value.int .i64 x2253), (Value.int .i64 x2254), (Value.slice x2255.a x2255.len x2255.cap), (Value.slice x2256.a x2256.len x2256.cap), (Value.slice x2257.a x2257.len x2257.cap), (Value.slice x2258.a x2258.len x2258.cap), (Value.slice x2259.a x2259.len x2259.cap), (Value.slice x2260.a x2260.len x2260.cap), (Value.slice x2261.a x2261.len x2261.cap)])), (Value.int .i64 p1_p), (Value.int .i64 0)]) h582 fun v2312 h2313 =>
 ∃ x2314 : Int, ∃ x2315 : Int, ∃ x2316 : SV, ∃ x2317 : SV, ∃ x2318 : SV, ∃ x2319 : SV, ∃ x2320 : SV, ∃ x2321 : SV, ∃ x2322 : SV, v2312 = (Value.agg (List.toArray [(Value.int .i64 x2314), (Value.int .i64 x2315), (Value.slice x2316.a x2316.len x2316.cap), (Value.slice x2317.a x2317.len x2317.cap), (Value.slice x2318.a x2318.len x2318.cap), (Value.slice x2319.a x2319.len x2319.cap), (Value.slice x2320.a x2320.len x2320.cap), (Value.slice x2321.a x2321.len x2321.cap), (Value.slice x2322.a x2322.len x2322.cap)])) ∧
 (
 ∃ x2323 : Int, H.rd h2313 (Addr.add (Addr.add b2311 ((x2252).toNat * 1)) 0) (Value.int .i64 x2323) ∧
 ([(Value.int .i64 x2314), (Value.int .i64 x2315), (Value.slice x2316.a x2316.len x2316.cap), (Value.slice x2317.a x2317.len x2317.cap), (Value.slice x2318.a x2318.len x2318.cap), (Value.slice x2319.a x2319.len x2319.cap), (Value.slice x2320.a x2320.len x2320.cap), (Value.slice x2321.a x2321.len x2321.cap), (Value.slice x2322.a x2322.len x2322.cap)]).length = 9 ∧ (Program.underlying Go.Proofs.Tryd.prog 50).isSome = true ∧
 H.wr h2313 (Addr.mk r3 0 none) ([(Value.int .i64 x2314), (Value.int .i64 x2315), (Value.slice x2316.a x2316.len x2316.cap), (Value.slice x2317.a x2317.len x2317.cap), (Value.slice x2318.a x2318.len x2318.cap), (Value.slice x2319.a x2319.len x2319.cap), (Value.slice x2320.a x2320.len x2320.cap), (Value.slice x2321.a x2321.len x2321.cap), (Value.slice x2322.a x2322.len x2322.cap)]) fun h2324 =>
 Ri h2324 r3 0 fun x2325 =>
 Ri h2324 r3 1 fun x2326 =>
 Rs h2324 r3 2 fun x2327 =>
 Rs h2324 r3 3 fun x2328 =>
 Rs h2324 r3 4 fun x2329 =>
 Rs h2324 r3 5 fun x2330 =>
 Rs h2324 r3 6 fun x2331 =>
 Rs h2324 r3 7 fun x2332 =>
 Rs h2324 r3 8 fun x2333 =>
 VRet h2324 (Value.tuple (List.toArray [(Value.agg (List.toArray [(Value.int .i64 x2325), (Value.int .i64 x2326), (Value.slice x2327.a x2327.len x2327.cap), (Value.slice x2328.a x2328.len x2328.cap), (Value.slice x2329.a x2329.len x2329.cap), (Value.slice x2330.a x2330.len x2330.cap), (Value.slice x2331.a x2331.len x2331.cap), (Value.slice x2332.a x2332.len x2332.cap), (Value.slice x2333.a x2333.len x2333.cap)])), (Value.bool true), (Value.int .i64 x2323), (Value.int .i64 0)])) post) ∧
 (
 ([(Value.int .i64 x2314), (Value.int .i64 x2315), (Value.slice x2316.a x2316.len x2316.cap), (Value.slice x2317.a x2317.len x2317.cap), (Value.slice x2318.a x2318.len x2318.cap), (Value.slice x2319.a x2319.len x2319.cap), (Value.slice x2320.a x2320.len x2320.cap), (Value.slice x2321.a x2321.len x2321.cap), (Value.slice x2322.a x2322.len x2322.cap)]).length = 9 ∧ (Program.underlying Go.Proofs.Tryd.prog 50).isSome = true ∧
 H.wr h2313 (Addr.mk r3 0 none) ([(Value.int .i64 x2314), (Value.int .i64 x2315), (Value.slice x2316.a x2316.len x2316.cap), (Value.slice x2317.a x2317.len x2317.cap), (Value.slice x2318.a x2318.len x2318.cap), (Value.slice x2319.a x2319.len x2319.cap), (Value.slice x2320.a x2320.len x2320.cap), (Value.slice x2321.a x2321.len x2321.cap), (Value.slice x2322.a x2322.len x2322.cap)]) fun h2334 =>
 ∃ x2335 : Int, H.rd h2334 (Addr.add (Addr.add b2311 ((x2252).toNat * 1)) 0) (Value.int .i64 x2335) ∧
 Ri h2334 r3 0 fun x2336 =>
 Ri h2334 r3 1 fun x2337 =>
 Rs h2334 r3 2 fun x2338 =>
 Rs h2334 r3 3 fun x2339 =>
 Rs h2334 r3 4 fun x2340 =>
 Rs h2334 r3 5 fun x2341 =>
 Rs h2334 r3 6 fun x2342 =>
 Rs h2334 r3 7 fun x2343 =>
 Rs h2334 r3 8 fun x2344 =>
 VRet h2334 (Value.tuple (List.toArray [(Value.agg (List.toArray [(Value.int .i64 x2336), (Value.int .i64 x2337), (Value.slice x2338.a x2338.len x2338.cap), (Value.slice x2339.a x2339.len x2339.cap), (Value.slice x2340.a x2340.len x2340.cap), (Value.slice x2341.a x2341.len x2341.cap), (Value.slice x2342.a x2342.len x2342.cap), (Value.slice x2343.a x2343.len x2343.cap), (Value.slice x2344.a x2344.len x2344.cap)])), (Value.bool true), (Value.int .i64 x2335), (Value.int .i64 0)])) post)) ∧
 (
 ∃ x2345 : Int, H.rd h582 (Addr.add (Addr.add b2311 ((x2252).toNat * 1)) 0) (Value.int .i64 x2345) ∧
 SemCall Go.Proofs.Tryd.prog 36 (List.toArray [(Value.agg (List.toArray [(Value.int .i64 x2253), (Value.int .i64 x2254), (Value.slice x2255.a x2255.len x2255.cap), (Value.slice x2256.a x2256.len x2256.cap), (Value.slice x2257.a x2257.len x2257.cap), (Value.slice x2258.a x2258.len x2258.cap), (Value.slice x2259.a x2259.len x2259.cap), (Value.slice x2260.a x2260.len x2260.cap), (Value.slice x2261.a x2261.len x2261.cap)])), (Value.int .i64 p1_p), (Value.int .i64 0)]) h582 fun v2346 h2347 =>
 ∃ x2348 : Int, ∃ x2349 : Int, ∃ x2350 : SV, ∃ x2351 : SV, ∃ x2352 : SV, ∃ x2353 : SV, ∃ x2354 : SV, ∃ x2355 : SV, ∃ x2356 : SV, v2346 = (Value.agg (List.toArray [(Value.int .i64 x2348), (Value.int .i64 x2349), (Value.slice x2350.a x2350.len x2350.cap), (Value.slice x2351.a x2351.len x2351.cap), (Value.slice x2352.a x2352.len x2352.cap), (Value.slice x2353.a x2353.len x2353.cap), (Value.slice x2354.a x2354.len x2354.cap), (Value.slice x2355.a x2355.len x2355.cap), (Value.slice x2356.a x2356.len x2356.cap)])) ∧
 ([(Value.int .i64 x2348), (Value.int .i64 x2349), (Value.slice x2350.a x2350.len x2350.cap), (Value.slice x2351.a x2351.len x2351.cap), (Value.slice x2352.a x2352.len x2352.cap), (Value.slice x2353.a x2353.len x2353.cap), (Value.slice x2354.a x2354.len x2354.cap), (Value.slice x2355.a x2355.len x2355.cap), (Value.slice x2356.a x2356.len x2356.cap)]).length = 9 ∧ (Program.underlying Go.Proofs.Tryd.prog 50).isSome = true ∧
 H.wr h2347 (Addr.mk r3 0 none) ([(Value.int .i64 x2348), (Value.int .i64 x2349), (Value.slice x2350.a x2350.len x2350.cap), (Value.slice x2351.a x2351.len x2351.cap), (Value.slice x2352.a x2352.len x2352.cap), (Value.slice x2353.a x2353.len x2353.cap), (Value.slice x2354.a x2354.len x2354.cap), (Value.slice x2355.a x2355.len x2355.cap), (Value.slice x2356.a x2356.len x2356.cap)]) fun h2357 =>
 Ri h2357 r3 0 fun x2358 =>
 Ri h2357 r3 1 fun x2359 =>
 Rs h2357 r3 2 fun x2360 =>
 Rs h2357 r3 3 fun x2361 =>
 Rs h2357 r3 4 fun x2362 =>
 Rs h2357 r3 5 fun x2363 =>
 Rs h2357 r3 6 fun x2364 =>
 Rs h2357 r3 7 fun x2365 =>
 Rs h2357 r3 8 fun x2366 =>
 VRet h2357 (Value.tuple (List.toArray [(Value.agg (List.toArray [(Value.int .i64 x2358), (Value.int .i64 x2359), (Value.slice x2360.a x2360.len x2360.cap), (Value.slice x2361.a x2361.len x2361.cap), (Value.slice x2362.a x2362.len x2362.cap), (Value.slice x2363.a x2363.len x2363.cap), (Value.slice x2364.a x2364.len x2364.cap), (Value.slice x2365.a x2365.len x2365.cap), (Value.slice x2366.a x2366.len x2366.cap)])), (Value.bool true), (Value.int .i64 x2345), (Value.int .i64 0)])) post))) ∧
 (
 ∃ x2367 : SV, H.rd h582 (Addr.add (Addr.add (Addr.mk r1 0 none) 2) 0) (Value.slice x2367.a x2367.len x2367.cap) ∧
 ∃ b2368 : Addr, x2367.a = some b2368 ∧ 0 ≤ x2252 ∧ x2252 < ((x2367.len : Nat) : Int) ∧
 (
 Ri h582 r1 0 fun x2369 =>
 Ri h582 r1 1 fun x2370 =>
 Rs h582 r1 2 fun x2371 =>
 Rs h582 r1 3 fun x2372 =>
 Rs h582 r1 4 fun x2373 =>
 Rs h582 r1 5 fun x2374 =>
 Rs h582 r1 6 fun x2375 =>
 Rs h582 r1 7 fun x2376 =>
 Rs h582 r1 8 fun x2377 =>
 (
 SemCall Go.Proofs.Tryd.prog 36 (List.toArray [(Value.agg (List.toArray [(Value.int .i64 x2369), (Value.int .i64 x2370), (Value.slice x2371.a x2371.len x2371.cap), (Value.slice x2372.a x2372.len x2372.cap), (Value.slice x2373.a x2373.len x2373.cap), (Value.slice x2374.a x2374.len x2374.cap), (Value.slice x2375.a x2375.len x2375.cap), (Value.slice x2376.a x2376.len x2376.cap), (Value.slice x2377.a x2377.len x2377.cap)])), (Value.int .i64 p1_p), (Value.int .i64 0)]) h582 fun v2378 h2379 =>
 ∃ x2380 : Int, ∃ x2381 : Int, ∃ x2382 : SV, ∃ x2383 : SV, ∃ x2384 : SV, ∃ x2385 : SV, ∃ x2386 : SV, ∃ x2387 : SV, ∃ x2388 : SV, v2378 = (Value.agg (List.toArray [(Value.int .i64 x2380), (Value.int .i64 x2381), (Value.slice x2382.a x2382.len x2382.cap), (Value.slice x2383.a x2383.len x2383.cap), (Value.slice x2384.a x2384.len x2384.cap), (Value.slice x2385.a x2385.len x2385.cap), (Value.slice x2386.a x2386.len x2386.cap), (Value.slice x2387.a x2387.len x2387.cap), (Value.slice x2388.a x2388.len x2388.cap)])) ∧
 (
 ∃ x2389 : Int, H.rd h2379 (Addr.add (Addr.add b2368 ((x2252).toNat * 1)) 0) (Value.int .i64 x2389) ∧
 ([(Value.int .i64 x2380), (Value.int .i64 x2381), (Value.slice x2382.a x2382.len x2382.cap), (Value.slice x2383.a x2383.len x2383.cap), (Value.slice x2384.a x2384.len x2384.cap), (Value.slice x2385.a x2385.len x2385.cap), (Value.slice x2386.a x2386.len x2386.cap), (Value.slice x2387.a x2387.len x2387.cap), (Value.slice x2388.a x2388.len x2388.cap)]).length = 9 ∧ (Program.underlying Go.Proofs.Tryd.prog 50).isSome = true ∧
 H.wr h2379 (Addr.mk r3 0 none) ([(Value.int .i64 x2380), (Value.int .i64 x2381), (Value.slice x2382.a x2382.len x2382.cap), (Value.slice x2383.a x2383.len x2383.cap), (Value.slice x2384.a x2384.len x2384.cap), (Value.slice x2385.a x2385.len x2385.cap), (Value.slice x2386.a x2386.len x2386.cap), (Value.slice x2387.a x2387.len x2387.cap), (Value.slice x2388.a x2388.len x2388.cap)]) fun h2390 =>
 Ri h2390 r3 0 fun x2391 =>
 Ri h2390 r3 1 fun x2392 =>
 Rs h2390 r3 2 fun x2393 =>
 Rs h2390 r3 3 fun x2394 =>
 Rs h2390 r3 4 fun x2395 =>
 Rs h2390 r3 5 fun x2396 =>
 Rs h2390 r3 6 fun x2397 =>
 Rs h2390 r3 7 fun x2398 =>
 Rs h2390 r3 8 fun x2399 =>
 VRet h2390 (Value.tuple (List.toArray [(Value.agg (List.toArray [(Value.int .i64 x2391), (Value.int .i64 x2392), (Value.slice x2393.a x2393.len x2393.cap), (Value.slice x2394.a x2394.len x2394.cap), (Value.slice x2395.a x2395.len x2395.cap), (Value.slice x2396.a x2396.len x2396.cap), (Value.slice x2397.a x2397.len x2397.cap), (Value.slice x2398.a x2398.len x2398.cap), (Value.slice x2399.a x2399.len x2399.cap)])), (Value.bool true), (Value.int .i64 x2389), (Value.int .i64 0)])) post) ∧
 (
 ([(Value.int .i64 x2380), (Value.int .i64 x2381), (Value.slice x2382.a x2382.len x2382.cap), (Value.slice x2383.a x2383.len x2383.cap), (Value.slice x2384.a x2384.len x2384.cap), (Value.slice x2385.a x2385.len x2385.cap), (Value.slice x2386.a x2386.len x2386.cap), (Value.slice x2387.a x2387.len x2387.cap), (Value.slice x2388.a x2388.len x2388.cap)]).length = 9 ∧ (Program.underlying Go.Proofs.Tryd.prog 50).isSome = true ∧
 H.wr h2379 (Addr.mk r3 0 none) ([(Value.int .i64 x2380), (Value.int .i64 x2381), (Value.slice x2382.a x2382.len x2382.cap), (Value.slice x2383.a x2383.len x2383.cap), (Value.slice x2384.a x2384.len x2384.cap), (Value.slice x2385.a x2385.len x2385.cap), (Value.slice x2386.a x2386.len x2386.cap), (Value.slice x2387.a x2387.len x2387.cap), (Value.slice x2388.a x2388.len x2388.cap)]) fun h2400 =>
 ∃ x2401 : Int, H.rd h2400 (Addr.add (Addr.add b2368 ((x2252).toNat * 1)) 0) (Value.int .i64 x2401) ∧
 Ri h2400 r3 0 fun x2402 =>
 Ri h2400 r3 1 fun x2403 =>
 Rs h2400 r3 2 fun x2404 =>
 Rs h2400 r3 3 fun x2405 =>
 Rs h2400 r3 4 fun x2406 =>
 Rs h2400 r3 5 fun x2407 =>
 Rs h2400 r3 6 fun x2408 =>
 Rs h2400 r3 7 fun x2409 =>
 Rs h2400 r3 8 fun x2410 =>
 VRet h2400 (Value.tuple (List.toArray [(Value.agg (List.toArray [(Value.int .i64 x2402), (Value.int .i64 x2403), (Value.slice x2404.a x2404.len x2404.cap), (Value.slice x2405.a x2405.len x2405.cap), (Value.slice x2406.a x2406.len x2406.cap), (Value.slice x2407.a x2407.len x2407.cap), (Value.slice x2408.a x2408.len x2408.cap), (Value.slice x2409.a x2409.len x2409.cap), (Value.slice x2410.a x2410.len x2410.cap)])), (Value.bool true), (Value.int .i64 x2401), (Value.int .i64 0)])) post)) ∧
 (
 ∃ x2411 : Int, H.rd h582 (Addr.add (Addr.add b2368 ((x2252).toNat * 1)) 0) (Value.int .i64 x2411) ∧
 SemCall Go.Proofs.Tryd.prog 36 (List.toArray [(Value.agg (List.toArray [(Value.int .i64 x2369), (Value.int .i64 x2370), (Value.slice x2371.a x2371.len x2371.cap), (Value.slice x2372.a x2372.len x2372.cap), (Value.slice x2373.a x2373.len x2373.cap), (Value.slice x2374.a x2374.len x2374.cap), (Value.slice x2375.a x2375.len x2375.cap), (Value.slice x2376.a x2376.len x2376.cap), (Value.slice x2377.a x2377.len x2377.cap)])), (Value.int .i64 p1_p), (Value.int .i64 0)]) h582 fun v2412 h2413 =>
 ∃ x2414 : Int, ∃ x2415 : Int, ∃ x2416 : SV, ∃ x2417 : SV, ∃ x2418 : SV, ∃ x2419 : SV, ∃ x2420 : SV, ∃ x2421 : SV, ∃ x2422 : SV, v2412 = (Value.agg (List.toArray [(Value.int .i64 x2414), (Value.int .i64 x2415), (Value.slice x2416.a x2416.len x2416.cap), (Value.slice x2417.a x2417.len x2417.cap), (Value.slice x2418.a x2418.len x2418.cap), (Value.slice x2419.a x2419.len x2419.cap), (Value.slice x2420.a x2420.len x2420.cap), (Value.slice x2421.a x2421.len x2421.cap), (Value.slice x2422.a x2422.len x2422.cap)])) ∧
 ([(Value.int .i64 x2414), (Value.int .i64 x2415), (Value.slice x2416.a x2416.len x2416.cap), (Value.slice x2417.a x2417.len x2417.cap), (Value.slice x2418.a x2418.len x2418.cap), (Value.slice x2419.a x2419.len x2419.cap), (Value.slice x2420.a x2420.len x2420.cap), (Value.slice x2421.a x2421.len x2421.cap), (Value.slice x2422.a x2422.len x2422.cap)]).length = 9 ∧ (Program.underlying Go.Proofs.Tryd.prog 50).isSome = true ∧
 H.wr h2413 (Addr.mk r3 0 none) ([(Value.int .i64 x2414), (Value.int .i64 x2415), (Value.slice x2416.a x2416.len x2416.cap), (Value.slice x2417.a x2417.len x2417.cap), (Value.slice x2418.a x2418.len x2418.cap), (Value.slice x2419.a x2419.len x2419.cap), (Value.slice x2420.a x2420.len x2420.cap), (Value.slice x2421.a x2421.len x2421.cap), (Value.slice x2422.a x2422.len x2422.cap)]) fun h2423 =>
 Ri h2423 r3 0 fun x2424 =>
 Ri h2423 r3 1 fun x2425 =>
 Rs h2423 r3 2 fun x2426 =>
 Rs h2423 r3 3 fun x2427 =>
 Rs h2423 r3 4 fun x2428 =>
 Rs h2423 r3 5 fun x2429 =>
 Rs h2423 r3 6 fun x2430 =>
 Rs h2423 r3 7 fun x2431 =>
 Rs h2423 r3 8 fun x2432 =>
 VRet h2423 (Value.tuple (List.toArray [(Value.agg (List.toArray [(Value.int .i64 x2424), (Value.int .i64 x2425), (Value.slice x2426.a x2426.len x2426.cap), (Value.slice x2427.a x2427.len x2427.cap), (Value.slice x2428.a x2428.len x2428.cap), (Value.slice x2429.a x2429.len x2429.cap), (Value.slice x2430.a x2430.len x2430.cap), (Value.slice x2431.a x2431.len x2431.cap), (Value.slice x2432.a x2432.len x2432.cap)])), (Value.bool true), (Value.int .i64 x2411), (Value.int .i64 0)])) post)) ∧
 (
 ∃ x2433 : Int, H.rd h582 (Addr.add (Addr.add b2368 ((x2252).toNat * 1)) 0) (Value.int .i64 x2433) ∧
 Ri h582 r1 0 fun x2434 =>
 Ri h582 r1 1 fun x2435 =>
 Rs h582 r1 2 fun x2436 =>
 Rs h582 r1 3 fun x2437 =>
 Rs h582 r1 4 fun x2438 =>
 Rs h582 r1 5 fun x2439 =>
 Rs h582 r1 6 fun x2440 =>
 Rs h582 r1 7 fun x2441 =>
 Rs h582 r1 8 fun x2442 =>
 SemCall Go.Proofs.Tryd.prog 36 (List.toArray [(Value.agg (List.toArray [(Value.int .i64 x2434), (Value.int .i64 x2435), (Value.slice x2436.a x2436.len x2436.cap), (Value.slice x2437.a x2437.len x2437.cap), (Value.slice x2438.a x2438.len x2438.cap), (Value.slice x2439.a x2439.len x2439.cap), (Value.slice x2440.a x2440.len x2440.cap), (Value.slice x2441.a x2441.len x2441.cap), (Value.slice x2442.a x2442.len x2442.cap)])), (Value.int .i64 p1_p), (Value.int .i64 0)]) h582 fun v2443 h2444 =>
 ∃ x2445 : Int, ∃ x2446 : Int, ∃ x2447 : SV, ∃ x2448 : SV, ∃ x2449 : SV, ∃ x2450 : SV, ∃ x2451 : SV, ∃ x2452 : SV, ∃ x2453 : SV, v2443 = (Value.agg (List.toArray [(Value.int .i64 x2445), (Value.int .i64 x2446), (Value.slice x2447.a x2447.len x2447.cap), (Value.slice x2448.a x2448.len x2448.cap), (Value.slice x2449.a x2449.len x2449.cap), (Value.slice x2450.a x2450.len x2450.cap), (Value.slice x2451.a x2451.len x2451.cap), (Value.slice x2452.a x2452.len x2452.cap), (Value.slice x2453.a x2453.len x2453.cap)])) ∧
 ([(Value.int .i64 x2445), (Value.int .i64 x2446), (Value.slice x2447.a x2447.len x2447.cap), (Value.slice x2448.a x2448.len x2448.cap), (Value.slice x2449.a x2449.len x2449.cap), (Value.slice x2450.a x2450.len x2450.cap), (Value.slice x2451.a x2451.len x2451.cap), (Value.slice x2452.a x2452.len x2452.cap), (Value.slice x2453.a x2453.len x2453.cap)]).length = 9 ∧ (Program.underlying Go.Proofs.Tryd.prog 50).isSome = true ∧
 H.wr h2444 (Addr.mk r3 0 none) ([(Value.int .i64 x2445), (Value.int .i64 x2446), (Value.slice x2447.a x2447.len x2447.cap), (Value.slice x2448.a x2448.len x2448.cap), (Value.slice x2449.a x2449.len x2449.cap), (Value.slice x2450.a x2450.len x2450.cap), (Value.slice x2451.a x2451.len x2451.cap), (Value.slice x2452.a x2452.len x2452.cap), (Value.slice x2453.a x2453.len x2453.cap)]) fun h2454 =>
 Ri h2454 r3 0 fun x2455 =>
 Ri h2454 r3 1 fun x2456 =>
 Rs h2454 r3 2 fun x2457 =>
 Rs h2454 r3 3 fun x2458 =>
 Rs h2454 r3 4 fun x2459 =>
 Rs h2454 r3 5 fun x2460 =>
 Rs h2454 r3 6 fun x2461 =>
 Rs h2454 r3 7 fun x2462 =>
 Rs h2454 r3 8 fun x2463 =>
 VRet h2454 (Value.tuple (List.toArray [(Value.agg (List.toArray [(Value.int .i64 x2455), (Value.int .i64 x2456), (Value.slice x2457.a x2457.len x2457.cap), (Value.slice x2458.a x2458.len x2458.cap), (Value.slice x2459.a x2459.len x2459.cap), (Value.slice x2460.a x2460.len x2460.cap), (Value.slice x2461.a x2461.len x2461.cap), (Value.slice x2462.a x2462.len x2462.cap), (Value.slice x2463.a x2463.len x2463.cap)])), (Value.bool true), (Value.int .i64 x2433), (Value.int .i64 0)])) post))))))))))))))))))

def f20_hint : Hint := (.node .leaf (.node .leaf (.node (.node .leaf (.node (.node .leaf (.node .leaf (.node .leaf (.node .leaf (.node .leaf (.node (.node (.tail 12) .leaf) (.node .leaf (.node (.node .leaf (.node (.tail 12) .leaf)) (.node .leaf (.node (.node (.node .leaf (.join [] .leaf)) .leaf) (.node .leaf (.node (.node (.node .leaf (.join [] .leaf)) .leaf) (.node .leaf (.node .leaf (.node .leaf (.node .leaf (.node .leaf (.node (.node (.tail 12) .leaf) (.node .leaf (.node (.node (.node .leaf (.join [] .leaf)) .leaf) .leaf)))))))))))))))))))) .leaf)) (.node .leaf (.node .leaf (.node .any .leaf))))))

theorem f20_eq (p0_0_f : Int) (p0_1_f : Int) (p0_2_f : SV) (p0_3_f : SV) (p0_4_f : SV) (p0_5_f : SV) (p0_6_f : SV) (p0_7_f : SV) (p0_8_f : SV) (p1_p : Int) (h0 : H) (post : Value → H → Prop) : exec Tryd.prog (bodyOf Tryd.f20) f20_hint (retQ Tryd.prog Tryd.f20 post) (F0 [(Value.agg (List.toArray [(Value.int .i64 p0_0_f), (Value.int .i64 p0_1_f), (Value.slice p0_2_f.a p0_2_f.len p0_2_f.cap), (Value.slice p0_3_f.a p0_3_f.len p0_3_f.cap), (Value.slice p0_4_f.a p0_4_f.len p0_4_f.cap), (Value.slice p0_5_f.a p0_5_f.len p0_5_f.cap), (Value.slice p0_6_f.a p0_6_f.len p0_6_f.cap), (Value.slice p0_7_f.a p0_7_f.len p0_7_f.cap), (Value.slice p0_8_f.a p0_8_f.len p0_8_f.cap)])), (Value.int .i64 p1_p)]) h0 = f20_sem p0_0_f p0_1_f p0_2_f p0_3_f p0_4_f p0_5_f p0_6_f p0_7_f p0_8_f p1_p h0 post := by kernel_rfl

set_option maxRecDepth 20000 in
theorem f20_call (p0_0_f : Int) (p0_1_f : Int) (p0_2_f : SV) (p0_3_f : SV) (p0_4_f : SV) (p0_5_f : SV) (p0_6_f : SV) (p0_7_f : SV) (p0_8_f : SV) (p1_p : Int) (h0 : H) (post : Value → H → Prop) (hx : f20_sem p0_0_f p0_1_f p0_2_f p0_3_f p0_4_f p0_5_f p0_6_f p0_7_f p0_8_f p1_p h0 post) : SemCall Tryd.prog 20 (List.toArray [(Value.agg (List.toArray [(Value.int .i64 p0_0_f), (Value.int .i64 p0_1_f), (Value.slice p0_2_f.a p0_2_f.len p0_2_f.cap), (Value.slice p0_3_f.a p0_3_f.len p0_3_f.cap), (Value.slice p0_4_f.a p0_4_f.len p0_4_f.cap), (Value.slice p0_5_f.a p0_5_f.len p0_5_f.cap), (Value.slice p0_6_f.a p0_6_f.len p0_6_f.cap), (Value.slice p0_7_f.a p0_7_f.len p0_7_f.cap), (Value.slice p0_8_f.a p0_8_f.len p0_8_f.cap)])), (Value.int .i64 p1_p)]) h0 post :=
 sem_of_exec (g := f20_hint) mixed Tryd.func20 (bodyOf_eq (by kernel_rfl)) (by kernel_rfl) ((f20_eq p0_0_f p0_1_f p0_2_f p0_3_f p0_4_f p0_5_f p0_6_f p0_7_f p0_8_f p1_p h0 post).mpr hx)

end Go.Proofs.YtogbkgimpkaemaaDoor
