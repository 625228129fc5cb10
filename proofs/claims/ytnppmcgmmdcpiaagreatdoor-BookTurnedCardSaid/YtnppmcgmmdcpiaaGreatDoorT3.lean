import Derived.Test.YtnppmcgmmdcpiaaGreatDoorEngG
import Derived.Test.YtnppmcgmmdcpiaaGreatDoorRows
import Derived.Test.YtnppmcgmmdcpiaaGreatDoorT
namespace Go.Proofs.YtnppmcgmmdcpiaaGreatDoor
open Go.Eng
/- latchgarth/latchgarthref5.Cut -/
def f33_L1 (p0_s : ByteArray) (p1_c : Int) (R1 : SV → H → Prop) (I2 : Nat → SV → Int → Int → H → Prop) (n3 : Nat) (x6_l : SV) (x7_from : Int) (x8_i : Int) (h9 : H) : Prop :=
 VIf (decide (x8_i ≤ ((ByteArray.size p0_s : Nat) : Int))) (
 ∃ R10 : Bool → H → Prop, (
 VIf (x8_i == ((ByteArray.size p0_s : Nat) : Int)) (
 (∃ h11, Gh h9 h11 ∧ R10 true h11)) (
 0 ≤ x8_i ∧ x8_i < ((ByteArray.size p0_s : Nat) : Int) ∧
 (∃ h12, Gh h9 h12 ∧ R10 (((((ByteArray.data p0_s).toList.getD (x8_i).toNat 0).toNat : Nat) : Int) == p1_c) h12))) ∧
 ∀ (_ : F) (x13 : Bool) (h14 : H), R10 x13 h14 →
 VIf x13 (
 0 ≤ x8_i ∧ x8_i ≤ ((ByteArray.size p0_s : Nat) : Int) ∧ 0 ≤ x7_from ∧ x7_from ≤ x8_i ∧
 H.new h14 [(Value.string (ByteArray.extract p0_s (x7_from).toNat (x8_i).toNat))] fun r15 h16 =>
 appVC Go.Proofs.Tryz.prog 67 (Value.slice x6_l.a x6_l.len x6_l.cap) (Value.slice (some (Addr.mk r15 0 none)) 1 1) h16 fun x17 h18 =>
 In64 (x8_i + (1 : Int)) ∧
 In64 (x8_i + (1 : Int)) ∧
 ∃ m4, m4 < n3 ∧ (∃ h19, Gh h18 h19 ∧ I2 m4 x17 (x8_i + (1 : Int)) (x8_i + (1 : Int)) h19)) (
 In64 (x8_i + (1 : Int)) ∧
 ∃ m4, m4 < n3 ∧ (∃ h20, Gh h14 h20 ∧ I2 m4 x6_l x7_from (x8_i + (1 : Int)) h20))) (
 (∃ h21, Gh h9 h21 ∧ R1 x6_l h21))

def f33_sem (p0_s : ByteArray) (p1_c : Int) (h0 : H) (post : Value → H → Prop) : Prop :=
 ∃ R1 : SV → H → Prop, (
 ∃ I2 : Nat → SV → Int → Int → H → Prop, (∃ n3, (∃ h5, Gh h0 h5 ∧ I2 n3 (SV.mk none 0 0) (0 : Int) (0 : Int) h5)) ∧
 ∀ (n3 : Nat) (_ : F) (x6_l : SV) (x7_from : Int) (x8_i : Int) (h9 : H), I2 n3 x6_l x7_from x8_i h9 →
 f33_L1 p0_s p1_c R1 I2 n3 x6_l x7_from x8_i h9) ∧
 ∀ (_ : F) (x22_l : SV) (h23 : H), R1 x22_l h23 →
 VRet h23 (Value.slice x22_l.a x22_l.len x22_l.cap) post

def f33_hint : Hint := (.node .leaf (.node .leaf (.node .leaf (.node (.node .leaf (.join [(5, .sl)] (.node (.loop [(5, .sl), (6, .int), (7, .int)] (.node .leaf (.node (.node (.node (.join [(24, .bool)] .leaf) .leaf) .leaf) .leaf))) .leaf))) .leaf))))

theorem f33_eq (p0_s : ByteArray) (p1_c : Int) (h0 : H) (post : Value → H → Prop) : exec Tryz.prog (bodyOf Tryz.f33) f33_hint (retQ Tryz.prog Tryz.f33 post) (F0 [(Value.string p0_s), (Value.int .u8 p1_c)]) h0 = f33_sem p0_s p1_c h0 post := by kernel_rfl

set_option maxRecDepth 20000 in
theorem f33_call (p0_s : ByteArray) (p1_c : Int) (h0 : H) (post : Value → H → Prop) (hx : f33_sem p0_s p1_c h0 post) : SemCall Tryz.prog 33 (List.toArray [(Value.string p0_s), (Value.int .u8 p1_c)]) h0 post :=
 sem_of_exec (g := f33_hint) mixed Tryz.func33 (bodyOf_eq (by kernel_rfl)) (by kernel_rfl) ((f33_eq p0_s p1_c h0 post).mpr hx)

/- latchgarth/latchgarthref5.Line -/
def f34_L1 (p1_s : ByteArray) (R5 : Int → H → Prop) (I6 : Nat → Int → H → Prop) (n7 : Nat) (x10_at : Int) (h11 : H) : Prop :=
 ∃ R12 : Bool → H → Prop, (
 VIf (decide (x10_at ≥ (0 : Int))) (
 0 ≤ x10_at ∧ x10_at < ((ByteArray.size p1_s : Nat) : Int) ∧
 (∃ h13, Gh h11 h13 ∧ R12 (((((ByteArray.data p1_s).toList.getD (x10_at).toNat 0).toNat : Nat) : Int) != (32 : Int)) h13)) (
 (∃ h14, Gh h11 h14 ∧ R12 false h14))) ∧
 ∀ (_ : F) (x15 : Bool) (h16 : H), R12 x15 h16 →
 VIf x15 (
 In64 (x10_at - (1 : Int)) ∧
 ∃ m8, m8 < n7 ∧ (∃ h17, Gh h16 h17 ∧ I6 m8 (x10_at - (1 : Int)) h17)) (
 (∃ h18, Gh h16 h18 ∧ R5 x10_at h18))

def f34_L2 (post : Value → H → Prop) (r1 : Nat) (r3 : Nat) (x63 : SV) (R64 : SV → H → Prop) (I65 : Nat → SV → Int → H → Prop) (n66 : Nat) (x69_l : SV) (x70_i : Int) (h71 : H) : Prop :=
 VIf (decide (x70_i < ((x63.len : Nat) : Int))) (
 ∃ b72 : Addr, x63.a = some b72 ∧ 0 ≤ x70_i ∧ x70_i < ((x63.len : Nat) : Int) ∧
 ∃ x73 : ByteArray, H.rd h71 (Addr.add (Addr.add b72 ((x70_i).toNat * 1)) 0) (Value.string x73) ∧
 SemCall Go.Proofs.Tryz.prog 60 (List.toArray [(Value.string x73)]) h71 fun v74 h75 =>
 ∃ x76 : Int, ∃ x77 : Bool, v74 = (Value.tuple (List.toArray [(Value.int .i64 x76), (Value.bool x77)])) ∧
 VIf (!x77) (
 ∃ x78 : SV, H.rd h75 (Addr.add (Addr.mk r1 0 none) 0) (Value.slice x78.a x78.len x78.cap) ∧
 ∃ x79 : SV, H.rd h75 (Addr.add (Addr.mk r1 0 none) 1) (Value.slice x79.a x79.len x79.cap) ∧
 ∃ x80 : SV, H.rd h75 (Addr.add (Addr.mk r1 0 none) 2) (Value.slice x80.a x80.len x80.cap) ∧
 ∃ x81 : ByteArray, H.rd h75 (Addr.add (Addr.mk r1 0 none) 3) (Value.string x81) ∧
 ∃ x82 : Int, H.rd h75 (Addr.add (Addr.mk r1 0 none) 4) (Value.int .i64 x82) ∧
 ([(Value.slice x78.a x78.len x78.cap), (Value.slice x79.a x79.len x79.cap), (Value.slice x80.a x80.len x80.cap), (Value.string x81), (Value.int .i64 x82)]).length = 5 ∧ (Program.underlying Go.Proofs.Tryz.prog 39).isSome = true ∧
 H.wr h75 (Addr.mk r3 0 none) ([(Value.slice x78.a x78.len x78.cap), (Value.slice x79.a x79.len x79.cap), (Value.slice x80.a x80.len x80.cap), (Value.string x81), (Value.int .i64 x82)]) fun h83 =>
 ∃ x84 : SV, H.rd h83 (Addr.add (Addr.mk r3 0 none) 0) (Value.slice x84.a x84.len x84.cap) ∧
 ∃ x85 : SV, H.rd h83 (Addr.add (Addr.mk r3 0 none) 1) (Value.slice x85.a x85.len x85.cap) ∧
 ∃ x86 : SV, H.rd h83 (Addr.add (Addr.mk r3 0 none) 2) (Value.slice x86.a x86.len x86.cap) ∧
 ∃ x87 : ByteArray, H.rd h83 (Addr.add (Addr.mk r3 0 none) 3) (Value.string x87) ∧
 ∃ x88 : Int, H.rd h83 (Addr.add (Addr.mk r3 0 none) 4) (Value.int .i64 x88) ∧
 VRet h83 (Value.tuple (List.toArray [(Value.agg (List.toArray [(Value.slice x84.a x84.len x84.cap), (Value.slice x85.a x85.len x85.cap), (Value.slice x86.a x86.len x86.cap), (Value.string x87), (Value.int .i64 x88)])), (Value.int .i64 (2 : Int))])) post) (
 H.new h75 [(Value.int .i64 x76)] fun r89 h90 =>
 appVC Go.Proofs.Tryz.prog 22 (Value.slice x69_l.a x69_l.len x69_l.cap) (Value.slice (some (Addr.mk r89 0 none)) 1 1) h90 fun x91 h92 =>
 In64 (x70_i + (1 : Int)) ∧
 ∃ m67, m67 < n66 ∧ (∃ h93, Gh h92 h93 ∧ I65 m67 x91 (x70_i + (1 : Int)) h93))) (
 (∃ h94, Gh h71 h94 ∧ R64 x69_l h94))

def f34_J3 (post : Value → H → Prop) (r1 : Nat) (r3 : Nat) (x63 : SV) (x95_l : SV) (x107 : Bool) (h108 : H) : Prop :=
 VIf x107 (
 ∃ x109 : SV, H.rd h108 (Addr.add (Addr.mk r1 0 none) 0) (Value.slice x109.a x109.len x109.cap) ∧
 ∃ x110 : SV, H.rd h108 (Addr.add (Addr.mk r1 0 none) 1) (Value.slice x110.a x110.len x110.cap) ∧
 ∃ x111 : SV, H.rd h108 (Addr.add (Addr.mk r1 0 none) 2) (Value.slice x111.a x111.len x111.cap) ∧
 ∃ x112 : ByteArray, H.rd h108 (Addr.add (Addr.mk r1 0 none) 3) (Value.string x112) ∧
 ∃ x113 : Int, H.rd h108 (Addr.add (Addr.mk r1 0 none) 4) (Value.int .i64 x113) ∧
 ([(Value.slice x109.a x109.len x109.cap), (Value.slice x110.a x110.len x110.cap), (Value.slice x111.a x111.len x111.cap), (Value.string x112), (Value.int .i64 x113)]).length = 5 ∧ (Program.underlying Go.Proofs.Tryz.prog 39).isSome = true ∧
 H.wr h108 (Addr.mk r3 0 none) ([(Value.slice x109.a x109.len x109.cap), (Value.slice x110.a x110.len x110.cap), (Value.slice x111.a x111.len x111.cap), (Value.string x112), (Value.int .i64 x113)]) fun h114 =>
 ∃ x115 : SV, H.rd h114 (Addr.add (Addr.mk r3 0 none) 0) (Value.slice x115.a x115.len x115.cap) ∧
 ∃ x116 : SV, H.rd h114 (Addr.add (Addr.mk r3 0 none) 1) (Value.slice x116.a x116.len x116.cap) ∧
 ∃ x117 : SV, H.rd h114 (Addr.add (Addr.mk r3 0 none) 2) (Value.slice x117.a x117.len x117.cap) ∧
 ∃ x118 : ByteArray, H.rd h114 (Addr.add (Addr.mk r3 0 none) 3) (Value.string x118) ∧
 ∃ x119 : Int, H.rd h114 (Addr.add (Addr.mk r3 0 none) 4) (Value.int .i64 x119) ∧
 VRet h114 (Value.tuple (List.toArray [(Value.agg (List.toArray [(Value.slice x115.a x115.len x115.cap), (Value.slice x116.a x116.len x116.cap), (Value.slice x117.a x117.len x117.cap), (Value.string x118), (Value.int .i64 x119)])), (Value.int .i64 (2 : Int))])) post) (
 ∃ b120 : Addr, x63.a = some b120 ∧ 0 ≤ (0 : Int) ∧ (0 : Int) < ((x63.len : Nat) : Int) ∧
 ∃ b121 : Addr, x95_l.a = some b121 ∧ 0 ≤ (0 : Int) ∧ (0 : Int) < ((x95_l.len : Nat) : Int) ∧
 0 ≤ (1 : Int) ∧ (1 : Int) ≤ ((x95_l.len : Nat) : Int) ∧
 ∃ x122 : SV, H.rd h108 (Addr.add (Addr.mk r1 0 none) 0) (Value.slice x122.a x122.len x122.cap) ∧
 ∃ x123 : SV, H.rd h108 (Addr.add (Addr.mk r1 0 none) 1) (Value.slice x123.a x123.len x123.cap) ∧
 ∃ x124 : SV, H.rd h108 (Addr.add (Addr.mk r1 0 none) 2) (Value.slice x124.a x124.len x124.cap) ∧
 ∃ x125 : ByteArray, H.rd h108 (Addr.add (Addr.mk r1 0 none) 3) (Value.string x125) ∧
 ∃ x126 : Int, H.rd h108 (Addr.add (Addr.mk r1 0 none) 4) (Value.int .i64 x126) ∧
 ∃ x127 : ByteArray, H.rd h108 (Addr.add (Addr.add b120 (((0 : Int)).toNat * 1)) 0) (Value.string x127) ∧
 ∃ x128 : Int, H.rd h108 (Addr.add (Addr.add b121 (((0 : Int)).toNat * 1)) 0) (Value.int .i64 x128) ∧
 SemCall Go.Proofs.Tryz.prog 62 (List.toArray [(Value.agg (List.toArray [(Value.slice x122.a x122.len x122.cap), (Value.slice x123.a x123.len x123.cap), (Value.slice x124.a x124.len x124.cap), (Value.string x125), (Value.int .i64 x126)])), (Value.bool (ByteArray.toList x127 == ByteArray.toList (ByteArray.mk (List.toArray [(98 : UInt8)])))), (Value.int .i64 x128), (Value.slice (if x95_l.cap = ((1 : Int)).toNat then x95_l.a else Option.map (fun z => Addr.add z (((1 : Int)).toNat * 1)) x95_l.a) (x95_l.len - ((1 : Int)).toNat) (x95_l.cap - ((1 : Int)).toNat))]) h108 fun v129 h130 =>
 ∃ x131 : SV, ∃ x132 : SV, ∃ x133 : SV, ∃ x134 : ByteArray, ∃ x135 : Int, ∃ x136 : Int, v129 = (Value.tuple (List.toArray [(Value.agg (List.toArray [(Value.slice x131.a x131.len x131.cap), (Value.slice x132.a x132.len x132.cap), (Value.slice x133.a x133.len x133.cap), (Value.string x134), (Value.int .i64 x135)])), (Value.int .i64 x136)])) ∧
 ([(Value.slice x131.a x131.len x131.cap), (Value.slice x132.a x132.len x132.cap), (Value.slice x133.a x133.len x133.cap), (Value.string x134), (Value.int .i64 x135)]).length = 5 ∧ (Program.underlying Go.Proofs.Tryz.prog 39).isSome = true ∧
 H.wr h130 (Addr.mk r3 0 none) ([(Value.slice x131.a x131.len x131.cap), (Value.slice x132.a x132.len x132.cap), (Value.slice x133.a x133.len x133.cap), (Value.string x134), (Value.int .i64 x135)]) fun h137 =>
 ∃ x138 : SV, H.rd h137 (Addr.add (Addr.mk r3 0 none) 0) (Value.slice x138.a x138.len x138.cap) ∧
 ∃ x139 : SV, H.rd h137 (Addr.add (Addr.mk r3 0 none) 1) (Value.slice x139.a x139.len x139.cap) ∧
 ∃ x140 : SV, H.rd h137 (Addr.add (Addr.mk r3 0 none) 2) (Value.slice x140.a x140.len x140.cap) ∧
 ∃ x141 : ByteArray, H.rd h137 (Addr.add (Addr.mk r3 0 none) 3) (Value.string x141) ∧
 ∃ x142 : Int, H.rd h137 (Addr.add (Addr.mk r3 0 none) 4) (Value.int .i64 x142) ∧
 VRet h137 (Value.tuple (List.toArray [(Value.agg (List.toArray [(Value.slice x138.a x138.len x138.cap), (Value.slice x139.a x139.len x139.cap), (Value.slice x140.a x140.len x140.cap), (Value.string x141), (Value.int .i64 x142)])), (Value.int .i64 x136)])) post)

def f34_J4 (post : Value → H → Prop) (r1 : Nat) (r3 : Nat) (x63 : SV) (x95_l : SV) (h96 : H) : Prop :=
 ∃ R97 : Bool → H → Prop, (
 ∃ b98 : Addr, x63.a = some b98 ∧ 0 ≤ (0 : Int) ∧ (0 : Int) < ((x63.len : Nat) : Int) ∧
 ∃ x99 : ByteArray, H.rd h96 (Addr.add (Addr.add b98 (((0 : Int)).toNat * 1)) 0) (Value.string x99) ∧
 VIf (!(ByteArray.toList x99 == ByteArray.toList (ByteArray.mk (List.toArray [(97 : UInt8)])))) (
 ∃ b100 : Addr, x63.a = some b100 ∧ 0 ≤ (0 : Int) ∧ (0 : Int) < ((x63.len : Nat) : Int) ∧
 ∃ x101 : ByteArray, H.rd h96 (Addr.add (Addr.add b100 (((0 : Int)).toNat * 1)) 0) (Value.string x101) ∧
 VIf (!(ByteArray.toList x101 == ByteArray.toList (ByteArray.mk (List.toArray [(98 : UInt8)])))) (
 (∃ h102, Gh h96 h102 ∧ R97 true h102)) (
 ∃ x103 : SV, H.rd h96 (Addr.add (Addr.add (Addr.add (Addr.mk r1 0 none) 0) 0) 0) (Value.slice x103.a x103.len x103.cap) ∧
 In64 ((1 : Int) + ((x103.len : Nat) : Int)) ∧
 (∃ h104, Gh h96 h104 ∧ R97 (((x95_l.len : Nat) : Int) != ((1 : Int) + ((x103.len : Nat) : Int))) h104))) (
 ∃ x105 : SV, H.rd h96 (Addr.add (Addr.add (Addr.add (Addr.mk r1 0 none) 0) 0) 0) (Value.slice x105.a x105.len x105.cap) ∧
 In64 ((1 : Int) + ((x105.len : Nat) : Int)) ∧
 (∃ h106, Gh h96 h106 ∧ R97 (((x95_l.len : Nat) : Int) != ((1 : Int) + ((x105.len : Nat) : Int))) h106))) ∧
 ∀ (_ : F) (x107 : Bool) (h108 : H), R97 x107 h108 →
 f34_J3 post r1 r3 x63 x95_l x107 h108

def f34_J5 (p1_s : ByteArray) (post : Value → H → Prop) (r1 : Nat) (r3 : Nat) (x19_at : Int) (h20 : H) : Prop :=
 VIf (decide (x19_at < (0 : Int))) (
 ∃ x21 : SV, H.rd h20 (Addr.add (Addr.mk r1 0 none) 0) (Value.slice x21.a x21.len x21.cap) ∧
 ∃ x22 : SV, H.rd h20 (Addr.add (Addr.mk r1 0 none) 1) (Value.slice x22.a x22.len x22.cap) ∧
 ∃ x23 : SV, H.rd h20 (Addr.add (Addr.mk r1 0 none) 2) (Value.slice x23.a x23.len x23.cap) ∧
 ∃ x24 : ByteArray, H.rd h20 (Addr.add (Addr.mk r1 0 none) 3) (Value.string x24) ∧
 ∃ x25 : Int, H.rd h20 (Addr.add (Addr.mk r1 0 none) 4) (Value.int .i64 x25) ∧
 ([(Value.slice x21.a x21.len x21.cap), (Value.slice x22.a x22.len x22.cap), (Value.slice x23.a x23.len x23.cap), (Value.string x24), (Value.int .i64 x25)]).length = 5 ∧ (Program.underlying Go.Proofs.Tryz.prog 39).isSome = true ∧
 H.wr h20 (Addr.mk r3 0 none) ([(Value.slice x21.a x21.len x21.cap), (Value.slice x22.a x22.len x22.cap), (Value.slice x23.a x23.len x23.cap), (Value.string x24), (Value.int .i64 x25)]) fun h26 =>
 ∃ x27 : SV, H.rd h26 (Addr.add (Addr.mk r3 0 none) 0) (Value.slice x27.a x27.len x27.cap) ∧
 ∃ x28 : SV, H.rd h26 (Addr.add (Addr.mk r3 0 none) 1) (Value.slice x28.a x28.len x28.cap) ∧
 ∃ x29 : SV, H.rd h26 (Addr.add (Addr.mk r3 0 none) 2) (Value.slice x29.a x29.len x29.cap) ∧
 ∃ x30 : ByteArray, H.rd h26 (Addr.add (Addr.mk r3 0 none) 3) (Value.string x30) ∧
 ∃ x31 : Int, H.rd h26 (Addr.add (Addr.mk r3 0 none) 4) (Value.int .i64 x31) ∧
 VRet h26 (Value.tuple (List.toArray [(Value.agg (List.toArray [(Value.slice x27.a x27.len x27.cap), (Value.slice x28.a x28.len x28.cap), (Value.slice x29.a x29.len x29.cap), (Value.string x30), (Value.int .i64 x31)])), (Value.int .i64 (2 : Int))])) post) (
 In64 (x19_at + (1 : Int)) ∧
 0 ≤ (x19_at + (1 : Int)) ∧ (x19_at + (1 : Int)) ≤ ((ByteArray.size p1_s : Nat) : Int) ∧
 SemCall Go.Proofs.Tryz.prog 60 (List.toArray [(Value.string (ByteArray.extract p1_s ((x19_at + (1 : Int))).toNat (ByteArray.size p1_s)))]) h20 fun v32 h33 =>
 ∃ x34 : Int, ∃ x35 : Bool, v32 = (Value.tuple (List.toArray [(Value.int .i64 x34), (Value.bool x35)])) ∧
 VIf (!x35) (
 ∃ x36 : SV, H.rd h33 (Addr.add (Addr.mk r1 0 none) 0) (Value.slice x36.a x36.len x36.cap) ∧
 ∃ x37 : SV, H.rd h33 (Addr.add (Addr.mk r1 0 none) 1) (Value.slice x37.a x37.len x37.cap) ∧
 ∃ x38 : SV, H.rd h33 (Addr.add (Addr.mk r1 0 none) 2) (Value.slice x38.a x38.len x38.cap) ∧
 ∃ x39 : ByteArray, H.rd h33 (Addr.add (Addr.mk r1 0 none) 3) (Value.string x39) ∧
 ∃ x40 : Int, H.rd h33 (Addr.add (Addr.mk r1 0 none) 4) (Value.int .i64 x40) ∧
 ([(Value.slice x36.a x36.len x36.cap), (Value.slice x37.a x37.len x37.cap), (Value.slice x38.a x38.len x38.cap), (Value.string x39), (Value.int .i64 x40)]).length = 5 ∧ (Program.underlying Go.Proofs.Tryz.prog 39).isSome = true ∧
 H.wr h33 (Addr.mk r3 0 none) ([(Value.slice x36.a x36.len x36.cap), (Value.slice x37.a x37.len x37.cap), (Value.slice x38.a x38.len x38.cap), (Value.string x39), (Value.int .i64 x40)]) fun h41 =>
 ∃ x42 : SV, H.rd h41 (Addr.add (Addr.mk r3 0 none) 0) (Value.slice x42.a x42.len x42.cap) ∧
 ∃ x43 : SV, H.rd h41 (Addr.add (Addr.mk r3 0 none) 1) (Value.slice x43.a x43.len x43.cap) ∧
 ∃ x44 : SV, H.rd h41 (Addr.add (Addr.mk r3 0 none) 2) (Value.slice x44.a x44.len x44.cap) ∧
 ∃ x45 : ByteArray, H.rd h41 (Addr.add (Addr.mk r3 0 none) 3) (Value.string x45) ∧
 ∃ x46 : Int, H.rd h41 (Addr.add (Addr.mk r3 0 none) 4) (Value.int .i64 x46) ∧
 VRet h41 (Value.tuple (List.toArray [(Value.agg (List.toArray [(Value.slice x42.a x42.len x42.cap), (Value.slice x43.a x43.len x43.cap), (Value.slice x44.a x44.len x44.cap), (Value.string x45), (Value.int .i64 x46)])), (Value.int .i64 (2 : Int))])) post) (
 0 ≤ x19_at ∧ x19_at ≤ ((ByteArray.size p1_s : Nat) : Int) ∧
 SemCall Go.Proofs.Tryz.prog 61 (List.toArray [(Value.string (ByteArray.extract p1_s 0 (x19_at).toNat))]) h33 fun v47 h48 =>
 ∃ x49 : Int, v47 = (Value.int .i64 x49) ∧
 VIf (x34 != x49) (
 ∃ x50 : SV, H.rd h48 (Addr.add (Addr.mk r1 0 none) 0) (Value.slice x50.a x50.len x50.cap) ∧
 ∃ x51 : SV, H.rd h48 (Addr.add (Addr.mk r1 0 none) 1) (Value.slice x51.a x51.len x51.cap) ∧
 ∃ x52 : SV, H.rd h48 (Addr.add (Addr.mk r1 0 none) 2) (Value.slice x52.a x52.len x52.cap) ∧
 ∃ x53 : ByteArray, H.rd h48 (Addr.add (Addr.mk r1 0 none) 3) (Value.string x53) ∧
 ∃ x54 : Int, H.rd h48 (Addr.add (Addr.mk r1 0 none) 4) (Value.int .i64 x54) ∧
 ([(Value.slice x50.a x50.len x50.cap), (Value.slice x51.a x51.len x51.cap), (Value.slice x52.a x52.len x52.cap), (Value.string x53), (Value.int .i64 x54)]).length = 5 ∧ (Program.underlying Go.Proofs.Tryz.prog 39).isSome = true ∧
 H.wr h48 (Addr.mk r3 0 none) ([(Value.slice x50.a x50.len x50.cap), (Value.slice x51.a x51.len x51.cap), (Value.slice x52.a x52.len x52.cap), (Value.string x53), (Value.int .i64 x54)]) fun h55 =>
 ∃ x56 : SV, H.rd h55 (Addr.add (Addr.mk r3 0 none) 0) (Value.slice x56.a x56.len x56.cap) ∧
 ∃ x57 : SV, H.rd h55 (Addr.add (Addr.mk r3 0 none) 1) (Value.slice x57.a x57.len x57.cap) ∧
 ∃ x58 : SV, H.rd h55 (Addr.add (Addr.mk r3 0 none) 2) (Value.slice x58.a x58.len x58.cap) ∧
 ∃ x59 : ByteArray, H.rd h55 (Addr.add (Addr.mk r3 0 none) 3) (Value.string x59) ∧
 ∃ x60 : Int, H.rd h55 (Addr.add (Addr.mk r3 0 none) 4) (Value.int .i64 x60) ∧
 VRet h55 (Value.tuple (List.toArray [(Value.agg (List.toArray [(Value.slice x56.a x56.len x56.cap), (Value.slice x57.a x57.len x57.cap), (Value.slice x58.a x58.len x58.cap), (Value.string x59), (Value.int .i64 x60)])), (Value.int .i64 (6 : Int))])) post) (
 0 ≤ x19_at ∧ x19_at ≤ ((ByteArray.size p1_s : Nat) : Int) ∧
 SemCall Go.Proofs.Tryz.prog 33 (List.toArray [(Value.string (ByteArray.extract p1_s 0 (x19_at).toNat)), (Value.int .u8 (32 : Int))]) h48 fun v61 h62 =>
 ∃ x63 : SV, v61 = (Value.slice x63.a x63.len x63.cap) ∧
 ∃ R64 : SV → H → Prop, (
 ∃ I65 : Nat → SV → Int → H → Prop, (∃ n66, (∃ h68, Gh h62 h68 ∧ I65 n66 (SV.mk none 0 0) (1 : Int) h68)) ∧
 ∀ (n66 : Nat) (_ : F) (x69_l : SV) (x70_i : Int) (h71 : H), I65 n66 x69_l x70_i h71 →
 f34_L2 post r1 r3 x63 R64 I65 n66 x69_l x70_i h71) ∧
 ∀ (_ : F) (x95_l : SV) (h96 : H), R64 x95_l h96 →
 f34_J4 post r1 r3 x63 x95_l h96)))

def f34_sem (p0_0_b : SV) (p0_1_b : SV) (p0_2_b : SV) (p0_3_b : ByteArray) (p0_4_b : Int) (p1_s : ByteArray) (h0 : H) (post : Value → H → Prop) : Prop :=
 H.new h0 [(Value.slice p0_0_b.a p0_0_b.len p0_0_b.cap), (Value.slice p0_1_b.a p0_1_b.len p0_1_b.cap), (Value.slice p0_2_b.a p0_2_b.len p0_2_b.cap), (Value.string p0_3_b), (Value.int .i64 p0_4_b)] fun r1 h2 =>
 H.new h2 [(Value.slice none 0 0), (Value.slice none 0 0), (Value.slice none 0 0), (Value.string ByteArray.empty), (Value.int .i64 0)] fun r3 h4 =>
 In64 (((ByteArray.size p1_s : Nat) : Int) - (1 : Int)) ∧
 ∃ R5 : Int → H → Prop, (
 ∃ I6 : Nat → Int → H → Prop, (∃ n7, (∃ h9, Gh h4 h9 ∧ I6 n7 (((ByteArray.size p1_s : Nat) : Int) - (1 : Int)) h9)) ∧
 ∀ (n7 : Nat) (_ : F) (x10_at : Int) (h11 : H), I6 n7 x10_at h11 →
 f34_L1 p1_s R5 I6 n7 x10_at h11) ∧
 ∀ (_ : F) (x19_at : Int) (h20 : H), R5 x19_at h20 →
 f34_J5 p1_s post r1 r3 x19_at h20

def f34_hint : Hint := (.node .leaf (.node .leaf (.node (.join [(6, .int)] (.node (.loop [(6, .int)] (.node (.node (.join [(24, .bool)] .leaf) .leaf) .leaf)) .leaf)) (.node .leaf (.node .leaf (.node .leaf (.node .leaf (.node .leaf (.node .leaf (.node (.node .leaf (.join [(10, .sl)] (.node (.loop [(10, .sl), (11, .int)] .leaf) .leaf))) (.node (.node (.join [(92, .bool)] .leaf) .leaf) (.node .lex .leaf))))))))))))

theorem f34_eq (p0_0_b : SV) (p0_1_b : SV) (p0_2_b : SV) (p0_3_b : ByteArray) (p0_4_b : Int) (p1_s : ByteArray) (h0 : H) (post : Value → H → Prop) : exec Tryz.prog (bodyOf Tryz.f34) f34_hint (retQ Tryz.prog Tryz.f34 post) (F0 [(Value.agg (List.toArray [(Value.slice p0_0_b.a p0_0_b.len p0_0_b.cap), (Value.slice p0_1_b.a p0_1_b.len p0_1_b.cap), (Value.slice p0_2_b.a p0_2_b.len p0_2_b.cap), (Value.string p0_3_b), (Value.int .i64 p0_4_b)])), (Value.string p1_s)]) h0 = f34_sem p0_0_b p0_1_b p0_2_b p0_3_b p0_4_b p1_s h0 post := by kernel_rfl

set_option maxRecDepth 20000 in
theorem f34_call (p0_0_b : SV) (p0_1_b : SV) (p0_2_b : SV) (p0_3_b : ByteArray) (p0_4_b : Int) (p1_s : ByteArray) (h0 : H) (post : Value → H → Prop) (hx : f34_sem p0_0_b p0_1_b p0_2_b p0_3_b p0_4_b p1_s h0 post) : SemCall Tryz.prog 34 (List.toArray [(Value.agg (List.toArray [(Value.slice p0_0_b.a p0_0_b.len p0_0_b.cap), (Value.slice p0_1_b.a p0_1_b.len p0_1_b.cap), (Value.slice p0_2_b.a p0_2_b.len p0_2_b.cap), (Value.string p0_3_b), (Value.int .i64 p0_4_b)])), (Value.string p1_s)]) h0 post :=
 sem_of_exec (g := f34_hint) mixed Tryz.func34 (bodyOf_eq (by kernel_rfl)) (by kernel_rfl) ((f34_eq p0_0_b p0_1_b p0_2_b p0_3_b p0_4_b p1_s h0 post).mpr hx)

/- latchgarth/latchgarthref5.Number -/
def f60_L1 (p0_s : ByteArray) (post : Value → H → Prop) (R6 : Int → H → Prop) (I7 : Nat → Int → Int → H → Prop) (n8 : Nat) (x11_n : Int) (x12_i : Int) (h13 : H) : Prop :=
 VIf (decide (x12_i < ((ByteArray.size p0_s : Nat) : Int))) (
 ∃ R14 : Bool → H → Prop, (
 0 ≤ x12_i ∧ x12_i < ((ByteArray.size p0_s : Nat) : Int) ∧
 VIf (decide (((((ByteArray.data p0_s).toList.getD (x12_i).toNat 0).toNat : Nat) : Int) < (48 : Int))) (
 (∃ h15, Gh h13 h15 ∧ R14 true h15)) (
 0 ≤ x12_i ∧ x12_i < ((ByteArray.size p0_s : Nat) : Int) ∧
 (∃ h16, Gh h13 h16 ∧ R14 (decide (((((ByteArray.data p0_s).toList.getD (x12_i).toNat 0).toNat : Nat) : Int) > (57 : Int))) h16))) ∧
 ∀ (_ : F) (x17 : Bool) (h18 : H), R14 x17 h18 →
 VIf x17 (
 VRet h18 (Value.tuple (List.toArray [(Value.int .i64 0), (Value.bool false)])) post) (
 In64 (x11_n * (10 : Int)) ∧
 0 ≤ x12_i ∧ x12_i < ((ByteArray.size p0_s : Nat) : Int) ∧
 In64 ((((ByteArray.data p0_s).toList.getD (x12_i).toNat 0).toNat : Nat) : Int) ∧
 In64 ((x11_n * (10 : Int)) + ((((ByteArray.data p0_s).toList.getD (x12_i).toNat 0).toNat : Nat) : Int)) ∧
 In64 (((x11_n * (10 : Int)) + ((((ByteArray.data p0_s).toList.getD (x12_i).toNat 0).toNat : Nat) : Int)) - (48 : Int)) ∧
 In64 (x12_i + (1 : Int)) ∧
 ∃ m9, m9 < n8 ∧ (∃ h19, Gh h18 h19 ∧ I7 m9 (((x11_n * (10 : Int)) + ((((ByteArray.data p0_s).toList.getD (x12_i).toNat 0).toNat : Nat) : Int)) - (48 : Int)) (x12_i + (1 : Int)) h19))) (
 (∃ h20, Gh h13 h20 ∧ R6 x11_n h20))

def f60_J2 (p0_s : ByteArray) (post : Value → H → Prop) (x4 : Bool) (h5 : H) : Prop :=
 VIf x4 (
 VRet h5 (Value.tuple (List.toArray [(Value.int .i64 0), (Value.bool false)])) post) (
 ∃ R6 : Int → H → Prop, (
 ∃ I7 : Nat → Int → Int → H → Prop, (∃ n8, (∃ h10, Gh h5 h10 ∧ I7 n8 (0 : Int) (0 : Int) h10)) ∧
 ∀ (n8 : Nat) (_ : F) (x11_n : Int) (x12_i : Int) (h13 : H), I7 n8 x11_n x12_i h13 →
 f60_L1 p0_s post R6 I7 n8 x11_n x12_i h13) ∧
 ∀ (_ : F) (x21_n : Int) (h22 : H), R6 x21_n h22 →
 ∃ R23 : Int → Bool → H → Prop, (
 VIf (decide (x21_n ≥ (0 : Int))) (
 SemCall Go.Proofs.Tryz.prog 79 (List.toArray [(Value.int .i64 x21_n)]) h22 fun v24 h25 =>
 ∃ x26 : ByteArray, v24 = (Value.string x26) ∧
 (∃ h27, Gh h25 h27 ∧ R23 x21_n (ByteArray.toList x26 == ByteArray.toList p0_s) h27)) (
 (∃ h28, Gh h22 h28 ∧ R23 x21_n false h28))) ∧
 ∀ (_ : F) (x29 : Int) (x30 : Bool) (h31 : H), R23 x29 x30 h31 →
 VRet h31 (Value.tuple (List.toArray [(Value.int .i64 x29), (Value.bool x30)])) post)

def f60_sem (p0_s : ByteArray) (h0 : H) (post : Value → H → Prop) : Prop :=
 ∃ R1 : Bool → H → Prop, (
 VIf (((ByteArray.size p0_s : Nat) : Int) == (0 : Int)) (
 (∃ h2, Gh h0 h2 ∧ R1 true h2)) (
 (∃ h3, Gh h0 h3 ∧ R1 (decide (((ByteArray.size p0_s : Nat) : Int) > (19 : Int))) h3))) ∧
 ∀ (_ : F) (x4 : Bool) (h5 : H), R1 x4 h5 →
 f60_J2 p0_s post x4 h5

def f60_hint : Hint := (.node .leaf (.node (.node (.join [(13, .bool)] .leaf) .leaf) (.node .leaf (.node (.node .leaf (.join [(4, .int)] (.node (.loop [(4, .int), (5, .int)] (.node .leaf (.node (.node (.node (.node (.join [(29, .bool)] .leaf) .leaf) .leaf) .leaf) .leaf))) .leaf))) (.node (.join [(2, .int), (3, .bool)] .leaf) .leaf)))))

theorem f60_eq (p0_s : ByteArray) (h0 : H) (post : Value → H → Prop) : exec Tryz.prog (bodyOf Tryz.f60) f60_hint (retQ Tryz.prog Tryz.f60 post) (F0 [(Value.string p0_s)]) h0 = f60_sem p0_s h0 post := by kernel_rfl

set_option maxRecDepth 20000 in
theorem f60_call (p0_s : ByteArray) (h0 : H) (post : Value → H → Prop) (hx : f60_sem p0_s h0 post) : SemCall Tryz.prog 60 (List.toArray [(Value.string p0_s)]) h0 post :=
 sem_of_exec (g := f60_hint) mixed Tryz.func60 (bodyOf_eq (by kernel_rfl)) (by kernel_rfl) ((f60_eq p0_s h0 post).mpr hx)

/- latchgarth/latchgarthref5.Open -/
def f16_L1 (post : Value → H → Prop) (r3 : Nat) (r16 : Nat) (x37 : SV) (R38 : H → Prop) (I39 : Nat → Int → H → Prop) (n40 : Nat) (x43_i : Int) (h44 : H) : Prop :=
 In64 (x43_i + (1 : Int)) ∧
 VIf (decide ((x43_i + (1 : Int)) < ((x37.len : Nat) : Int))) (
 ∃ b45 : Addr, x37.a = some b45 ∧ 0 ≤ x43_i ∧ x43_i < ((x37.len : Nat) : Int) ∧
 ∃ x46 : SV, H.rd h44 (Addr.add (Addr.mk r16 0 none) 0) (Value.slice x46.a x46.len x46.cap) ∧
 ∃ x47 : SV, H.rd h44 (Addr.add (Addr.mk r16 0 none) 1) (Value.slice x47.a x47.len x47.cap) ∧
 ∃ x48 : SV, H.rd h44 (Addr.add (Addr.mk r16 0 none) 2) (Value.slice x48.a x48.len x48.cap) ∧
 ∃ x49 : ByteArray, H.rd h44 (Addr.add (Addr.mk r16 0 none) 3) (Value.string x49) ∧
 ∃ x50 : Int, H.rd h44 (Addr.add (Addr.mk r16 0 none) 4) (Value.int .i64 x50) ∧
 ∃ x51 : ByteArray, H.rd h44 (Addr.add (Addr.add b45 ((x43_i).toNat * 1)) 0) (Value.string x51) ∧
 SemCall Go.Proofs.Tryz.prog 34 (List.toArray [(Value.agg (List.toArray [(Value.slice x46.a x46.len x46.cap), (Value.slice x47.a x47.len x47.cap), (Value.slice x48.a x48.len x48.cap), (Value.string x49), (Value.int .i64 x50)])), (Value.string x51)]) h44 fun v52 h53 => OwnExt h44 h53 ∧
 ∃ x54 : SV, ∃ x55 : SV, ∃ x56 : SV, ∃ x57 : ByteArray, ∃ x58 : Int, ∃ x59 : Int, v52 = (Value.tuple (List.toArray [(Value.agg (List.toArray [(Value.slice x54.a x54.len x54.cap), (Value.slice x55.a x55.len x55.cap), (Value.slice x56.a x56.len x56.cap), (Value.string x57), (Value.int .i64 x58)])), (Value.int .i64 x59)])) ∧
 H.new h53 [(Value.slice none 0 0), (Value.slice none 0 0), (Value.slice none 0 0), (Value.string ByteArray.empty), (Value.int .i64 0)] fun r60 h61 =>
 ([(Value.slice x54.a x54.len x54.cap), (Value.slice x55.a x55.len x55.cap), (Value.slice x56.a x56.len x56.cap), (Value.string x57), (Value.int .i64 x58)]).length = 5 ∧ (Program.underlying Go.Proofs.Tryz.prog 39).isSome = true ∧
 H.wr h61 (Addr.mk r60 0 none) ([(Value.slice x54.a x54.len x54.cap), (Value.slice x55.a x55.len x55.cap), (Value.slice x56.a x56.len x56.cap), (Value.string x57), (Value.int .i64 x58)]) fun h62 =>
 VIf (x59 != (0 : Int)) (
 In64 (x43_i + (1 : Int)) ∧
 ([(Value.slice none 0 0), (Value.slice none 0 0), (Value.slice none 0 0), (Value.string ByteArray.empty), (Value.int .i64 0)]).length = 5 ∧ (Program.underlying Go.Proofs.Tryz.prog 39).isSome = true ∧
 H.wr h62 (Addr.mk r3 0 none) ([(Value.slice none 0 0), (Value.slice none 0 0), (Value.slice none 0 0), (Value.string ByteArray.empty), (Value.int .i64 0)]) fun h63 =>
 ∃ x64 : SV, H.rd h63 (Addr.add (Addr.mk r3 0 none) 0) (Value.slice x64.a x64.len x64.cap) ∧
 ∃ x65 : SV, H.rd h63 (Addr.add (Addr.mk r3 0 none) 1) (Value.slice x65.a x65.len x65.cap) ∧
 ∃ x66 : SV, H.rd h63 (Addr.add (Addr.mk r3 0 none) 2) (Value.slice x66.a x66.len x66.cap) ∧
 ∃ x67 : ByteArray, H.rd h63 (Addr.add (Addr.mk r3 0 none) 3) (Value.string x67) ∧
 ∃ x68 : Int, H.rd h63 (Addr.add (Addr.mk r3 0 none) 4) (Value.int .i64 x68) ∧
 VRet h63 (Value.tuple (List.toArray [(Value.agg (List.toArray [(Value.slice x64.a x64.len x64.cap), (Value.slice x65.a x65.len x65.cap), (Value.slice x66.a x66.len x66.cap), (Value.string x67), (Value.int .i64 x68)])), (Value.int .i64 (x43_i + (1 : Int))), (Value.int .i64 x59)])) post) (
 ∃ x69 : SV, H.rd h62 (Addr.add (Addr.mk r60 0 none) 0) (Value.slice x69.a x69.len x69.cap) ∧
 ∃ x70 : SV, H.rd h62 (Addr.add (Addr.mk r60 0 none) 1) (Value.slice x70.a x70.len x70.cap) ∧
 ∃ x71 : SV, H.rd h62 (Addr.add (Addr.mk r60 0 none) 2) (Value.slice x71.a x71.len x71.cap) ∧
 ∃ x72 : ByteArray, H.rd h62 (Addr.add (Addr.mk r60 0 none) 3) (Value.string x72) ∧
 ∃ x73 : Int, H.rd h62 (Addr.add (Addr.mk r60 0 none) 4) (Value.int .i64 x73) ∧
 ([(Value.slice x69.a x69.len x69.cap), (Value.slice x70.a x70.len x70.cap), (Value.slice x71.a x71.len x71.cap), (Value.string x72), (Value.int .i64 x73)]).length = 5 ∧ (Program.underlying Go.Proofs.Tryz.prog 39).isSome = true ∧
 H.wr h62 (Addr.mk r16 0 none) ([(Value.slice x69.a x69.len x69.cap), (Value.slice x70.a x70.len x70.cap), (Value.slice x71.a x71.len x71.cap), (Value.string x72), (Value.int .i64 x73)]) fun h74 =>
 In64 (x43_i + (1 : Int)) ∧
 ∃ m41, m41 < n40 ∧ (∃ h75, Gh h74 h75 ∧ I39 m41 (x43_i + (1 : Int)) h75))) (
 (∃ h76, Gh h44 h76 ∧ R38 h76))

def f16_J2 (post : Value → H → Prop) (r3 : Nat) (r16 : Nat) (h77 : H) : Prop :=
 (
 ∃ x78 : SV, H.rd h77 (Addr.add (Addr.mk r16 0 none) 0) (Value.slice x78.a x78.len x78.cap) ∧
 ∃ x79 : SV, H.rd h77 (Addr.add (Addr.mk r16 0 none) 1) (Value.slice x79.a x79.len x79.cap) ∧
 ∃ x80 : SV, H.rd h77 (Addr.add (Addr.mk r16 0 none) 2) (Value.slice x80.a x80.len x80.cap) ∧
 ∃ x81 : ByteArray, H.rd h77 (Addr.add (Addr.mk r16 0 none) 3) (Value.string x81) ∧
 ∃ x82 : Int, H.rd h77 (Addr.add (Addr.mk r16 0 none) 4) (Value.int .i64 x82) ∧
 (
 ∃ x83 : Int, H.rd h77 (Addr.add (Addr.add (Addr.mk r16 0 none) 4) 0) (Value.int .i64 x83) ∧
 ([(Value.slice x78.a x78.len x78.cap), (Value.slice x79.a x79.len x79.cap), (Value.slice x80.a x80.len x80.cap), (Value.string x81), (Value.int .i64 x82)]).length = 5 ∧ (Program.underlying Go.Proofs.Tryz.prog 39).isSome = true ∧
 H.wr h77 (Addr.mk r3 0 none) ([(Value.slice x78.a x78.len x78.cap), (Value.slice x79.a x79.len x79.cap), (Value.slice x80.a x80.len x80.cap), (Value.string x81), (Value.int .i64 x82)]) fun h84 =>
 ∃ x85 : SV, H.rd h84 (Addr.add (Addr.mk r3 0 none) 0) (Value.slice x85.a x85.len x85.cap) ∧
 ∃ x86 : SV, H.rd h84 (Addr.add (Addr.mk r3 0 none) 1) (Value.slice x86.a x86.len x86.cap) ∧
 ∃ x87 : SV, H.rd h84 (Addr.add (Addr.mk r3 0 none) 2) (Value.slice x87.a x87.len x87.cap) ∧
 ∃ x88 : ByteArray, H.rd h84 (Addr.add (Addr.mk r3 0 none) 3) (Value.string x88) ∧
 ∃ x89 : Int, H.rd h84 (Addr.add (Addr.mk r3 0 none) 4) (Value.int .i64 x89) ∧
 VRet h84 (Value.tuple (List.toArray [(Value.agg (List.toArray [(Value.slice x85.a x85.len x85.cap), (Value.slice x86.a x86.len x86.cap), (Value.slice x87.a x87.len x87.cap), (Value.string x88), (Value.int .i64 x89)])), (Value.int .i64 x83), (Value.int .i64 0)])) post) ∧
 (
 ([(Value.slice x78.a x78.len x78.cap), (Value.slice x79.a x79.len x79.cap), (Value.slice x80.a x80.len x80.cap), (Value.string x81), (Value.int .i64 x82)]).length = 5 ∧ (Program.underlying Go.Proofs.Tryz.prog 39).isSome = true ∧
 H.wr h77 (Addr.mk r3 0 none) ([(Value.slice x78.a x78.len x78.cap), (Value.slice x79.a x79.len x79.cap), (Value.slice x80.a x80.len x80.cap), (Value.string x81), (Value.int .i64 x82)]) fun h90 =>
 ∃ x91 : Int, H.rd h90 (Addr.add (Addr.add (Addr.mk r16 0 none) 4) 0) (Value.int .i64 x91) ∧
 ∃ x92 : SV, H.rd h90 (Addr.add (Addr.mk r3 0 none) 0) (Value.slice x92.a x92.len x92.cap) ∧
 ∃ x93 : SV, H.rd h90 (Addr.add (Addr.mk r3 0 none) 1) (Value.slice x93.a x93.len x93.cap) ∧
 ∃ x94 : SV, H.rd h90 (Addr.add (Addr.mk r3 0 none) 2) (Value.slice x94.a x94.len x94.cap) ∧
 ∃ x95 : ByteArray, H.rd h90 (Addr.add (Addr.mk r3 0 none) 3) (Value.string x95) ∧
 ∃ x96 : Int, H.rd h90 (Addr.add (Addr.mk r3 0 none) 4) (Value.int .i64 x96) ∧
 VRet h90 (Value.tuple (List.toArray [(Value.agg (List.toArray [(Value.slice x92.a x92.len x92.cap), (Value.slice x93.a x93.len x93.cap), (Value.slice x94.a x94.len x94.cap), (Value.string x95), (Value.int .i64 x96)])), (Value.int .i64 x91), (Value.int .i64 0)])) post)) ∧
 (
 ∃ x97 : Int, H.rd h77 (Addr.add (Addr.add (Addr.mk r16 0 none) 4) 0) (Value.int .i64 x97) ∧
 ∃ x98 : SV, H.rd h77 (Addr.add (Addr.mk r16 0 none) 0) (Value.slice x98.a x98.len x98.cap) ∧
 ∃ x99 : SV, H.rd h77 (Addr.add (Addr.mk r16 0 none) 1) (Value.slice x99.a x99.len x99.cap) ∧
 ∃ x100 : SV, H.rd h77 (Addr.add (Addr.mk r16 0 none) 2) (Value.slice x100.a x100.len x100.cap) ∧
 ∃ x101 : ByteArray, H.rd h77 (Addr.add (Addr.mk r16 0 none) 3) (Value.string x101) ∧
 ∃ x102 : Int, H.rd h77 (Addr.add (Addr.mk r16 0 none) 4) (Value.int .i64 x102) ∧
 ([(Value.slice x98.a x98.len x98.cap), (Value.slice x99.a x99.len x99.cap), (Value.slice x100.a x100.len x100.cap), (Value.string x101), (Value.int .i64 x102)]).length = 5 ∧ (Program.underlying Go.Proofs.Tryz.prog 39).isSome = true ∧
 H.wr h77 (Addr.mk r3 0 none) ([(Value.slice x98.a x98.len x98.cap), (Value.slice x99.a x99.len x99.cap), (Value.slice x100.a x100.len x100.cap), (Value.string x101), (Value.int .i64 x102)]) fun h103 =>
 ∃ x104 : SV, H.rd h103 (Addr.add (Addr.mk r3 0 none) 0) (Value.slice x104.a x104.len x104.cap) ∧
 ∃ x105 : SV, H.rd h103 (Addr.add (Addr.mk r3 0 none) 1) (Value.slice x105.a x105.len x105.cap) ∧
 ∃ x106 : SV, H.rd h103 (Addr.add (Addr.mk r3 0 none) 2) (Value.slice x106.a x106.len x106.cap) ∧
 ∃ x107 : ByteArray, H.rd h103 (Addr.add (Addr.mk r3 0 none) 3) (Value.string x107) ∧
 ∃ x108 : Int, H.rd h103 (Addr.add (Addr.mk r3 0 none) 4) (Value.int .i64 x108) ∧
 VRet h103 (Value.tuple (List.toArray [(Value.agg (List.toArray [(Value.slice x104.a x104.len x104.cap), (Value.slice x105.a x105.len x105.cap), (Value.slice x106.a x106.len x106.cap), (Value.string x107), (Value.int .i64 x108)])), (Value.int .i64 x97), (Value.int .i64 0)])) post)

def f16_J3 (p1_text : ByteArray) (post : Value → H → Prop) (r3 : Nat) (r16 : Nat) (x27_e : Int) (h28 : H) : Prop :=
 VIf (x27_e != (0 : Int)) (
 ([(Value.slice none 0 0), (Value.slice none 0 0), (Value.slice none 0 0), (Value.string ByteArray.empty), (Value.int .i64 0)]).length = 5 ∧ (Program.underlying Go.Proofs.Tryz.prog 39).isSome = true ∧
 H.wr h28 (Addr.mk r3 0 none) ([(Value.slice none 0 0), (Value.slice none 0 0), (Value.slice none 0 0), (Value.string ByteArray.empty), (Value.int .i64 0)]) fun h29 =>
 ∃ x30 : SV, H.rd h29 (Addr.add (Addr.mk r3 0 none) 0) (Value.slice x30.a x30.len x30.cap) ∧
 ∃ x31 : SV, H.rd h29 (Addr.add (Addr.mk r3 0 none) 1) (Value.slice x31.a x31.len x31.cap) ∧
 ∃ x32 : SV, H.rd h29 (Addr.add (Addr.mk r3 0 none) 2) (Value.slice x32.a x32.len x32.cap) ∧
 ∃ x33 : ByteArray, H.rd h29 (Addr.add (Addr.mk r3 0 none) 3) (Value.string x33) ∧
 ∃ x34 : Int, H.rd h29 (Addr.add (Addr.mk r3 0 none) 4) (Value.int .i64 x34) ∧
 VRet h29 (Value.tuple (List.toArray [(Value.agg (List.toArray [(Value.slice x30.a x30.len x30.cap), (Value.slice x31.a x31.len x31.cap), (Value.slice x32.a x32.len x32.cap), (Value.string x33), (Value.int .i64 x34)])), (Value.int .i64 0), (Value.int .i64 x27_e)])) post) (
 SemCall Go.Proofs.Tryz.prog 33 (List.toArray [(Value.string p1_text), (Value.int .u8 (10 : Int))]) h28 fun v35 h36 =>
 ∃ x37 : SV, v35 = (Value.slice x37.a x37.len x37.cap) ∧
 ∃ R38 : H → Prop, (
 ∃ I39 : Nat → Int → H → Prop, (∃ n40, (∃ h42, Gh h36 h42 ∧ I39 n40 (0 : Int) h42)) ∧
 ∀ (n40 : Nat) (_ : F) (x43_i : Int) (h44 : H), I39 n40 x43_i h44 →
 f16_L1 post r3 r16 x37 R38 I39 n40 x43_i h44) ∧
 ∀ (_ : F) (h77 : H), R38 h77 →
 f16_J2 post r3 r16 h77)

def f16_sem (p0_0_first : SV) (p0_1_first : SV) (p0_2_first : SV) (p1_text : ByteArray) (h0 : H) (post : Value → H → Prop) : Prop :=
 H.new h0 [(Value.slice p0_0_first.a p0_0_first.len p0_0_first.cap), (Value.slice p0_1_first.a p0_1_first.len p0_1_first.cap), (Value.slice p0_2_first.a p0_2_first.len p0_2_first.cap)] fun r1 h2 =>
 H.new h2 [(Value.slice none 0 0), (Value.slice none 0 0), (Value.slice none 0 0), (Value.string ByteArray.empty), (Value.int .i64 0)] fun r3 h4 =>
 ∃ x5 : SV, H.rd h4 (Addr.add (Addr.mk r1 0 none) 0) (Value.slice x5.a x5.len x5.cap) ∧
 ∃ x6 : SV, H.rd h4 (Addr.add (Addr.mk r1 0 none) 1) (Value.slice x6.a x6.len x6.cap) ∧
 ∃ x7 : SV, H.rd h4 (Addr.add (Addr.mk r1 0 none) 2) (Value.slice x7.a x7.len x7.cap) ∧
 SemCall Go.Proofs.Tryz.prog 32 (List.toArray [(Value.agg (List.toArray [(Value.slice x5.a x5.len x5.cap), (Value.slice x6.a x6.len x6.cap), (Value.slice x7.a x7.len x7.cap)]))]) h4 fun v8 h9 =>
 ∃ x10 : SV, ∃ x11 : SV, ∃ x12 : SV, ∃ x13 : ByteArray, ∃ x14 : Int, ∃ x15 : Int, v8 = (Value.tuple (List.toArray [(Value.agg (List.toArray [(Value.slice x10.a x10.len x10.cap), (Value.slice x11.a x11.len x11.cap), (Value.slice x12.a x12.len x12.cap), (Value.string x13), (Value.int .i64 x14)])), (Value.int .i64 x15)])) ∧
 H.new h9 [(Value.slice none 0 0), (Value.slice none 0 0), (Value.slice none 0 0), (Value.string ByteArray.empty), (Value.int .i64 0)] fun r16 h17 =>
 ([(Value.slice x10.a x10.len x10.cap), (Value.slice x11.a x11.len x11.cap), (Value.slice x12.a x12.len x12.cap), (Value.string x13), (Value.int .i64 x14)]).length = 5 ∧ (Program.underlying Go.Proofs.Tryz.prog 39).isSome = true ∧
 H.wr h17 (Addr.mk r16 0 none) ([(Value.slice x10.a x10.len x10.cap), (Value.slice x11.a x11.len x11.cap), (Value.slice x12.a x12.len x12.cap), (Value.string x13), (Value.int .i64 x14)]) fun h18 =>
 ∃ R19 : Bool → H → Prop, (
 VIf (x15 == (0 : Int)) (
 (∃ h20, Gh h18 h20 ∧ R19 (decide (((ByteArray.size p1_text : Nat) : Int) > (2000 : Int))) h20)) (
 (∃ h21, Gh h18 h21 ∧ R19 false h21))) ∧
 ∀ (_ : F) (x22 : Bool) (h23 : H), R19 x22 h23 →
 ∃ R24 : Int → H → Prop, (
 VIf x22 (
 (∃ h25, Gh h23 h25 ∧ R24 (4 : Int) h25)) (
 (∃ h26, Gh h23 h26 ∧ R24 x15 h26))) ∧
 ∀ (_ : F) (x27_e : Int) (h28 : H), R24 x27_e h28 →
 f16_J3 p1_text post r3 r16 x27_e h28

def f16_hint : Hint := (.node .leaf (.node .leaf (.node (.node (.join [(24, .bool)] .leaf) (.join [(8, .int)] .leaf)) (.node .leaf (.node .leaf (.node (.node .leaf (.join [] (.node (.loop [(10, .int)] (.node .leaf (.node (.node (.node .lex .leaf) .leaf) .leaf))) .leaf))) (.node .any .leaf)))))))

theorem f16_eq (p0_0_first : SV) (p0_1_first : SV) (p0_2_first : SV) (p1_text : ByteArray) (h0 : H) (post : Value → H → Prop) : exec Tryz.prog (bodyOf Tryz.f16) f16_hint (retQ Tryz.prog Tryz.f16 post) (F0 [(Value.agg (List.toArray [(Value.slice p0_0_first.a p0_0_first.len p0_0_first.cap), (Value.slice p0_1_first.a p0_1_first.len p0_1_first.cap), (Value.slice p0_2_first.a p0_2_first.len p0_2_first.cap)])), (Value.string p1_text)]) h0 = f16_sem p0_0_first p0_1_first p0_2_first p1_text h0 post := by kernel_rfl

set_option maxRecDepth 20000 in
theorem f16_call (p0_0_first : SV) (p0_1_first : SV) (p0_2_first : SV) (p1_text : ByteArray) (h0 : H) (post : Value → H → Prop) (hx : f16_sem p0_0_first p0_1_first p0_2_first p1_text h0 post) : SemCall Tryz.prog 16 (List.toArray [(Value.agg (List.toArray [(Value.slice p0_0_first.a p0_0_first.len p0_0_first.cap), (Value.slice p0_1_first.a p0_1_first.len p0_1_first.cap), (Value.slice p0_2_first.a p0_2_first.len p0_2_first.cap)])), (Value.string p1_text)]) h0 post :=
 sem_of_exec (g := f16_hint) mixed Tryz.func16 (bodyOf_eq (by kernel_rfl)) (by kernel_rfl) ((f16_eq p0_0_first p0_1_first p0_2_first p1_text h0 post).mpr hx)

/- latchgarth/latchgarthlaw6.BookOpens -/
def f4_J1 (post : Value → H → Prop) (x13 : Int) (x14 : Int) (r15 : Nat) (x23 : Option Addr) (x24 : Int) (x25 : Option (TypeId × Value)) (x29 : Bool) (h30 : H) : Prop :=
 VIf x29 (
 ∃ R31 : Bool → H → Prop, (
 SemCall Go.Proofs.Tryz.prog 15 (List.toArray [(errV x25), (Value.int .i64 x14)]) h30 fun v32 h33 =>
 ∃ x34 : Bool, v32 = (Value.bool x34) ∧
 VIf x34 (
 (∃ h35, Gh h33 h35 ∧ R31 (x24 == x13) h35)) (
 (∃ h36, Gh h33 h36 ∧ R31 false h36))) ∧
 ∀ (_ : F) (x37 : Bool) (h38 : H), R31 x37 h38 →
 VRet h38 (Value.bool x37) post) (
 ∃ R39 : Bool → H → Prop, (
 VIf (x24 == x13) (
 ∃ x40 : ByteArray, H.rd h30 (Addr.add (Addr.add (Addr.mk r15 0 none) 3) 0) (Value.string x40) ∧
 SemCall Go.Proofs.Tryz.prog 13 (List.toArray [(Value.pointer x23)]) h30 fun v41 h42 => OwnExt h30 h42 ∧
 ∃ x43 : ByteArray, v41 = (Value.string x43) ∧
 VIf (ByteArray.toList x43 == ByteArray.toList x40) (
 ∃ x44 : SV, H.rd h42 (Addr.add (Addr.add (Addr.mk r15 0 none) 0) 0) (Value.slice x44.a x44.len x44.cap) ∧
 ∃ x45 : SV, H.rd h42 (Addr.add (Addr.add (Addr.mk r15 0 none) 0) 1) (Value.slice x45.a x45.len x45.cap) ∧
 ∃ x46 : SV, H.rd h42 (Addr.add (Addr.add (Addr.mk r15 0 none) 0) 2) (Value.slice x46.a x46.len x46.cap) ∧
 SemCall Go.Proofs.Tryz.prog 18 (List.toArray [(Value.pointer x23)]) h42 fun v47 h48 => OwnExt h42 h48 ∧
 ∃ x49 : SV, ∃ x50 : SV, ∃ x51 : SV, v47 = (Value.agg (List.toArray [(Value.slice x49.a x49.len x49.cap), (Value.slice x50.a x50.len x50.cap), (Value.slice x51.a x51.len x51.cap)])) ∧
 SemCall Go.Proofs.Tryz.prog 17 (List.toArray [(Value.agg (List.toArray [(Value.slice x49.a x49.len x49.cap), (Value.slice x50.a x50.len x50.cap), (Value.slice x51.a x51.len x51.cap)])), (Value.agg (List.toArray [(Value.slice x44.a x44.len x44.cap), (Value.slice x45.a x45.len x45.cap), (Value.slice x46.a x46.len x46.cap)]))]) h48 fun v52 h53 =>
 ∃ x54 : Bool, v52 = (Value.bool x54) ∧
 (∃ h55, Gh h53 h55 ∧ R39 x54 h55)) (
 (∃ h56, Gh h42 h56 ∧ R39 false h56))) (
 (∃ h57, Gh h30 h57 ∧ R39 false h57))) ∧
 ∀ (_ : F) (x58 : Bool) (h59 : H), R39 x58 h59 →
 VRet h59 (Value.bool x58) post)

def f4_sem (p0_0_b : SV) (p0_1_b : SV) (p0_2_b : SV) (p1_text : ByteArray) (h0 : H) (post : Value → H → Prop) : Prop :=
 H.new h0 [(Value.slice p0_0_b.a p0_0_b.len p0_0_b.cap), (Value.slice p0_1_b.a p0_1_b.len p0_1_b.cap), (Value.slice p0_2_b.a p0_2_b.len p0_2_b.cap)] fun r1 h2 =>
 ∃ x3 : SV, H.rd h2 (Addr.add (Addr.mk r1 0 none) 0) (Value.slice x3.a x3.len x3.cap) ∧
 ∃ x4 : SV, H.rd h2 (Addr.add (Addr.mk r1 0 none) 1) (Value.slice x4.a x4.len x4.cap) ∧
 ∃ x5 : SV, H.rd h2 (Addr.add (Addr.mk r1 0 none) 2) (Value.slice x5.a x5.len x5.cap) ∧
 SemCall Go.Proofs.Tryz.prog 16 (List.toArray [(Value.agg (List.toArray [(Value.slice x3.a x3.len x3.cap), (Value.slice x4.a x4.len x4.cap), (Value.slice x5.a x5.len x5.cap)])), (Value.string p1_text)]) h2 fun v6 h7 =>
 ∃ x8 : SV, ∃ x9 : SV, ∃ x10 : SV, ∃ x11 : ByteArray, ∃ x12 : Int, ∃ x13 : Int, ∃ x14 : Int, v6 = (Value.tuple (List.toArray [(Value.agg (List.toArray [(Value.slice x8.a x8.len x8.cap), (Value.slice x9.a x9.len x9.cap), (Value.slice x10.a x10.len x10.cap), (Value.string x11), (Value.int .i64 x12)])), (Value.int .i64 x13), (Value.int .i64 x14)])) ∧
 H.new h7 [(Value.slice none 0 0), (Value.slice none 0 0), (Value.slice none 0 0), (Value.string ByteArray.empty), (Value.int .i64 0)] fun r15 h16 =>
 ([(Value.slice x8.a x8.len x8.cap), (Value.slice x9.a x9.len x9.cap), (Value.slice x10.a x10.len x10.cap), (Value.string x11), (Value.int .i64 x12)]).length = 5 ∧ (Program.underlying Go.Proofs.Tryz.prog 39).isSome = true ∧
 H.wr h16 (Addr.mk r15 0 none) ([(Value.slice x8.a x8.len x8.cap), (Value.slice x9.a x9.len x9.cap), (Value.slice x10.a x10.len x10.cap), (Value.string x11), (Value.int .i64 x12)]) fun h17 =>
 ∃ x18 : SV, H.rd h17 (Addr.add (Addr.mk r1 0 none) 0) (Value.slice x18.a x18.len x18.cap) ∧
 ∃ x19 : SV, H.rd h17 (Addr.add (Addr.mk r1 0 none) 1) (Value.slice x19.a x19.len x19.cap) ∧
 ∃ x20 : SV, H.rd h17 (Addr.add (Addr.mk r1 0 none) 2) (Value.slice x20.a x20.len x20.cap) ∧
 SemCall Go.Proofs.Tryz.prog 14 (List.toArray [(Value.agg (List.toArray [(Value.slice x18.a x18.len x18.cap), (Value.slice x19.a x19.len x19.cap), (Value.slice x20.a x20.len x20.cap)])), (Value.string p1_text)]) h17 fun v21 h22 =>
 ∃ x23 : Option Addr, ∃ x24 : Int, ∃ x25 : Option (TypeId × Value), v21 = (Value.tuple (List.toArray [(Value.pointer x23), (Value.int .i64 x24), (errV x25)])) ∧
 ∃ R26 : Bool → H → Prop, (
 VIf (x14 != (0 : Int)) (
 (∃ h27, Gh h22 h27 ∧ R26 true h27)) (
 isIfaceV (errV x25) = true ∧
 (∃ h28, Gh h22 h28 ∧ R26 (!(isNilV (errV x25))) h28))) ∧
 ∀ (_ : F) (x29 : Bool) (h30 : H), R26 x29 h30 →
 f4_J1 post x13 x14 r15 x23 x24 x25 x29 h30

def f4_hint : Hint := (.node .leaf (.node .leaf (.node .leaf (.node (.node (.join [(30, .bool)] .leaf) (.node (.node (.join [(4, .bool)] .leaf) .leaf) .leaf)) (.node (.join [(4, .bool)] .lex) .leaf)))))

theorem f4_eq (p0_0_b : SV) (p0_1_b : SV) (p0_2_b : SV) (p1_text : ByteArray) (h0 : H) (post : Value → H → Prop) : exec Tryz.prog (bodyOf Tryz.f4) f4_hint (retQ Tryz.prog Tryz.f4 post) (F0 [(Value.agg (List.toArray [(Value.slice p0_0_b.a p0_0_b.len p0_0_b.cap), (Value.slice p0_1_b.a p0_1_b.len p0_1_b.cap), (Value.slice p0_2_b.a p0_2_b.len p0_2_b.cap)])), (Value.string p1_text)]) h0 = f4_sem p0_0_b p0_1_b p0_2_b p1_text h0 post := by kernel_rfl

set_option maxRecDepth 20000 in
theorem f4_call (p0_0_b : SV) (p0_1_b : SV) (p0_2_b : SV) (p1_text : ByteArray) (h0 : H) (post : Value → H → Prop) (hx : f4_sem p0_0_b p0_1_b p0_2_b p1_text h0 post) : SemCall Tryz.prog 4 (List.toArray [(Value.agg (List.toArray [(Value.slice p0_0_b.a p0_0_b.len p0_0_b.cap), (Value.slice p0_1_b.a p0_1_b.len p0_1_b.cap), (Value.slice p0_2_b.a p0_2_b.len p0_2_b.cap)])), (Value.string p1_text)]) h0 post :=
 sem_of_exec (g := f4_hint) mixed Tryz.func4 (bodyOf_eq (by kernel_rfl)) (by kernel_rfl) ((f4_eq p0_0_b p0_1_b p0_2_b p1_text h0 post).mpr hx)

/- latchgarth/book.number -/
def f54_sem (p0_s : ByteArray) (h0 : H) (post : Value → H → Prop) : Prop :=
 SemCall Go.Proofs.Tryz.prog 84 (List.toArray [(Value.string p0_s)]) h0 fun v1 h2 =>
 ∃ x3 : Int, ∃ x4 : Option (TypeId × Value), v1 = (Value.tuple (List.toArray [(Value.int .i64 x3), (errV x4)])) ∧
 ∃ R5 : Int → Bool → H → Prop, (
 isIfaceV (errV x4) = true ∧
 VIf (isNilV (errV x4)) (
 VIf (decide (x3 ≥ (0 : Int))) (
 SemCall Go.Proofs.Tryz.prog 64 (List.toArray [(Value.int .i64 x3)]) h2 fun v6 h7 =>
 ∃ x8 : ByteArray, v6 = (Value.string x8) ∧
 (∃ h9, Gh h7 h9 ∧ R5 x3 (ByteArray.toList x8 == ByteArray.toList p0_s) h9)) (
 (∃ h10, Gh h2 h10 ∧ R5 x3 false h10))) (
 (∃ h11, Gh h2 h11 ∧ R5 x3 false h11))) ∧
 ∀ (_ : F) (x12 : Int) (x13 : Bool) (h14 : H), R5 x12 x13 h14 →
 VRet h14 (Value.tuple (List.toArray [(Value.int .i64 x12), (Value.bool x13)])) post

def f54_hint : Hint := (.node .leaf (.node .leaf (.node (.join [(2, .int), (3, .bool)] .leaf) .leaf)))

theorem f54_eq (p0_s : ByteArray) (h0 : H) (post : Value → H → Prop) : exec Tryz.prog (bodyOf Tryz.f54) f54_hint (retQ Tryz.prog Tryz.f54 post) (F0 [(Value.string p0_s)]) h0 = f54_sem p0_s h0 post := by kernel_rfl

set_option maxRecDepth 20000 in
theorem f54_call (p0_s : ByteArray) (h0 : H) (post : Value → H → Prop) (hx : f54_sem p0_s h0 post) : SemCall Tryz.prog 54 (List.toArray [(Value.string p0_s)]) h0 post :=
 sem_of_exec (g := f54_hint) mixed Tryz.func54 (bodyOf_eq (by kernel_rfl)) (by kernel_rfl) ((f54_eq p0_s h0 post).mpr hx)

end Go.Proofs.YtnppmcgmmdcpiaaGreatDoor
