import Derived.Test.YtockhbbpcbcenaaEngG
import Derived.Test.YtockhbbpcbcenaaRows
namespace Go.Proofs.Ytockhbbpcbcenaa
open Go.Eng
theorem mixed : Try.prog.follows .mixedOrders = true := by kernel_rfl
/- latchgarth/latchgarthlaw4.CombOnce -/
def f3_J1 (p0_n : Int) (post : Value → H → Prop) (r13 : Nat) (r15 : Nat) (I105 : Nat → Int → Int → H → Prop) (n106 : Nat) (x109_sum : Int) (x110_p : Int) (x114 : Int) (x126 : Bool) (h127 : H) : Prop :=
 VIf x126 (
 VRet h127 (Value.bool false) post) (
 ∃ b128 : Addr, (some (Addr.mk r15 0 none)) = some b128 ∧ 0 ≤ x110_p ∧ x110_p < (((p0_n).toNat : Nat) : Int) ∧
 ∃ x129 : Int, H.rd h127 (Addr.add (Addr.add b128 ((x110_p).toNat * 1)) 0) (Value.int .i64 x129) ∧
 VIf (decide (x114 > x129)) (
 ∃ b130 : Addr, (some (Addr.mk r13 0 none)) = some b130 ∧ 0 ≤ x110_p ∧ x110_p < (((p0_n).toNat : Nat) : Int) ∧
 ∃ x131 : Int, H.rd h127 (Addr.add (Addr.add b130 ((x110_p).toNat * 1)) 0) (Value.int .i64 x131) ∧
 In64 (x109_sum + x131) ∧
 ∃ b132 : Addr, (some (Addr.mk r15 0 none)) = some b132 ∧ 0 ≤ x110_p ∧ x110_p < (((p0_n).toNat : Nat) : Int) ∧
 H.wr h127 (Addr.add b132 ((x110_p).toNat * 1)) ([(Value.int .i64 x114)]) fun h133 =>
 In64 (x110_p + (1 : Int)) ∧
 ∃ m107, m107 < n106 ∧ (∃ h134, Gh h133 h134 ∧ I105 m107 (x109_sum + x131) (x110_p + (1 : Int)) h134)) (
 In64 (x110_p + (1 : Int)) ∧
 ∃ m107, m107 < n106 ∧ (∃ h135, Gh h127 h135 ∧ I105 m107 x109_sum (x110_p + (1 : Int)) h135)))

def f3_L2 (p0_n : Int) (post : Value → H → Prop) (x6 : Option Addr) (r13 : Nat) (r15 : Nat) (r17 : Nat) (R104 : Int → H → Prop) (I105 : Nat → Int → Int → H → Prop) (n106 : Nat) (x109_sum : Int) (x110_p : Int) (h111 : H) : Prop :=
 VIf (decide (x110_p < p0_n)) (
 SemCall Go.Proofs.Try.prog 15 (List.toArray [(Value.pointer x6), (Value.int .i64 x110_p)]) h111 fun v112 h113 =>
 ∃ x114 : Int, ∃ x115 : Int, v112 = (Value.tuple (List.toArray [(Value.int .i64 x114), (Value.int .i64 x115)])) ∧
 ∃ R116 : Bool → H → Prop, (
 ∃ b117 : Addr, (some (Addr.mk r15 0 none)) = some b117 ∧ 0 ≤ x110_p ∧ x110_p < (((p0_n).toNat : Nat) : Int) ∧
 ∃ x118 : Int, H.rd h113 (Addr.add (Addr.add b117 ((x110_p).toNat * 1)) 0) (Value.int .i64 x118) ∧
 VIf (x114 != x118) (
 ∃ b119 : Addr, (some (Addr.mk r15 0 none)) = some b119 ∧ 0 ≤ x110_p ∧ x110_p < (((p0_n).toNat : Nat) : Int) ∧
 ∃ x120 : Int, H.rd h113 (Addr.add (Addr.add b119 ((x110_p).toNat * 1)) 0) (Value.int .i64 x120) ∧
 In64 (x120 + (1 : Int)) ∧
 VIf (x114 != (x120 + (1 : Int))) (
 (∃ h121, Gh h113 h121 ∧ R116 true h121)) (
 ∃ b122 : Addr, (some (Addr.mk r17 0 none)) = some b122 ∧ 0 ≤ x110_p ∧ x110_p < (((p0_n).toNat : Nat) : Int) ∧
 ∃ x123 : Int, H.rd h113 (Addr.add (Addr.add b122 ((x110_p).toNat * 1)) 0) (Value.int .i64 x123) ∧
 (∃ h124, Gh h113 h124 ∧ R116 (x114 != x123) h124))) (
 (∃ h125, Gh h113 h125 ∧ R116 false h125))) ∧
 ∀ (_ : F) (x126 : Bool) (h127 : H), R116 x126 h127 →
 f3_J1 p0_n post r13 r15 I105 n106 x109_sum x110_p x114 x126 h127) (
 (∃ h136, Gh h111 h136 ∧ R104 x109_sum h136))

def f3_J3 (p0_n : Int) (post : Value → H → Prop) (x6 : Option Addr) (r13 : Nat) (r17 : Nat) (R32 : Int → H → Prop) (x93_told : Int) (x94_got : Int) (x137_sum : Int) (h138 : H) : Prop :=
 SemCall Go.Proofs.Try.prog 16 (List.toArray [(Value.pointer x6)]) h138 fun v139 h140 =>
 ∃ x141 : Int, v139 = (Value.int .i64 x141) ∧
 VIf (x141 != x137_sum) (
 VRet h140 (Value.bool false) post) (
 VIf (decide (x93_told ≥ (0 : Int))) (
 In64 (p0_n - (1 : Int)) ∧
 SemCall Go.Proofs.Try.prog 12 (List.toArray [(Value.int .i64 x93_told), (Value.int .i64 0), (Value.int .i64 (p0_n - (1 : Int)))]) h140 fun v142 h143 =>
 ∃ x144 : Bool, v142 = (Value.bool x144) ∧
 VIf (!x144) (
 VRet h143 (Value.bool false) post) (
 SemCall Go.Proofs.Try.prog 15 (List.toArray [(Value.pointer x6), (Value.int .i64 x93_told)]) h143 fun v145 h146 =>
 ∃ x147 : Int, ∃ x148 : Int, v145 = (Value.tuple (List.toArray [(Value.int .i64 x147), (Value.int .i64 x148)])) ∧
 ∃ R149 : Bool → H → Prop, (
 ∃ b150 : Addr, (some (Addr.mk r17 0 none)) = some b150 ∧ 0 ≤ x93_told ∧ x93_told < (((p0_n).toNat : Nat) : Int) ∧
 ∃ x151 : Int, H.rd h146 (Addr.add (Addr.add b150 ((x93_told).toNat * 1)) 0) (Value.int .i64 x151) ∧
 VIf (x147 != x151) (
 (∃ h152, Gh h146 h152 ∧ R149 true h152)) (
 VIf (x148 != x94_got) (
 (∃ h153, Gh h146 h153 ∧ R149 true h153)) (
 ∃ b154 : Addr, (some (Addr.mk r13 0 none)) = some b154 ∧ 0 ≤ x93_told ∧ x93_told < (((p0_n).toNat : Nat) : Int) ∧
 ∃ x155 : Int, H.rd h146 (Addr.add (Addr.add b154 ((x93_told).toNat * 1)) 0) (Value.int .i64 x155) ∧
 In64 (x94_got + x155) ∧
 (∃ h156, Gh h146 h156 ∧ R149 (decide ((x94_got + x155) > x137_sum)) h156)))) ∧
 ∀ (_ : F) (x157 : Bool) (h158 : H), R149 x157 h158 →
 VIf x157 (
 VRet h158 (Value.bool false) post) (
 (∃ h159, Gh h158 h159 ∧ R32 x137_sum h159)))) (
 (∃ h160, Gh h140 h160 ∧ R32 x137_sum h160)))

def f3_J4 (p0_n : Int) (post : Value → H → Prop) (x6 : Option Addr) (r13 : Nat) (r15 : Nat) (r17 : Nat) (x24_sum : Int) (R32 : Int → H → Prop) (x34 : SV) (x93_told : Int) (x94_got : Int) (h95 : H) : Prop :=
 ∃ R96 : H → Prop, (
 VIf (((x34.len : Nat) : Int) == (3 : Int)) (
 ∃ b97 : Addr, x34.a = some b97 ∧ 0 ≤ (2 : Int) ∧ (2 : Int) < ((x34.len : Nat) : Int) ∧
 ∃ x98 : Int, H.rd h95 (Addr.add (Addr.add b97 (((2 : Int)).toNat * 1)) 0) (Value.int .i64 x98) ∧
 SemCall Go.Proofs.Try.prog 14 (List.toArray [(Value.pointer x6), (Value.bool (x98 == (1 : Int)))]) h95 fun v99 h100 =>
 v99 = (Value.tuple (List.toArray [])) ∧
 (∃ h101, Gh h100 h101 ∧ R96 h101)) (
 (∃ h102, Gh h95 h102 ∧ R96 h102))) ∧
 ∀ (_ : F) (h103 : H), R96 h103 →
 ∃ R104 : Int → H → Prop, (
 ∃ I105 : Nat → Int → Int → H → Prop, (∃ n106, (∃ h108, Gh h103 h108 ∧ I105 n106 x24_sum (0 : Int) h108)) ∧
 ∀ (n106 : Nat) (_ : F) (x109_sum : Int) (x110_p : Int) (h111 : H), I105 n106 x109_sum x110_p h111 →
 f3_L2 p0_n post x6 r13 r15 r17 R104 I105 n106 x109_sum x110_p h111) ∧
 ∀ (_ : F) (x137_sum : Int) (h138 : H), R104 x137_sum h138 →
 f3_J3 p0_n post x6 r13 r17 R32 x93_told x94_got x137_sum h138

def f3_J5 (p0_n : Int) (post : Value → H → Prop) (x6 : Option Addr) (r13 : Nat) (r15 : Nat) (r17 : Nat) (x24_sum : Int) (R32 : Int → H → Prop) (x34 : SV) (h74 : H) : Prop :=
 ∃ R75 : Int → Int → H → Prop, (
 VIf (((x34.len : Nat) : Int) == (1 : Int)) (
 ∃ b76 : Addr, x34.a = some b76 ∧ 0 ≤ (0 : Int) ∧ (0 : Int) < ((x34.len : Nat) : Int) ∧
 ∃ x77 : Int, H.rd h74 (Addr.add (Addr.add b76 (((0 : Int)).toNat * 1)) 0) (Value.int .i64 x77) ∧
 SemCall Go.Proofs.Try.prog 13 (List.toArray [(Value.pointer x6), (Value.int .i64 x77)]) h74 fun v78 h79 =>
 ∃ x80 : Bool, ∃ x81 : Int, ∃ x82 : Option (TypeId × Value), v78 = (Value.tuple (List.toArray [(Value.bool x80), (Value.int .i64 x81), (errV x82)])) ∧
 ∃ R83 : Bool → H → Prop, (
 isIfaceV (errV x82) = true ∧
 VIf (isNilV (errV x82)) (
 (∃ h84, Gh h79 h84 ∧ R83 x80 h84)) (
 (∃ h85, Gh h79 h85 ∧ R83 false h85))) ∧
 ∀ (_ : F) (x86 : Bool) (h87 : H), R83 x86 h87 →
 VIf x86 (
 ∃ b88 : Addr, x34.a = some b88 ∧ 0 ≤ (0 : Int) ∧ (0 : Int) < ((x34.len : Nat) : Int) ∧
 ∃ x89 : Int, H.rd h87 (Addr.add (Addr.add b88 (((0 : Int)).toNat * 1)) 0) (Value.int .i64 x89) ∧
 (∃ h90, Gh h87 h90 ∧ R75 x89 x81 h90)) (
 (∃ h91, Gh h87 h91 ∧ R75 (-1 : Int) (0 : Int) h91))) (
 (∃ h92, Gh h74 h92 ∧ R75 (-1 : Int) (0 : Int) h92))) ∧
 ∀ (_ : F) (x93_told : Int) (x94_got : Int) (h95 : H), R75 x93_told x94_got h95 →
 f3_J4 p0_n post x6 r13 r15 r17 x24_sum R32 x34 x93_told x94_got h95

def f3_J6 (p0_n : Int) (post : Value → H → Prop) (x6 : Option Addr) (r13 : Nat) (r15 : Nat) (r17 : Nat) (x24_sum : Int) (R32 : Int → H → Prop) (x34 : SV) (x50 : Bool) (h51 : H) : Prop :=
 ∃ R52 : H → Prop, (
 VIf x50 (
 ∃ b53 : Addr, x34.a = some b53 ∧ 0 ≤ (0 : Int) ∧ (0 : Int) < ((x34.len : Nat) : Int) ∧
 ∃ x54 : Int, H.rd h51 (Addr.add (Addr.add b53 (((0 : Int)).toNat * 1)) 0) (Value.int .i64 x54) ∧
 In64 (p0_n - (1 : Int)) ∧
 SemCall Go.Proofs.Try.prog 12 (List.toArray [(Value.int .i64 x54), (Value.int .i64 0), (Value.int .i64 (p0_n - (1 : Int)))]) h51 fun v55 h56 =>
 ∃ x57 : Bool, v55 = (Value.bool x57) ∧
 VIf (!x57) (
 VRet h56 (Value.bool false) post) (
 ∃ b58 : Addr, x34.a = some b58 ∧ 0 ≤ (0 : Int) ∧ (0 : Int) < ((x34.len : Nat) : Int) ∧
 ∃ x59 : Int, H.rd h56 (Addr.add (Addr.add b58 (((0 : Int)).toNat * 1)) 0) (Value.int .i64 x59) ∧
 ∃ b60 : Addr, x34.a = some b60 ∧ 0 ≤ (1 : Int) ∧ (1 : Int) < ((x34.len : Nat) : Int) ∧
 ∃ x61 : Int, H.rd h56 (Addr.add (Addr.add b60 (((1 : Int)).toNat * 1)) 0) (Value.int .i64 x61) ∧
 ∃ b62 : Addr, (some (Addr.mk r13 0 none)) = some b62 ∧ 0 ≤ x59 ∧ x59 < (((p0_n).toNat : Nat) : Int) ∧
 H.wr h56 (Addr.add b62 ((x59).toNat * 1)) ([(Value.int .i64 x61)]) fun h63 =>
 ∃ b64 : Addr, x34.a = some b64 ∧ 0 ≤ (0 : Int) ∧ (0 : Int) < ((x34.len : Nat) : Int) ∧
 ∃ x65 : Int, H.rd h63 (Addr.add (Addr.add b64 (((0 : Int)).toNat * 1)) 0) (Value.int .i64 x65) ∧
 ∃ b66 : Addr, x34.a = some b66 ∧ 0 ≤ (0 : Int) ∧ (0 : Int) < ((x34.len : Nat) : Int) ∧
 ∃ x67 : Int, H.rd h63 (Addr.add (Addr.add b66 (((0 : Int)).toNat * 1)) 0) (Value.int .i64 x67) ∧
 ∃ b68 : Addr, (some (Addr.mk r15 0 none)) = some b68 ∧ 0 ≤ x67 ∧ x67 < (((p0_n).toNat : Nat) : Int) ∧
 ∃ x69 : Int, H.rd h63 (Addr.add (Addr.add b68 ((x67).toNat * 1)) 0) (Value.int .i64 x69) ∧
 In64 (x69 + (1 : Int)) ∧
 ∃ b70 : Addr, (some (Addr.mk r17 0 none)) = some b70 ∧ 0 ≤ x65 ∧ x65 < (((p0_n).toNat : Nat) : Int) ∧
 H.wr h63 (Addr.add b70 ((x65).toNat * 1)) ([(Value.int .i64 (x69 + (1 : Int)))]) fun h71 =>
 (∃ h72, Gh h71 h72 ∧ R52 h72))) (
 (∃ h73, Gh h51 h73 ∧ R52 h73))) ∧
 ∀ (_ : F) (h74 : H), R52 h74 →
 f3_J5 p0_n post x6 r13 r15 r17 x24_sum R32 x34 h74

def f3_J7 (p0_n : Int) (p1_steps : SV) (post : Value → H → Prop) (x6 : Option Addr) (r13 : Nat) (r15 : Nat) (r17 : Nat) (R19 : H → Prop) (I20 : Nat → Int → Int → H → Prop) (n21 : Nat) (x24_sum : Int) (x25_i : Int) (x30 : Bool) (h31 : H) : Prop :=
 VIf x30 (
 ∃ R32 : Int → H → Prop, (
 ∃ b33 : Addr, p1_steps.a = some b33 ∧ 0 ≤ x25_i ∧ x25_i < ((p1_steps.len : Nat) : Int) ∧
 ∃ x34 : SV, H.rd h31 (Addr.add (Addr.add b33 ((x25_i).toNat * 1)) 0) (Value.slice x34.a x34.len x34.cap) ∧
 ∃ R35 : Bool → H → Prop, (
 VIf (((x34.len : Nat) : Int) == (2 : Int)) (
 ∃ b36 : Addr, x34.a = some b36 ∧ 0 ≤ (0 : Int) ∧ (0 : Int) < ((x34.len : Nat) : Int) ∧
 ∃ x37 : Int, H.rd h31 (Addr.add (Addr.add b36 (((0 : Int)).toNat * 1)) 0) (Value.int .i64 x37) ∧
 ∃ b38 : Addr, x34.a = some b38 ∧ 0 ≤ (1 : Int) ∧ (1 : Int) < ((x34.len : Nat) : Int) ∧
 ∃ x39 : Int, H.rd h31 (Addr.add (Addr.add b38 (((1 : Int)).toNat * 1)) 0) (Value.int .i64 x39) ∧
 VIf true (
 SemCall Go.Proofs.Try.prog 11 (List.toArray [(Value.pointer x6), (Value.int .i64 x37), (Value.int .i64 x39)]) h31 fun v40 h41 =>
 ∃ x42 : Option (TypeId × Value), v40 = (errV x42) ∧
 isIfaceV (errV x42) = true ∧
 (∃ h43, Gh h41 h43 ∧ R35 (isNilV (errV x42)) h43)) (
 (∃ h44, Gh h31 h44 ∧ R35 false h44))) (
 VIf false (
 SemCall Go.Proofs.Try.prog 11 (List.toArray [undef, undef, undef]) h31 fun v45 h46 =>
 ∃ x47 : Option (TypeId × Value), v45 = (errV x47) ∧
 isIfaceV (errV x47) = true ∧
 (∃ h48, Gh h46 h48 ∧ R35 (isNilV (errV x47)) h48)) (
 (∃ h49, Gh h31 h49 ∧ R35 false h49)))) ∧
 ∀ (_ : F) (x50 : Bool) (h51 : H), R35 x50 h51 →
 f3_J6 p0_n post x6 r13 r15 r17 x24_sum R32 x34 x50 h51) ∧
 ∀ (_ : F) (x161_sum : Int) (h162 : H), R32 x161_sum h162 →
 In64 (x25_i + (1 : Int)) ∧
 ∃ m22, m22 < n21 ∧ (∃ h163, Gh h162 h163 ∧ I20 m22 x161_sum (x25_i + (1 : Int)) h163)) (
 (∃ h164, Gh h31 h164 ∧ R19 h164))

def f3_L8 (p0_n : Int) (p1_steps : SV) (post : Value → H → Prop) (x6 : Option Addr) (r13 : Nat) (r15 : Nat) (r17 : Nat) (R19 : H → Prop) (I20 : Nat → Int → Int → H → Prop) (n21 : Nat) (x24_sum : Int) (x25_i : Int) (h26 : H) : Prop :=
 ∃ R27 : Bool → H → Prop, (
 VIf (decide (x25_i < ((p1_steps.len : Nat) : Int))) (
 (∃ h28, Gh h26 h28 ∧ R27 (decide (x25_i < (300 : Int))) h28)) (
 (∃ h29, Gh h26 h29 ∧ R27 false h29))) ∧
 ∀ (_ : F) (x30 : Bool) (h31 : H), R27 x30 h31 →
 f3_J7 p0_n p1_steps post x6 r13 r15 r17 R19 I20 n21 x24_sum x25_i x30 h31

def f3_sem (p0_n : Int) (p1_steps : SV) (h0 : H) (post : Value → H → Prop) : Prop :=
 SemCall Go.Proofs.Try.prog 9 (List.toArray []) h0 fun v1 h2 =>
 ∃ x3 : Bool, v1 = (Value.bool x3) ∧
 VIf (!x3) (
 VRet h2 (Value.bool false) post) (
 SemCall Go.Proofs.Try.prog 10 (List.toArray [(Value.int .i64 p0_n)]) h2 fun v4 h5 =>
 ∃ x6 : Option Addr, ∃ x7 : Option (TypeId × Value), v4 = (Value.tuple (List.toArray [(Value.pointer x6), (errV x7)])) ∧
 isIfaceV (errV x7) = true ∧
 VIf (!(isNilV (errV x7))) (
 ∃ R8 : Bool → H → Prop, (
 VIf (decide (p0_n < (1 : Int))) (
 (∃ h9, Gh h5 h9 ∧ R8 true h9)) (
 (∃ h10, Gh h5 h10 ∧ R8 (decide (p0_n > (4 : Int))) h10))) ∧
 ∀ (_ : F) (x11 : Bool) (h12 : H), R8 x11 h12 →
 VRet h12 (Value.bool x11) post) (
 0 ≤ p0_n ∧ p0_n ≤ p0_n ∧ ((8 : Nat) : Int) * p0_n ≤ 140737488355328 ∧ p0_n ≤ 1000000000 ∧
 H.new h5 (repl (p0_n).toNat [(Value.int .i64 0)]) fun r13 h14 =>
 0 ≤ p0_n ∧ p0_n ≤ p0_n ∧ ((8 : Nat) : Int) * p0_n ≤ 140737488355328 ∧ p0_n ≤ 1000000000 ∧
 H.new h14 (repl (p0_n).toNat [(Value.int .i64 0)]) fun r15 h16 =>
 0 ≤ p0_n ∧ p0_n ≤ p0_n ∧ ((8 : Nat) : Int) * p0_n ≤ 140737488355328 ∧ p0_n ≤ 1000000000 ∧
 H.new h16 (repl (p0_n).toNat [(Value.int .i64 0)]) fun r17 h18 =>
 ∃ R19 : H → Prop, (
 ∃ I20 : Nat → Int → Int → H → Prop, (∃ n21, (∃ h23, Gh h18 h23 ∧ I20 n21 (0 : Int) (0 : Int) h23)) ∧
 ∀ (n21 : Nat) (_ : F) (x24_sum : Int) (x25_i : Int) (h26 : H), I20 n21 x24_sum x25_i h26 →
 f3_L8 p0_n p1_steps post x6 r13 r15 r17 R19 I20 n21 x24_sum x25_i h26) ∧
 ∀ (_ : F) (h165 : H), R19 h165 →
 VRet h165 (Value.bool true) post))

def f3_hint : Hint := (.node .leaf (.node .leaf (.node .leaf (.node .leaf (.node (.node .leaf (.node (.node (.join [(4, .bool)] .leaf) .leaf) .leaf)) (.node .leaf (.node .leaf (.node .leaf (.node .leaf (.node (.node .leaf (.join [] (.node (.loop [(11, .int), (12, .int)] (.node (.node (.join [(53, .bool)] .leaf) .leaf) (.node (.join [(11, .int)] (.node (.node .leaf (.node (.node (.join [(73, .bool)] (.tail 11)) (.join [] (.node (.node .leaf (.node (.tail 8) (.tail 12))) .leaf))) (.node .leaf (.node .leaf (.node (.node .leaf (.join [(14, .int), (15, .int)] (.node (.node .leaf (.node (.join [(117, .bool)] .leaf) .leaf)) .leaf))) (.node (.node .leaf (.join [] .leaf)) (.node (.node .leaf (.join [(11, .int)] (.node (.loop [(11, .int), (19, .int)] (.node .leaf (.node (.node (.node .leaf (.node (.node (.join [(164, .bool)] .leaf) .leaf) .leaf)) .leaf) .leaf))) .leaf))) (.node .leaf (.node .leaf (.node (.node .leaf (.node .leaf (.node (.join [(218, .bool)] .leaf) .leaf))) .leaf)))))))))) .leaf)) .leaf))) .leaf))) .leaf))))))))))

theorem f3_eq (p0_n : Int) (p1_steps : SV) (h0 : H) (post : Value → H → Prop) : exec Try.prog (bodyOf Try.f3) f3_hint (retQ Try.prog Try.f3 post) (F0 [(Value.int .i64 p0_n), (Value.slice p1_steps.a p1_steps.len p1_steps.cap)]) h0 = f3_sem p0_n p1_steps h0 post := by kernel_rfl

set_option maxRecDepth 20000 in
theorem f3_call (p0_n : Int) (p1_steps : SV) (h0 : H) (post : Value → H → Prop) (hx : f3_sem p0_n p1_steps h0 post) : SemCall Try.prog 3 (List.toArray [(Value.int .i64 p0_n), (Value.slice p1_steps.a p1_steps.len p1_steps.cap)]) h0 post :=
 sem_of_exec (g := f3_hint) mixed Try.func3 (bodyOf_eq (by kernel_rfl)) (by kernel_rfl) ((f3_eq p0_n p1_steps h0 post).mpr hx)

/- latchgarth/latchgarthlaw4.CombCrash -/
def f4_J1 (p1_steps : SV) (x6 : Option Addr) (R13 : H → Prop) (I14 : Nat → Int → H → Prop) (n15 : Nat) (x18_i : Int) (x23 : Bool) (h24 : H) : Prop :=
 VIf x23 (
 ∃ b25 : Addr, p1_steps.a = some b25 ∧ 0 ≤ x18_i ∧ x18_i < ((p1_steps.len : Nat) : Int) ∧
 ∃ x26 : SV, H.rd h24 (Addr.add (Addr.add b25 ((x18_i).toNat * 1)) 0) (Value.slice x26.a x26.len x26.cap) ∧
 ∃ R27 : H → Prop, (
 VIf (((x26.len : Nat) : Int) == (2 : Int)) (
 ∃ b28 : Addr, x26.a = some b28 ∧ 0 ≤ (0 : Int) ∧ (0 : Int) < ((x26.len : Nat) : Int) ∧
 ∃ x29 : Int, H.rd h24 (Addr.add (Addr.add b28 (((0 : Int)).toNat * 1)) 0) (Value.int .i64 x29) ∧
 ∃ b30 : Addr, x26.a = some b30 ∧ 0 ≤ (1 : Int) ∧ (1 : Int) < ((x26.len : Nat) : Int) ∧
 ∃ x31 : Int, H.rd h24 (Addr.add (Addr.add b30 (((1 : Int)).toNat * 1)) 0) (Value.int .i64 x31) ∧
 SemCall Go.Proofs.Try.prog 11 (List.toArray [(Value.pointer x6), (Value.int .i64 x29), (Value.int .i64 x31)]) h24 fun v32 h33 =>
 ∃ x34 : Option (TypeId × Value), v32 = (errV x34) ∧
 (∃ h35, Gh h33 h35 ∧ R27 h35)) (
 (∃ h36, Gh h24 h36 ∧ R27 h36))) ∧
 ∀ (_ : F) (h37 : H), R27 h37 →
 VIf (((x26.len : Nat) : Int) == (1 : Int)) (
 ∃ b38 : Addr, x26.a = some b38 ∧ 0 ≤ (0 : Int) ∧ (0 : Int) < ((x26.len : Nat) : Int) ∧
 ∃ x39 : Int, H.rd h37 (Addr.add (Addr.add b38 (((0 : Int)).toNat * 1)) 0) (Value.int .i64 x39) ∧
 SemCall Go.Proofs.Try.prog 13 (List.toArray [(Value.pointer x6), (Value.int .i64 x39)]) h37 fun v40 h41 =>
 ∃ x42 : Bool, ∃ x43 : Int, ∃ x44 : Option (TypeId × Value), v40 = (Value.tuple (List.toArray [(Value.bool x42), (Value.int .i64 x43), (errV x44)])) ∧
 In64 (x18_i + (1 : Int)) ∧
 ∃ m16, m16 < n15 ∧ (∃ h45, Gh h41 h45 ∧ I14 m16 (x18_i + (1 : Int)) h45)) (
 In64 (x18_i + (1 : Int)) ∧
 ∃ m16, m16 < n15 ∧ (∃ h46, Gh h37 h46 ∧ I14 m16 (x18_i + (1 : Int)) h46))) (
 (∃ h47, Gh h24 h47 ∧ R13 h47))

def f4_L2 (p1_steps : SV) (x6 : Option Addr) (R13 : H → Prop) (I14 : Nat → Int → H → Prop) (n15 : Nat) (x18_i : Int) (h19 : H) : Prop :=
 ∃ R20 : Bool → H → Prop, (
 VIf (decide (x18_i < ((p1_steps.len : Nat) : Int))) (
 (∃ h21, Gh h19 h21 ∧ R20 (decide (x18_i < (200 : Int))) h21)) (
 (∃ h22, Gh h19 h22 ∧ R20 false h22))) ∧
 ∀ (_ : F) (x23 : Bool) (h24 : H), R20 x23 h24 →
 f4_J1 p1_steps x6 R13 I14 n15 x18_i x23 h24

def f4_L3 (p0_n : Int) (x6 : Option Addr) (R52 : SV → H → Prop) (I53 : Nat → SV → Int → H → Prop) (n54 : Nat) (x57_was : SV) (x58_p : Int) (h59 : H) : Prop :=
 VIf (decide (x58_p < p0_n)) (
 SemCall Go.Proofs.Try.prog 15 (List.toArray [(Value.pointer x6), (Value.int .i64 x58_p)]) h59 fun v60 h61 =>
 ∃ x62 : Int, ∃ x63 : Int, v60 = (Value.tuple (List.toArray [(Value.int .i64 x62), (Value.int .i64 x63)])) ∧
 H.new h61 [(Value.int .i64 x62)] fun r64 h65 =>
 appVC Go.Proofs.Try.prog 29 (Value.slice x57_was.a x57_was.len x57_was.cap) (Value.slice (some (Addr.mk r64 0 none)) 1 1) h65 fun x66 h67 =>
 H.new h67 [(Value.int .i64 x63)] fun r68 h69 =>
 appVC Go.Proofs.Try.prog 29 (Value.slice x66.a x66.len x66.cap) (Value.slice (some (Addr.mk r68 0 none)) 1 1) h69 fun x70 h71 =>
 In64 (x58_p + (1 : Int)) ∧
 ∃ m55, m55 < n54 ∧ (∃ h72, Gh h71 h72 ∧ I53 m55 x70 (x58_p + (1 : Int)) h72)) (
 (∃ h73, Gh h59 h73 ∧ R52 x57_was h73))

def f4_L4 (p0_n : Int) (post : Value → H → Prop) (x6 : Option Addr) (x74_was : SV) (R81 : H → Prop) (I82 : Nat → Int → H → Prop) (n83 : Nat) (x86_p : Int) (h87 : H) : Prop :=
 VIf (decide (x86_p < p0_n)) (
 SemCall Go.Proofs.Try.prog 15 (List.toArray [(Value.pointer x6), (Value.int .i64 x86_p)]) h87 fun v88 h89 =>
 ∃ x90 : Int, ∃ x91 : Int, v88 = (Value.tuple (List.toArray [(Value.int .i64 x90), (Value.int .i64 x91)])) ∧
 ∃ R92 : Bool → H → Prop, (
 In64 ((2 : Int) * x86_p) ∧
 ∃ b93 : Addr, x74_was.a = some b93 ∧ 0 ≤ ((2 : Int) * x86_p) ∧ ((2 : Int) * x86_p) < ((x74_was.len : Nat) : Int) ∧
 ∃ x94 : Int, H.rd h89 (Addr.add (Addr.add b93 ((((2 : Int) * x86_p)).toNat * 1)) 0) (Value.int .i64 x94) ∧
 VIf (x90 != x94) (
 (∃ h95, Gh h89 h95 ∧ R92 true h95)) (
 In64 ((2 : Int) * x86_p) ∧
 In64 (((2 : Int) * x86_p) + (1 : Int)) ∧
 ∃ b96 : Addr, x74_was.a = some b96 ∧ 0 ≤ (((2 : Int) * x86_p) + (1 : Int)) ∧ (((2 : Int) * x86_p) + (1 : Int)) < ((x74_was.len : Nat) : Int) ∧
 ∃ x97 : Int, H.rd h89 (Addr.add (Addr.add b96 (((((2 : Int) * x86_p) + (1 : Int))).toNat * 1)) 0) (Value.int .i64 x97) ∧
 VIf (x91 != x97) (
 (∃ h98, Gh h89 h98 ∧ R92 true h98)) (
 SemCall Go.Proofs.Try.prog 17 (List.toArray [(Value.pointer x6), (Value.int .i64 x86_p)]) h89 fun v99 h100 =>
 ∃ x101 : Int, v99 = (Value.int .i64 x101) ∧
 (∃ h102, Gh h100 h102 ∧ R92 (x101 != (0 : Int)) h102)))) ∧
 ∀ (_ : F) (x103 : Bool) (h104 : H), R92 x103 h104 →
 VIf x103 (
 VRet h104 (Value.bool false) post) (
 In64 (x86_p + (1 : Int)) ∧
 ∃ m84, m84 < n83 ∧ (∃ h105, Gh h104 h105 ∧ I82 m84 (x86_p + (1 : Int)) h105))) (
 (∃ h106, Gh h87 h106 ∧ R81 h106))

def f4_J5 (p0_n : Int) (p2_keep : Bool) (post : Value → H → Prop) (x6 : Option Addr) (x51 : Int) (x74_was : SV) (h75 : H) : Prop :=
 SemCall Go.Proofs.Try.prog 14 (List.toArray [(Value.pointer x6), (Value.bool p2_keep)]) h75 fun v76 h77 =>
 v76 = (Value.tuple (List.toArray [])) ∧
 SemCall Go.Proofs.Try.prog 16 (List.toArray [(Value.pointer x6)]) h77 fun v78 h79 =>
 ∃ x80 : Int, v78 = (Value.int .i64 x80) ∧
 VIf (x80 != x51) (
 VRet h79 (Value.bool false) post) (
 ∃ R81 : H → Prop, (
 ∃ I82 : Nat → Int → H → Prop, (∃ n83, (∃ h85, Gh h79 h85 ∧ I82 n83 (0 : Int) h85)) ∧
 ∀ (n83 : Nat) (_ : F) (x86_p : Int) (h87 : H), I82 n83 x86_p h87 →
 f4_L4 p0_n post x6 x74_was R81 I82 n83 x86_p h87) ∧
 ∀ (_ : F) (h107 : H), R81 h107 →
 VRet h107 (Value.bool true) post)

def f4_sem (p0_n : Int) (p1_steps : SV) (p2_keep : Bool) (h0 : H) (post : Value → H → Prop) : Prop :=
 SemCall Go.Proofs.Try.prog 9 (List.toArray []) h0 fun v1 h2 =>
 ∃ x3 : Bool, v1 = (Value.bool x3) ∧
 VIf (!x3) (
 VRet h2 (Value.bool false) post) (
 SemCall Go.Proofs.Try.prog 10 (List.toArray [(Value.int .i64 p0_n)]) h2 fun v4 h5 =>
 ∃ x6 : Option Addr, ∃ x7 : Option (TypeId × Value), v4 = (Value.tuple (List.toArray [(Value.pointer x6), (errV x7)])) ∧
 isIfaceV (errV x7) = true ∧
 VIf (!(isNilV (errV x7))) (
 ∃ R8 : Bool → H → Prop, (
 VIf (decide (p0_n < (1 : Int))) (
 (∃ h9, Gh h5 h9 ∧ R8 true h9)) (
 (∃ h10, Gh h5 h10 ∧ R8 (decide (p0_n > (4 : Int))) h10))) ∧
 ∀ (_ : F) (x11 : Bool) (h12 : H), R8 x11 h12 →
 VRet h12 (Value.bool x11) post) (
 ∃ R13 : H → Prop, (
 ∃ I14 : Nat → Int → H → Prop, (∃ n15, (∃ h17, Gh h5 h17 ∧ I14 n15 (0 : Int) h17)) ∧
 ∀ (n15 : Nat) (_ : F) (x18_i : Int) (h19 : H), I14 n15 x18_i h19 →
 f4_L2 p1_steps x6 R13 I14 n15 x18_i h19) ∧
 ∀ (_ : F) (h48 : H), R13 h48 →
 SemCall Go.Proofs.Try.prog 16 (List.toArray [(Value.pointer x6)]) h48 fun v49 h50 =>
 ∃ x51 : Int, v49 = (Value.int .i64 x51) ∧
 ∃ R52 : SV → H → Prop, (
 ∃ I53 : Nat → SV → Int → H → Prop, (∃ n54, (∃ h56, Gh h50 h56 ∧ I53 n54 (SV.mk none 0 0) (0 : Int) h56)) ∧
 ∀ (n54 : Nat) (_ : F) (x57_was : SV) (x58_p : Int) (h59 : H), I53 n54 x57_was x58_p h59 →
 f4_L3 p0_n x6 R52 I53 n54 x57_was x58_p h59) ∧
 ∀ (_ : F) (x74_was : SV) (h75 : H), R52 x74_was h75 →
 f4_J5 p0_n p2_keep post x6 x51 x74_was h75))

def f4_hint : Hint := (.node .leaf (.node .leaf (.node .leaf (.node .leaf (.node (.node .leaf (.node (.node (.join [(6, .bool)] .leaf) .leaf) .leaf)) (.node (.node .leaf (.join [] (.node (.loop [(10, .int)] (.node (.node (.join [(43, .bool)] .leaf) .leaf) (.node (.node (.node .leaf (.node (.node .leaf (.join [] (.node (.tail 7) .leaf))) .leaf)) .leaf) .leaf))) .leaf))) (.node .leaf (.node .leaf (.node (.node .leaf (.join [(13, .sl)] (.node (.loop [(13, .sl), (14, .int)] .leaf) .leaf))) (.node .leaf (.node .leaf (.node (.node .leaf (.join [] (.node (.loop [(17, .int)] (.node .leaf (.node (.node (.node .leaf (.node (.join [(130, .bool)] .leaf) .leaf)) .leaf) .leaf))) .leaf))) .leaf))))))))))))

theorem f4_eq (p0_n : Int) (p1_steps : SV) (p2_keep : Bool) (h0 : H) (post : Value → H → Prop) : exec Try.prog (bodyOf Try.f4) f4_hint (retQ Try.prog Try.f4 post) (F0 [(Value.int .i64 p0_n), (Value.slice p1_steps.a p1_steps.len p1_steps.cap), (Value.bool p2_keep)]) h0 = f4_sem p0_n p1_steps p2_keep h0 post := by kernel_rfl

set_option maxRecDepth 20000 in
theorem f4_call (p0_n : Int) (p1_steps : SV) (p2_keep : Bool) (h0 : H) (post : Value → H → Prop) (hx : f4_sem p0_n p1_steps p2_keep h0 post) : SemCall Try.prog 4 (List.toArray [(Value.int .i64 p0_n), (Value.slice p1_steps.a p1_steps.len p1_steps.cap), (Value.bool p2_keep)]) h0 post :=
 sem_of_exec (g := f4_hint) mixed Try.func4 (bodyOf_eq (by kernel_rfl)) (by kernel_rfl) ((f4_eq p0_n p1_steps p2_keep h0 post).mpr hx)

/- latchgarth/latchgarthlaw4.CombGoes -/
def f5_J1 (x6 : Option Addr) (I14 : Nat → Int → H → Prop) (n15 : Nat) (x18_i : Int) (x26 : SV) (h37 : H) : Prop :=
 ∃ R38 : H → Prop, (
 VIf (((x26.len : Nat) : Int) == (1 : Int)) (
 ∃ b39 : Addr, x26.a = some b39 ∧ 0 ≤ (0 : Int) ∧ (0 : Int) < ((x26.len : Nat) : Int) ∧
 ∃ x40 : Int, H.rd h37 (Addr.add (Addr.add b39 (((0 : Int)).toNat * 1)) 0) (Value.int .i64 x40) ∧
 SemCall Go.Proofs.Try.prog 13 (List.toArray [(Value.pointer x6), (Value.int .i64 x40)]) h37 fun v41 h42 =>
 ∃ x43 : Bool, ∃ x44 : Int, ∃ x45 : Option (TypeId × Value), v41 = (Value.tuple (List.toArray [(Value.bool x43), (Value.int .i64 x44), (errV x45)])) ∧
 (∃ h46, Gh h42 h46 ∧ R38 h46)) (
 (∃ h47, Gh h37 h47 ∧ R38 h47))) ∧
 ∀ (_ : F) (h48 : H), R38 h48 →
 VIf (((x26.len : Nat) : Int) == (3 : Int)) (
 ∃ b49 : Addr, x26.a = some b49 ∧ 0 ≤ (2 : Int) ∧ (2 : Int) < ((x26.len : Nat) : Int) ∧
 ∃ x50 : Int, H.rd h48 (Addr.add (Addr.add b49 (((2 : Int)).toNat * 1)) 0) (Value.int .i64 x50) ∧
 SemCall Go.Proofs.Try.prog 14 (List.toArray [(Value.pointer x6), (Value.bool (x50 == (1 : Int)))]) h48 fun v51 h52 =>
 v51 = (Value.tuple (List.toArray [])) ∧
 In64 (x18_i + (1 : Int)) ∧
 ∃ m16, m16 < n15 ∧ (∃ h53, Gh h52 h53 ∧ I14 m16 (x18_i + (1 : Int)) h53)) (
 In64 (x18_i + (1 : Int)) ∧
 ∃ m16, m16 < n15 ∧ (∃ h54, Gh h48 h54 ∧ I14 m16 (x18_i + (1 : Int)) h54))

def f5_J2 (p1_steps : SV) (x6 : Option Addr) (R13 : H → Prop) (I14 : Nat → Int → H → Prop) (n15 : Nat) (x18_i : Int) (x23 : Bool) (h24 : H) : Prop :=
 VIf x23 (
 ∃ b25 : Addr, p1_steps.a = some b25 ∧ 0 ≤ x18_i ∧ x18_i < ((p1_steps.len : Nat) : Int) ∧
 ∃ x26 : SV, H.rd h24 (Addr.add (Addr.add b25 ((x18_i).toNat * 1)) 0) (Value.slice x26.a x26.len x26.cap) ∧
 ∃ R27 : H → Prop, (
 VIf (((x26.len : Nat) : Int) == (2 : Int)) (
 ∃ b28 : Addr, x26.a = some b28 ∧ 0 ≤ (0 : Int) ∧ (0 : Int) < ((x26.len : Nat) : Int) ∧
 ∃ x29 : Int, H.rd h24 (Addr.add (Addr.add b28 (((0 : Int)).toNat * 1)) 0) (Value.int .i64 x29) ∧
 ∃ b30 : Addr, x26.a = some b30 ∧ 0 ≤ (1 : Int) ∧ (1 : Int) < ((x26.len : Nat) : Int) ∧
 ∃ x31 : Int, H.rd h24 (Addr.add (Addr.add b30 (((1 : Int)).toNat * 1)) 0) (Value.int .i64 x31) ∧
 SemCall Go.Proofs.Try.prog 11 (List.toArray [(Value.pointer x6), (Value.int .i64 x29), (Value.int .i64 x31)]) h24 fun v32 h33 =>
 ∃ x34 : Option (TypeId × Value), v32 = (errV x34) ∧
 (∃ h35, Gh h33 h35 ∧ R27 h35)) (
 (∃ h36, Gh h24 h36 ∧ R27 h36))) ∧
 ∀ (_ : F) (h37 : H), R27 h37 →
 f5_J1 x6 I14 n15 x18_i x26 h37) (
 (∃ h55, Gh h24 h55 ∧ R13 h55))

def f5_L3 (p1_steps : SV) (x6 : Option Addr) (R13 : H → Prop) (I14 : Nat → Int → H → Prop) (n15 : Nat) (x18_i : Int) (h19 : H) : Prop :=
 ∃ R20 : Bool → H → Prop, (
 VIf (decide (x18_i < ((p1_steps.len : Nat) : Int))) (
 (∃ h21, Gh h19 h21 ∧ R20 (decide (x18_i < (200 : Int))) h21)) (
 (∃ h22, Gh h19 h22 ∧ R20 false h22))) ∧
 ∀ (_ : F) (x23 : Bool) (h24 : H), R20 x23 h24 →
 f5_J2 p1_steps x6 R13 I14 n15 x18_i x23 h24

def f5_L4 (p0_n : Int) (post : Value → H → Prop) (x6 : Option Addr) (R65 : H → Prop) (I66 : Nat → Int → H → Prop) (n67 : Nat) (x70_p : Int) (h71 : H) : Prop :=
 VIf (decide (x70_p < p0_n)) (
 SemCall Go.Proofs.Try.prog 17 (List.toArray [(Value.pointer x6), (Value.int .i64 x70_p)]) h71 fun v72 h73 =>
 ∃ x74 : Int, v72 = (Value.int .i64 x74) ∧
 VIf (x74 != (0 : Int)) (
 SemCall Go.Proofs.Try.prog 13 (List.toArray [(Value.pointer x6), (Value.int .i64 x70_p)]) h73 fun v75 h76 =>
 ∃ x77 : Bool, ∃ x78 : Int, ∃ x79 : Option (TypeId × Value), v75 = (Value.tuple (List.toArray [(Value.bool x77), (Value.int .i64 x78), (errV x79)])) ∧
 isIfaceV (errV x79) = true ∧
 VIf (!(isNilV (errV x79))) (
 VRet h76 (Value.bool false) post) (
 In64 (x70_p + (1 : Int)) ∧
 ∃ m68, m68 < n67 ∧ (∃ h80, Gh h76 h80 ∧ I66 m68 (x70_p + (1 : Int)) h80))) (
 In64 (x70_p + (1 : Int)) ∧
 ∃ m68, m68 < n67 ∧ (∃ h81, Gh h73 h81 ∧ I66 m68 (x70_p + (1 : Int)) h81))) (
 (∃ h82, Gh h71 h82 ∧ R65 h82))

def f5_L5 (p0_n : Int) (post : Value → H → Prop) (x6 : Option Addr) (R57 : H → Prop) (I58 : Nat → Int → H → Prop) (n59 : Nat) (x62_round : Int) (h63 : H) : Prop :=
 VIf (decide (x62_round < (60 : Int))) (
 ∃ R64 : H → Prop, (
 ∃ R65 : H → Prop, (
 ∃ I66 : Nat → Int → H → Prop, (∃ n67, (∃ h69, Gh h63 h69 ∧ I66 n67 (0 : Int) h69)) ∧
 ∀ (n67 : Nat) (_ : F) (x70_p : Int) (h71 : H), I66 n67 x70_p h71 →
 f5_L4 p0_n post x6 R65 I66 n67 x70_p h71) ∧
 ∀ (_ : F) (h83 : H), R65 h83 →
 (∃ h84, Gh h83 h84 ∧ R64 h84)) ∧
 ∀ (_ : F) (h85 : H), R64 h85 →
 In64 (x62_round + (1 : Int)) ∧
 ∃ m60, m60 < n59 ∧ (∃ h86, Gh h85 h86 ∧ I58 m60 (x62_round + (1 : Int)) h86)) (
 (∃ h87, Gh h63 h87 ∧ R57 h87))

def f5_L6 (p0_n : Int) (post : Value → H → Prop) (x6 : Option Addr) (R89 : H → Prop) (I90 : Nat → Int → H → Prop) (n91 : Nat) (x94_p : Int) (h95 : H) : Prop :=
 VIf (decide (x94_p < p0_n)) (
 SemCall Go.Proofs.Try.prog 17 (List.toArray [(Value.pointer x6), (Value.int .i64 x94_p)]) h95 fun v96 h97 =>
 ∃ x98 : Int, v96 = (Value.int .i64 x98) ∧
 VIf (x98 != (0 : Int)) (
 VRet h97 (Value.bool false) post) (
 In64 (x94_p + (1 : Int)) ∧
 ∃ m92, m92 < n91 ∧ (∃ h99, Gh h97 h99 ∧ I90 m92 (x94_p + (1 : Int)) h99))) (
 (∃ h100, Gh h95 h100 ∧ R89 h100))

def f5_J7 (p0_n : Int) (post : Value → H → Prop) (x6 : Option Addr) (h56 : H) : Prop :=
 ∃ R57 : H → Prop, (
 ∃ I58 : Nat → Int → H → Prop, (∃ n59, (∃ h61, Gh h56 h61 ∧ I58 n59 (0 : Int) h61)) ∧
 ∀ (n59 : Nat) (_ : F) (x62_round : Int) (h63 : H), I58 n59 x62_round h63 →
 f5_L5 p0_n post x6 R57 I58 n59 x62_round h63) ∧
 ∀ (_ : F) (h88 : H), R57 h88 →
 ∃ R89 : H → Prop, (
 ∃ I90 : Nat → Int → H → Prop, (∃ n91, (∃ h93, Gh h88 h93 ∧ I90 n91 (0 : Int) h93)) ∧
 ∀ (n91 : Nat) (_ : F) (x94_p : Int) (h95 : H), I90 n91 x94_p h95 →
 f5_L6 p0_n post x6 R89 I90 n91 x94_p h95) ∧
 ∀ (_ : F) (h101 : H), R89 h101 →
 VRet h101 (Value.bool true) post

def f5_sem (p0_n : Int) (p1_steps : SV) (h0 : H) (post : Value → H → Prop) : Prop :=
 SemCall Go.Proofs.Try.prog 9 (List.toArray []) h0 fun v1 h2 =>
 ∃ x3 : Bool, v1 = (Value.bool x3) ∧
 VIf (!x3) (
 VRet h2 (Value.bool false) post) (
 SemCall Go.Proofs.Try.prog 10 (List.toArray [(Value.int .i64 p0_n)]) h2 fun v4 h5 =>
 ∃ x6 : Option Addr, ∃ x7 : Option (TypeId × Value), v4 = (Value.tuple (List.toArray [(Value.pointer x6), (errV x7)])) ∧
 isIfaceV (errV x7) = true ∧
 VIf (!(isNilV (errV x7))) (
 ∃ R8 : Bool → H → Prop, (
 VIf (decide (p0_n < (1 : Int))) (
 (∃ h9, Gh h5 h9 ∧ R8 true h9)) (
 (∃ h10, Gh h5 h10 ∧ R8 (decide (p0_n > (4 : Int))) h10))) ∧
 ∀ (_ : F) (x11 : Bool) (h12 : H), R8 x11 h12 →
 VRet h12 (Value.bool x11) post) (
 ∃ R13 : H → Prop, (
 ∃ I14 : Nat → Int → H → Prop, (∃ n15, (∃ h17, Gh h5 h17 ∧ I14 n15 (0 : Int) h17)) ∧
 ∀ (n15 : Nat) (_ : F) (x18_i : Int) (h19 : H), I14 n15 x18_i h19 →
 f5_L3 p1_steps x6 R13 I14 n15 x18_i h19) ∧
 ∀ (_ : F) (h56 : H), R13 h56 →
 f5_J7 p0_n post x6 h56))

def f5_hint : Hint := (.node .leaf (.node .leaf (.node .leaf (.node .leaf (.node (.node .leaf (.node (.node (.join [(4, .bool)] .leaf) .leaf) .leaf)) (.node (.node .leaf (.join [] (.node (.loop [(8, .int)] (.node (.node (.join [(39, .bool)] .leaf) .leaf) (.node (.node (.node .leaf (.node (.node .leaf (.join [] (.node (.tail 7) .leaf))) (.node (.node .leaf (.join [] .leaf)) .leaf))) .leaf) .leaf))) .leaf))) (.node (.node .leaf (.join [] (.node (.loop [(10, .int)] (.node .leaf (.node (.join [] (.node (.node .leaf (.join [] (.node (.loop [(11, .int)] .leaf) .leaf))) .leaf)) .leaf))) .leaf))) (.node (.node .leaf (.join [] (.node (.loop [(15, .int)] .leaf) .leaf))) .leaf))))))))

theorem f5_eq (p0_n : Int) (p1_steps : SV) (h0 : H) (post : Value → H → Prop) : exec Try.prog (bodyOf Try.f5) f5_hint (retQ Try.prog Try.f5 post) (F0 [(Value.int .i64 p0_n), (Value.slice p1_steps.a p1_steps.len p1_steps.cap)]) h0 = f5_sem p0_n p1_steps h0 post := by kernel_rfl

set_option maxRecDepth 20000 in
theorem f5_call (p0_n : Int) (p1_steps : SV) (h0 : H) (post : Value → H → Prop) (hx : f5_sem p0_n p1_steps h0 post) : SemCall Try.prog 5 (List.toArray [(Value.int .i64 p0_n), (Value.slice p1_steps.a p1_steps.len p1_steps.cap)]) h0 post :=
 sem_of_exec (g := f5_hint) mixed Try.func5 (bodyOf_eq (by kernel_rfl)) (by kernel_rfl) ((f5_eq p0_n p1_steps h0 post).mpr hx)

/- latchgarth/latchgarthlaw4.combFact -/
def f9_L1 (post : Value → H → Prop) (x3 : Option Addr) (R13 : H → Prop) (I14 : Nat → Int → H → Prop) (n15 : Nat) (x18_i : Int) (h19 : H) : Prop :=
 VIf (decide (x18_i < (5 : Int))) (
 SemCall Go.Proofs.Try.prog 13 (List.toArray [(Value.pointer x3), (Value.int .i64 (1 : Int))]) h19 fun v20 h21 =>
 ∃ x22 : Bool, ∃ x23 : Int, ∃ x24 : Option (TypeId × Value), v20 = (Value.tuple (List.toArray [(Value.bool x22), (Value.int .i64 x23), (errV x24)])) ∧
 isIfaceV (errV x24) = true ∧
 VIf (!(isNilV (errV x24))) (
 VRet h21 (Value.bool false) post) (
 In64 (x18_i + (1 : Int)) ∧
 ∃ m16, m16 < n15 ∧ (∃ h25, Gh h21 h25 ∧ I14 m16 (x18_i + (1 : Int)) h25))) (
 (∃ h26, Gh h19 h26 ∧ R13 h26))

def f9_J2 (post : Value → H → Prop) (x3 : Option Addr) (h27 : H) : Prop :=
 SemCall Go.Proofs.Try.prog 15 (List.toArray [(Value.pointer x3), (Value.int .i64 (1 : Int))]) h27 fun v28 h29 =>
 ∃ x30 : Int, ∃ x31 : Int, v28 = (Value.tuple (List.toArray [(Value.int .i64 x30), (Value.int .i64 x31)])) ∧
 ∃ R32 : Bool → H → Prop, (
 SemCall Go.Proofs.Try.prog 16 (List.toArray [(Value.pointer x3)]) h29 fun v33 h34 =>
 ∃ x35 : Int, v33 = (Value.int .i64 x35) ∧
 VIf (x35 == (6 : Int)) (
 VIf (x30 == (1 : Int)) (
 VIf (x31 == (0 : Int)) (
 SemCall Go.Proofs.Try.prog 17 (List.toArray [(Value.pointer x3), (Value.int .i64 (1 : Int))]) h34 fun v36 h37 =>
 ∃ x38 : Int, v36 = (Value.int .i64 x38) ∧
 (∃ h39, Gh h37 h39 ∧ R32 (x38 == (8 : Int)) h39)) (
 (∃ h40, Gh h34 h40 ∧ R32 false h40))) (
 (∃ h41, Gh h34 h41 ∧ R32 false h41))) (
 (∃ h42, Gh h34 h42 ∧ R32 false h42))) ∧
 ∀ (_ : F) (x43 : Bool) (h44 : H), R32 x43 h44 →
 VRet h44 (Value.bool x43) post

def f9_sem (h0 : H) (post : Value → H → Prop) : Prop :=
 SemCall Go.Proofs.Try.prog 10 (List.toArray [(Value.int .i64 (2 : Int))]) h0 fun v1 h2 =>
 ∃ x3 : Option Addr, ∃ x4 : Option (TypeId × Value), v1 = (Value.tuple (List.toArray [(Value.pointer x3), (errV x4)])) ∧
 ∃ R5 : Bool → H → Prop, (
 isIfaceV (errV x4) = true ∧
 VIf (!(isNilV (errV x4))) (
 (∃ h6, Gh h2 h6 ∧ R5 true h6)) (
 SemCall Go.Proofs.Try.prog 11 (List.toArray [(Value.pointer x3), (Value.int .i64 (1 : Int)), (Value.int .i64 (6 : Int))]) h2 fun v7 h8 =>
 ∃ x9 : Option (TypeId × Value), v7 = (errV x9) ∧
 isIfaceV (errV x9) = true ∧
 (∃ h10, Gh h8 h10 ∧ R5 (!(isNilV (errV x9))) h10))) ∧
 ∀ (_ : F) (x11 : Bool) (h12 : H), R5 x11 h12 →
 VIf x11 (
 VRet h12 (Value.bool false) post) (
 ∃ R13 : H → Prop, (
 ∃ I14 : Nat → Int → H → Prop, (∃ n15, (∃ h17, Gh h12 h17 ∧ I14 n15 (0 : Int) h17)) ∧
 ∀ (n15 : Nat) (_ : F) (x18_i : Int) (h19 : H), I14 n15 x18_i h19 →
 f9_L1 post x3 R13 I14 n15 x18_i h19) ∧
 ∀ (_ : F) (h27 : H), R13 h27 →
 f9_J2 post x3 h27)

def f9_hint : Hint := (.node .leaf (.node .leaf (.node (.node (.join [(19, .bool)] .leaf) .leaf) (.node (.node .leaf (.join [] (.node (.loop [(3, .int)] .leaf) .leaf))) (.node .leaf (.node (.join [(0, .bool)] .leaf) .leaf))))))

theorem f9_eq (h0 : H) (post : Value → H → Prop) : exec Try.prog (bodyOf Try.f9) f9_hint (retQ Try.prog Try.f9 post) (F0 []) h0 = f9_sem h0 post := by kernel_rfl

set_option maxRecDepth 20000 in
theorem f9_call (h0 : H) (post : Value → H → Prop) (hx : f9_sem h0 post) : SemCall Try.prog 9 (List.toArray []) h0 post :=
 sem_of_exec (g := f9_hint) mixed Try.func9 (bodyOf_eq (by kernel_rfl)) (by kernel_rfl) ((f9_eq h0 post).mpr hx)

/- latchgarth/comb.New -/
def f10_sem (p0_n : Int) (h0 : H) (post : Value → H → Prop) : Prop :=
 SemCall Go.Proofs.Try.prog 27 (List.toArray [(Value.int .i64 p0_n)]) h0 fun v1 h2 =>
 ∃ x3 : Option (TypeId × Value), v1 = (errV x3) ∧
 isIfaceV (errV x3) = true ∧
 VIf (!(isNilV (errV x3))) (
 VRet h2 (Value.tuple (List.toArray [(Value.pointer none), (errV x3)])) post) (
 H.new h2 [(Value.int .i64 p0_n), (Value.int .i64 0), (Value.int .i64 0), (Value.int .i64 0), (Value.int .i64 0), (Value.int .i64 0), (Value.int .i64 0), (Value.int .i64 0), (Value.int .i64 0), (Value.int .i64 0), (Value.int .i64 0), (Value.int .i64 0), (Value.int .i64 0), (Value.int .i64 0), (Value.int .i64 0), (Value.int .i64 0), (Value.int .i64 0), (Value.int .i64 0), (Value.int .i64 0), (Value.int .i64 0), (Value.int .i64 0), (Value.int .i64 0), (Value.int .i64 0), (Value.int .i64 0), (Value.int .i64 0), (Value.int .i64 0), (Value.int .i64 0), (Value.int .i64 0), (Value.int .i64 0), (Value.int .i64 0), (Value.int .i64 0), (Value.int .i64 0), (Value.int .i64 0), (Value.int .i64 0), (Value.int .i64 0), (Value.int .i64 0), (Value.int .i64 0), (Value.int .i64 0), (Value.int .i64 0), (Value.int .i64 0), (Value.int .i64 0), (Value.int .i64 0), (Value.int .i64 0), (Value.int .i64 0), (Value.int .i64 0), (Value.int .i64 0), (Value.int .i64 0), (Value.int .i64 0), (Value.int .i64 0), (Value.int .i64 0), (Value.int .i64 0), (Value.int .i64 0), (Value.int .i64 0), (Value.int .i64 0), (Value.int .i64 0), (Value.int .i64 0), (Value.int .i64 0), (Value.int .i64 0), (Value.int .i64 0)] fun r4 h5 =>
 VRet h5 (Value.tuple (List.toArray [(Value.pointer (some (Addr.mk r4 0 none))), Value.nilIface])) post)

def f10_hint : Hint := .leaf

theorem f10_eq (p0_n : Int) (h0 : H) (post : Value → H → Prop) : exec Try.prog (bodyOf Try.f10) f10_hint (retQ Try.prog Try.f10 post) (F0 [(Value.int .i64 p0_n)]) h0 = f10_sem p0_n h0 post := by kernel_rfl

set_option maxRecDepth 20000 in
theorem f10_call (p0_n : Int) (h0 : H) (post : Value → H → Prop) (hx : f10_sem p0_n h0 post) : SemCall Try.prog 10 (List.toArray [(Value.int .i64 p0_n)]) h0 post :=
 sem_of_exec (g := f10_hint) mixed Try.func10 (bodyOf_eq (by kernel_rfl)) (by kernel_rfl) ((f10_eq p0_n h0 post).mpr hx)

/- (*latchgarth/comb.Comb).Begin -/
def f11_J1 (p0_c : Option Addr) (p1_p : Int) (p2_add : Int) (post : Value → H → Prop) (x12 : Bool) (h13 : H) : Prop :=
 VIf x12 (
 VRet h13 (Value.iface 65 (Value.int .i64 (1 : Int))) post) (
 ∃ a14 : Addr, p0_c = some a14 ∧
 0 ≤ p1_p ∧ p1_p < ((4 : Nat) : Int) ∧
 ∃ x15 : Int, H.rd h13 (Addr.add (Addr.add (Addr.add (Addr.add a14 47) ((p1_p).toNat * 3)) 0) 0) (Value.int .i64 x15) ∧
 VIf (x15 != (0 : Int)) (
 VRet h13 (Value.iface 65 (Value.int .i64 (7 : Int))) post) (
 ∃ a16 : Addr, p0_c = some a16 ∧
 ∃ x17 : Int, H.rd h13 (Addr.add (Addr.add a16 37) 0) (Value.int .i64 x17) ∧
 ∃ a18 : Addr, p0_c = some a18 ∧
 0 ≤ x17 ∧ x17 < ((2 : Nat) : Int) ∧
 0 ≤ p1_p ∧ p1_p < ((4 : Nat) : Int) ∧
 ∃ x19 : Int, H.rd h13 (Addr.add (Addr.add (Addr.add (Addr.add (Addr.add a18 1) ((x17).toNat * 9)) 1) ((p1_p).toNat * 1)) 0) (Value.int .i64 x19) ∧
 In64 (x19 + (1 : Int)) ∧
 ∃ a20 : Addr, p0_c = some a20 ∧
 0 ≤ p1_p ∧ p1_p < ((4 : Nat) : Int) ∧
 ([(Value.int .i64 (1 : Int)), (Value.int .i64 p2_add), (Value.int .i64 (x19 + (1 : Int)))]).length = 3 ∧ (Program.underlying Go.Proofs.Try.prog 61).isSome = true ∧
 H.wr h13 (Addr.add (Addr.add a20 47) ((p1_p).toNat * 3)) ([(Value.int .i64 (1 : Int)), (Value.int .i64 p2_add), (Value.int .i64 (x19 + (1 : Int)))]) fun h21 =>
 VRet h21 Value.nilIface post))

def f11_sem (p0_c : Option Addr) (p1_p : Int) (p2_add : Int) (h0 : H) (post : Value → H → Prop) : Prop :=
 ∃ R1 : Bool → H → Prop, (
 ∃ a2 : Addr, p0_c = some a2 ∧
 ∃ x3 : Int, H.rd h0 (Addr.add (Addr.add a2 0) 0) (Value.int .i64 x3) ∧
 In64 (x3 - (1 : Int)) ∧
 SemCall Go.Proofs.Try.prog 28 (List.toArray [(Value.int .i64 p1_p), (Value.int .i64 0), (Value.int .i64 (x3 - (1 : Int)))]) h0 fun v4 h5 =>
 ∃ x6 : Bool, v4 = (Value.bool x6) ∧
 VIf (!x6) (
 (∃ h7, Gh h5 h7 ∧ R1 true h7)) (
 SemCall Go.Proofs.Try.prog 28 (List.toArray [(Value.int .i64 p2_add), (Value.int .i64 0), (Value.int .i64 (1000 : Int))]) h5 fun v8 h9 =>
 ∃ x10 : Bool, v8 = (Value.bool x10) ∧
 (∃ h11, Gh h9 h11 ∧ R1 (!x10) h11))) ∧
 ∀ (_ : F) (x12 : Bool) (h13 : H), R1 x12 h13 →
 f11_J1 p0_c p1_p p2_add post x12 h13

def f11_hint : Hint := (.node .leaf (.node (.node (.join [(19, .bool)] .leaf) .leaf) (.node .leaf (.node (.tail 20) .leaf))))

theorem f11_eq (p0_c : Option Addr) (p1_p : Int) (p2_add : Int) (h0 : H) (post : Value → H → Prop) : exec Try.prog (bodyOf Try.f11) f11_hint (retQ Try.prog Try.f11 post) (F0 [(Value.pointer p0_c), (Value.int .i64 p1_p), (Value.int .i64 p2_add)]) h0 = f11_sem p0_c p1_p p2_add h0 post := by kernel_rfl

set_option maxRecDepth 20000 in
theorem f11_call (p0_c : Option Addr) (p1_p : Int) (p2_add : Int) (h0 : H) (post : Value → H → Prop) (hx : f11_sem p0_c p1_p p2_add h0 post) : SemCall Try.prog 11 (List.toArray [(Value.pointer p0_c), (Value.int .i64 p1_p), (Value.int .i64 p2_add)]) h0 post :=
 sem_of_exec (g := f11_hint) mixed Try.func11 (bodyOf_eq (by kernel_rfl)) (by kernel_rfl) ((f11_eq p0_c p1_p p2_add h0 post).mpr hx)

/- latchgarth/latchgarthlaw4.in -/
def f12_sem (p0_n : Int) (p1_low : Int) (p2_high : Int) (h0 : H) (post : Value → H → Prop) : Prop :=
 ∃ R1 : Bool → H → Prop, (
 VIf (decide (p0_n ≥ p1_low)) (
 (∃ h2, Gh h0 h2 ∧ R1 (decide (p0_n ≤ p2_high)) h2)) (
 (∃ h3, Gh h0 h3 ∧ R1 false h3))) ∧
 ∀ (_ : F) (x4 : Bool) (h5 : H), R1 x4 h5 →
 VRet h5 (Value.bool x4) post

def f12_hint : Hint := (.node .leaf (.node (.join [(6, .bool)] .leaf) .leaf))

theorem f12_eq (p0_n : Int) (p1_low : Int) (p2_high : Int) (h0 : H) (post : Value → H → Prop) : exec Try.prog (bodyOf Try.f12) f12_hint (retQ Try.prog Try.f12 post) (F0 [(Value.int .i64 p0_n), (Value.int .i64 p1_low), (Value.int .i64 p2_high)]) h0 = f12_sem p0_n p1_low p2_high h0 post := by kernel_rfl

set_option maxRecDepth 20000 in
theorem f12_call (p0_n : Int) (p1_low : Int) (p2_high : Int) (h0 : H) (post : Value → H → Prop) (hx : f12_sem p0_n p1_low p2_high h0 post) : SemCall Try.prog 12 (List.toArray [(Value.int .i64 p0_n), (Value.int .i64 p1_low), (Value.int .i64 p2_high)]) h0 post :=
 sem_of_exec (g := f12_hint) mixed Try.func12 (bodyOf_eq (by kernel_rfl)) (by kernel_rfl) ((f12_eq p0_n p1_low p2_high h0 post).mpr hx)

/- (*latchgarth/comb.Comb).Step -/
def f13_sem (p0_c : Option Addr) (p1_p : Int) (h0 : H) (post : Value → H → Prop) : Prop :=
 ∃ a1 : Addr, p0_c = some a1 ∧
 ∃ x2 : Int, H.rd h0 (Addr.add (Addr.add a1 0) 0) (Value.int .i64 x2) ∧
 In64 (x2 - (1 : Int)) ∧
 SemCall Go.Proofs.Try.prog 28 (List.toArray [(Value.int .i64 p1_p), (Value.int .i64 0), (Value.int .i64 (x2 - (1 : Int)))]) h0 fun v3 h4 =>
 ∃ x5 : Bool, v3 = (Value.bool x5) ∧
 VIf (!x5) (
 VRet h4 (Value.tuple (List.toArray [(Value.bool false), (Value.int .i64 0), (Value.iface 65 (Value.int .i64 (1 : Int)))])) post) (
 ∃ a6 : Addr, p0_c = some a6 ∧
 0 ≤ p1_p ∧ p1_p < ((4 : Nat) : Int) ∧
 ∃ a7 : Addr, (some (Addr.add (Addr.add a6 47) ((p1_p).toNat * 3))) = some a7 ∧
 ∃ x8 : Int, H.rd h4 (Addr.add (Addr.add a7 0) 0) (Value.int .i64 x8) ∧
 In64 (x8 + (1 : Int)) ∧
 ∃ a9 : Addr, (some (Addr.add (Addr.add a6 47) ((p1_p).toNat * 3))) = some a9 ∧
 ∃ x10 : Int, H.rd h4 (Addr.add (Addr.add a9 0) 0) (Value.int .i64 x10) ∧
 VIf (x10 == (0 : Int)) (
 VRet h4 (Value.tuple (List.toArray [(Value.bool false), (Value.int .i64 0), (Value.iface 65 (Value.int .i64 (7 : Int)))])) post) (
 ∃ R11 : Int → H → Prop, (
 VIf (x10 == (1 : Int)) (
 ∃ a12 : Addr, (some (Addr.add (Addr.add a6 47) ((p1_p).toNat * 3))) = some a12 ∧
 ∃ x13 : Int, H.rd h4 (Addr.add (Addr.add a12 1) 0) (Value.int .i64 x13) ∧
 ∃ a14 : Addr, (some (Addr.add (Addr.add a6 47) ((p1_p).toNat * 3))) = some a14 ∧
 ∃ x15 : Int, H.rd h4 (Addr.add (Addr.add a14 2) 0) (Value.int .i64 x15) ∧
 ∃ a16 : Addr, p0_c = some a16 ∧
 0 ≤ p1_p ∧ p1_p < ((4 : Nat) : Int) ∧
 ([(Value.int .i64 x13), (Value.int .i64 x15)]).length = 2 ∧ (Program.underlying Go.Proofs.Try.prog 58).isSome = true ∧
 H.wr h4 (Addr.add (Addr.add a16 39) ((p1_p).toNat * 2)) ([(Value.int .i64 x13), (Value.int .i64 x15)]) fun h17 =>
 (∃ h18, Gh h17 h18 ∧ R11 (x8 + (1 : Int)) h18)) (
 VIf (x10 == (2 : Int)) (
 ∃ a19 : Addr, p0_c = some a19 ∧
 In64 (p1_p + (1 : Int)) ∧
 SemCall Go.Proofs.Try.prog 29 (List.toArray [(Value.pointer (some (Addr.add a19 38))), (Value.int .i64 0), (Value.int .i64 (p1_p + (1 : Int)))]) h4 fun v20 h21 =>
 ∃ x22 : Bool, v20 = (Value.bool x22) ∧
 VIf x22 (
 (∃ h23, Gh h21 h23 ∧ R11 (5 : Int) h23)) (
 (∃ h24, Gh h21 h24 ∧ R11 (x8 + (1 : Int)) h24))) (
 VIf (x10 == (3 : Int)) (
 ∃ a25 : Addr, p0_c = some a25 ∧
 ∃ x26 : Int, H.rd h4 (Addr.add (Addr.add a25 38) 0) (Value.int .i64 x26) ∧
 VIf (x26 != (0 : Int)) (
 (∃ h27, Gh h4 h27 ∧ R11 (3 : Int) h27)) (
 (∃ h28, Gh h4 h28 ∧ R11 (x8 + (1 : Int)) h28))) (
 VIf (x10 == (4 : Int)) (
 ∃ a29 : Addr, p0_c = some a29 ∧
 ∃ x30 : Int, H.rd h4 (Addr.add (Addr.add a29 37) 0) (Value.int .i64 x30) ∧
 ∃ a31 : Addr, p0_c = some a31 ∧
 0 ≤ x30 ∧ x30 < ((2 : Nat) : Int) ∧
 ∃ a32 : Addr, (some (Addr.add (Addr.add a31 1) ((x30).toNat * 9))) = some a32 ∧
 0 ≤ p1_p ∧ p1_p < ((4 : Nat) : Int) ∧
 ∃ x33 : Int, H.rd h4 (Addr.add (Addr.add (Addr.add a32 1) ((p1_p).toNat * 1)) 0) (Value.int .i64 x33) ∧
 ∃ a34 : Addr, (some (Addr.add (Addr.add a6 47) ((p1_p).toNat * 3))) = some a34 ∧
 ∃ x35 : Int, H.rd h4 (Addr.add (Addr.add a34 2) 0) (Value.int .i64 x35) ∧
 VIf (x33 == x35) (
 ∃ a36 : Addr, (some (Addr.add (Addr.add a6 47) ((p1_p).toNat * 3))) = some a36 ∧
 ([(Value.int .i64 0), (Value.int .i64 0), (Value.int .i64 0)]).length = 3 ∧ (Program.underlying Go.Proofs.Try.prog 61).isSome = true ∧
 H.wr h4 a36 ([(Value.int .i64 0), (Value.int .i64 0), (Value.int .i64 0)]) fun h37 =>
 ∃ a38 : Addr, (some (Addr.add (Addr.add a31 1) ((x30).toNat * 9))) = some a38 ∧
 0 ≤ p1_p ∧ p1_p < ((4 : Nat) : Int) ∧
 ∃ x39 : Int, H.rd h37 (Addr.add (Addr.add (Addr.add a38 5) ((p1_p).toNat * 1)) 0) (Value.int .i64 x39) ∧
 VRet h37 (Value.tuple (List.toArray [(Value.bool true), (Value.int .i64 x39), Value.nilIface])) post) (
 (∃ h40, Gh h4 h40 ∧ R11 (2 : Int) h40))) (
 VIf (x10 == (5 : Int)) (
 SemCall Go.Proofs.Try.prog 30 (List.toArray [(Value.pointer p0_c)]) h4 fun v41 h42 =>
 v41 = (Value.tuple (List.toArray [])) ∧
 (∃ h43, Gh h42 h43 ∧ R11 (x8 + (1 : Int)) h43)) (
 VIf (x10 == (6 : Int)) (
 ∃ a44 : Addr, p0_c = some a44 ∧
 ∃ x45 : Int, H.rd h4 (Addr.add (Addr.add a44 37) 0) (Value.int .i64 x45) ∧
 In64 ((1 : Int) - x45) ∧
 ∃ a46 : Addr, p0_c = some a46 ∧
 ∃ x47 : Int, H.rd h4 (Addr.add (Addr.add a46 37) 0) (Value.int .i64 x47) ∧
 In64 ((1 : Int) - x47) ∧
 ∃ a48 : Addr, p0_c = some a48 ∧
 0 ≤ ((1 : Int) - x47) ∧ ((1 : Int) - x47) < ((2 : Nat) : Int) ∧
 ∃ x49 : Int, H.rd h4 (Addr.add (Addr.add (Addr.add a48 1) ((((1 : Int) - x47)).toNat * 9)) 0) (Value.int .i64 x49) ∧
 ∃ x50 : Int, H.rd h4 (Addr.add (Addr.add (Addr.add a48 1) ((((1 : Int) - x47)).toNat * 9)) 1) (Value.int .i64 x50) ∧
 ∃ x51 : Int, H.rd h4 (Addr.add (Addr.add (Addr.add a48 1) ((((1 : Int) - x47)).toNat * 9)) 2) (Value.int .i64 x51) ∧
 ∃ x52 : Int, H.rd h4 (Addr.add (Addr.add (Addr.add a48 1) ((((1 : Int) - x47)).toNat * 9)) 3) (Value.int .i64 x52) ∧
 ∃ x53 : Int, H.rd h4 (Addr.add (Addr.add (Addr.add a48 1) ((((1 : Int) - x47)).toNat * 9)) 4) (Value.int .i64 x53) ∧
 ∃ x54 : Int, H.rd h4 (Addr.add (Addr.add (Addr.add a48 1) ((((1 : Int) - x47)).toNat * 9)) 5) (Value.int .i64 x54) ∧
 ∃ x55 : Int, H.rd h4 (Addr.add (Addr.add (Addr.add a48 1) ((((1 : Int) - x47)).toNat * 9)) 6) (Value.int .i64 x55) ∧
 ∃ x56 : Int, H.rd h4 (Addr.add (Addr.add (Addr.add a48 1) ((((1 : Int) - x47)).toNat * 9)) 7) (Value.int .i64 x56) ∧
 ∃ x57 : Int, H.rd h4 (Addr.add (Addr.add (Addr.add a48 1) ((((1 : Int) - x47)).toNat * 9)) 8) (Value.int .i64 x57) ∧
 ∃ a58 : Addr, p0_c = some a58 ∧
 0 ≤ ((1 : Int) - x45) ∧ ((1 : Int) - x45) < ((2 : Nat) : Int) ∧
 ([(Value.int .i64 x49), (Value.int .i64 x50), (Value.int .i64 x51), (Value.int .i64 x52), (Value.int .i64 x53), (Value.int .i64 x54), (Value.int .i64 x55), (Value.int .i64 x56), (Value.int .i64 x57)]).length = 9 ∧ (Program.underlying Go.Proofs.Try.prog 55).isSome = true ∧
 H.wr h4 (Addr.add (Addr.add a58 19) ((((1 : Int) - x45)).toNat * 9)) ([(Value.int .i64 x49), (Value.int .i64 x50), (Value.int .i64 x51), (Value.int .i64 x52), (Value.int .i64 x53), (Value.int .i64 x54), (Value.int .i64 x55), (Value.int .i64 x56), (Value.int .i64 x57)]) fun h59 =>
 (∃ h60, Gh h59 h60 ∧ R11 (x8 + (1 : Int)) h60)) (
 VIf (x10 == (7 : Int)) (
 ∃ a61 : Addr, p0_c = some a61 ∧
 ∃ x62 : Int, H.rd h4 (Addr.add (Addr.add a61 37) 0) (Value.int .i64 x62) ∧
 In64 ((1 : Int) - x62) ∧
 ∃ a63 : Addr, p0_c = some a63 ∧
 H.wr h4 (Addr.add a63 37) ([(Value.int .i64 ((1 : Int) - x62))]) fun h64 =>
 (∃ h65, Gh h64 h65 ∧ R11 (x8 + (1 : Int)) h65)) (
 VIf (x10 == (8 : Int)) (
 ∃ a66 : Addr, p0_c = some a66 ∧
 H.wr h4 (Addr.add a66 38) ([(Value.int .i64 0)]) fun h67 =>
 (∃ h68, Gh h67 h68 ∧ R11 (4 : Int) h68)) (
 (∃ h69, Gh h4 h69 ∧ R11 (x8 + (1 : Int)) h69)))))))))) ∧
 ∀ (_ : F) (x70_next : Int) (h71 : H), R11 x70_next h71 →
 ∃ a72 : Addr, (some (Addr.add (Addr.add a6 47) ((p1_p).toNat * 3))) = some a72 ∧
 H.wr h71 (Addr.add a72 0) ([(Value.int .i64 x70_next)]) fun h73 =>
 VRet h73 (Value.tuple (List.toArray [(Value.bool false), (Value.int .i64 0), Value.nilIface])) post))

def f13_hint : Hint := (.node .leaf (.node .leaf (.node .leaf (.node .leaf (.node (.node .leaf (.node (.node .leaf (.node .leaf (.node .leaf (.join [(8, .int)] (.node (.tail 14) (.node .leaf (.node .leaf (.node .leaf (.node .leaf (.node .leaf (.node .leaf (.node .leaf (.node .leaf (.node .leaf (.node (.tail 19) .leaf))))))))))))))) .leaf)) .leaf)))))

theorem f13_eq (p0_c : Option Addr) (p1_p : Int) (h0 : H) (post : Value → H → Prop) : exec Try.prog (bodyOf Try.f13) f13_hint (retQ Try.prog Try.f13 post) (F0 [(Value.pointer p0_c), (Value.int .i64 p1_p)]) h0 = f13_sem p0_c p1_p h0 post := by kernel_rfl

set_option maxRecDepth 20000 in
theorem f13_call (p0_c : Option Addr) (p1_p : Int) (h0 : H) (post : Value → H → Prop) (hx : f13_sem p0_c p1_p h0 post) : SemCall Try.prog 13 (List.toArray [(Value.pointer p0_c), (Value.int .i64 p1_p)]) h0 post :=
 sem_of_exec (g := f13_hint) mixed Try.func13 (bodyOf_eq (by kernel_rfl)) (by kernel_rfl) ((f13_eq p0_c p1_p h0 post).mpr hx)

/- (*latchgarth/comb.Comb).Crash -/
def f14_J1 (p0_c : Option Addr) (post : Value → H → Prop) (h25 : H) : Prop :=
 ∃ a26 : Addr, p0_c = some a26 ∧
 ∃ x27 : Int, H.rd h25 (Addr.add (Addr.add a26 0) 0) (Value.int .i64 x27) ∧
 ∃ a28 : Addr, p0_c = some a28 ∧
 ∃ x29 : Int, H.rd h25 (Addr.add (Addr.add a28 19) 0) (Value.int .i64 x29) ∧
 ∃ x30 : Int, H.rd h25 (Addr.add (Addr.add a28 19) 1) (Value.int .i64 x30) ∧
 ∃ x31 : Int, H.rd h25 (Addr.add (Addr.add a28 19) 2) (Value.int .i64 x31) ∧
 ∃ x32 : Int, H.rd h25 (Addr.add (Addr.add a28 19) 3) (Value.int .i64 x32) ∧
 ∃ x33 : Int, H.rd h25 (Addr.add (Addr.add a28 19) 4) (Value.int .i64 x33) ∧
 ∃ x34 : Int, H.rd h25 (Addr.add (Addr.add a28 19) 5) (Value.int .i64 x34) ∧
 ∃ x35 : Int, H.rd h25 (Addr.add (Addr.add a28 19) 6) (Value.int .i64 x35) ∧
 ∃ x36 : Int, H.rd h25 (Addr.add (Addr.add a28 19) 7) (Value.int .i64 x36) ∧
 ∃ x37 : Int, H.rd h25 (Addr.add (Addr.add a28 19) 8) (Value.int .i64 x37) ∧
 ∃ x38 : Int, H.rd h25 (Addr.add (Addr.add a28 19) 9) (Value.int .i64 x38) ∧
 ∃ x39 : Int, H.rd h25 (Addr.add (Addr.add a28 19) 10) (Value.int .i64 x39) ∧
 ∃ x40 : Int, H.rd h25 (Addr.add (Addr.add a28 19) 11) (Value.int .i64 x40) ∧
 ∃ x41 : Int, H.rd h25 (Addr.add (Addr.add a28 19) 12) (Value.int .i64 x41) ∧
 ∃ x42 : Int, H.rd h25 (Addr.add (Addr.add a28 19) 13) (Value.int .i64 x42) ∧
 ∃ x43 : Int, H.rd h25 (Addr.add (Addr.add a28 19) 14) (Value.int .i64 x43) ∧
 ∃ x44 : Int, H.rd h25 (Addr.add (Addr.add a28 19) 15) (Value.int .i64 x44) ∧
 ∃ x45 : Int, H.rd h25 (Addr.add (Addr.add a28 19) 16) (Value.int .i64 x45) ∧
 ∃ x46 : Int, H.rd h25 (Addr.add (Addr.add a28 19) 17) (Value.int .i64 x46) ∧
 ∃ a47 : Addr, p0_c = some a47 ∧
 ∃ x48 : Int, H.rd h25 (Addr.add (Addr.add a47 19) 0) (Value.int .i64 x48) ∧
 ∃ x49 : Int, H.rd h25 (Addr.add (Addr.add a47 19) 1) (Value.int .i64 x49) ∧
 ∃ x50 : Int, H.rd h25 (Addr.add (Addr.add a47 19) 2) (Value.int .i64 x50) ∧
 ∃ x51 : Int, H.rd h25 (Addr.add (Addr.add a47 19) 3) (Value.int .i64 x51) ∧
 ∃ x52 : Int, H.rd h25 (Addr.add (Addr.add a47 19) 4) (Value.int .i64 x52) ∧
 ∃ x53 : Int, H.rd h25 (Addr.add (Addr.add a47 19) 5) (Value.int .i64 x53) ∧
 ∃ x54 : Int, H.rd h25 (Addr.add (Addr.add a47 19) 6) (Value.int .i64 x54) ∧
 ∃ x55 : Int, H.rd h25 (Addr.add (Addr.add a47 19) 7) (Value.int .i64 x55) ∧
 ∃ x56 : Int, H.rd h25 (Addr.add (Addr.add a47 19) 8) (Value.int .i64 x56) ∧
 ∃ x57 : Int, H.rd h25 (Addr.add (Addr.add a47 19) 9) (Value.int .i64 x57) ∧
 ∃ x58 : Int, H.rd h25 (Addr.add (Addr.add a47 19) 10) (Value.int .i64 x58) ∧
 ∃ x59 : Int, H.rd h25 (Addr.add (Addr.add a47 19) 11) (Value.int .i64 x59) ∧
 ∃ x60 : Int, H.rd h25 (Addr.add (Addr.add a47 19) 12) (Value.int .i64 x60) ∧
 ∃ x61 : Int, H.rd h25 (Addr.add (Addr.add a47 19) 13) (Value.int .i64 x61) ∧
 ∃ x62 : Int, H.rd h25 (Addr.add (Addr.add a47 19) 14) (Value.int .i64 x62) ∧
 ∃ x63 : Int, H.rd h25 (Addr.add (Addr.add a47 19) 15) (Value.int .i64 x63) ∧
 ∃ x64 : Int, H.rd h25 (Addr.add (Addr.add a47 19) 16) (Value.int .i64 x64) ∧
 ∃ x65 : Int, H.rd h25 (Addr.add (Addr.add a47 19) 17) (Value.int .i64 x65) ∧
 ∃ a66 : Addr, p0_c = some a66 ∧
 ∃ x67 : Int, H.rd h25 (Addr.add (Addr.add a66 37) 0) (Value.int .i64 x67) ∧
 ∃ a68 : Addr, p0_c = some a68 ∧
 ([(Value.int .i64 x27), (Value.int .i64 x29), (Value.int .i64 x30), (Value.int .i64 x31), (Value.int .i64 x32), (Value.int .i64 x33), (Value.int .i64 x34), (Value.int .i64 x35), (Value.int .i64 x36), (Value.int .i64 x37), (Value.int .i64 x38), (Value.int .i64 x39), (Value.int .i64 x40), (Value.int .i64 x41), (Value.int .i64 x42), (Value.int .i64 x43), (Value.int .i64 x44), (Value.int .i64 x45), (Value.int .i64 x46), (Value.int .i64 x48), (Value.int .i64 x49), (Value.int .i64 x50), (Value.int .i64 x51), (Value.int .i64 x52), (Value.int .i64 x53), (Value.int .i64 x54), (Value.int .i64 x55), (Value.int .i64 x56), (Value.int .i64 x57), (Value.int .i64 x58), (Value.int .i64 x59), (Value.int .i64 x60), (Value.int .i64 x61), (Value.int .i64 x62), (Value.int .i64 x63), (Value.int .i64 x64), (Value.int .i64 x65), (Value.int .i64 x67), (Value.int .i64 0), (Value.int .i64 0), (Value.int .i64 0), (Value.int .i64 0), (Value.int .i64 0), (Value.int .i64 0), (Value.int .i64 0), (Value.int .i64 0), (Value.int .i64 0), (Value.int .i64 0), (Value.int .i64 0), (Value.int .i64 0), (Value.int .i64 0), (Value.int .i64 0), (Value.int .i64 0), (Value.int .i64 0), (Value.int .i64 0), (Value.int .i64 0), (Value.int .i64 0), (Value.int .i64 0), (Value.int .i64 0)]).length = 59 ∧ (Program.underlying Go.Proofs.Try.prog 64).isSome = true ∧
 H.wr h25 a68 ([(Value.int .i64 x27), (Value.int .i64 x29), (Value.int .i64 x30), (Value.int .i64 x31), (Value.int .i64 x32), (Value.int .i64 x33), (Value.int .i64 x34), (Value.int .i64 x35), (Value.int .i64 x36), (Value.int .i64 x37), (Value.int .i64 x38), (Value.int .i64 x39), (Value.int .i64 x40), (Value.int .i64 x41), (Value.int .i64 x42), (Value.int .i64 x43), (Value.int .i64 x44), (Value.int .i64 x45), (Value.int .i64 x46), (Value.int .i64 x48), (Value.int .i64 x49), (Value.int .i64 x50), (Value.int .i64 x51), (Value.int .i64 x52), (Value.int .i64 x53), (Value.int .i64 x54), (Value.int .i64 x55), (Value.int .i64 x56), (Value.int .i64 x57), (Value.int .i64 x58), (Value.int .i64 x59), (Value.int .i64 x60), (Value.int .i64 x61), (Value.int .i64 x62), (Value.int .i64 x63), (Value.int .i64 x64), (Value.int .i64 x65), (Value.int .i64 x67), (Value.int .i64 0), (Value.int .i64 0), (Value.int .i64 0), (Value.int .i64 0), (Value.int .i64 0), (Value.int .i64 0), (Value.int .i64 0), (Value.int .i64 0), (Value.int .i64 0), (Value.int .i64 0), (Value.int .i64 0), (Value.int .i64 0), (Value.int .i64 0), (Value.int .i64 0), (Value.int .i64 0), (Value.int .i64 0), (Value.int .i64 0), (Value.int .i64 0), (Value.int .i64 0), (Value.int .i64 0), (Value.int .i64 0)]) fun h69 =>
 VRet h69 (Value.tuple (List.toArray [])) post

def f14_sem (p0_c : Option Addr) (p1_keep : Bool) (h0 : H) (post : Value → H → Prop) : Prop :=
 ∃ R1 : H → Prop, (
 VIf p1_keep (
 ∃ a2 : Addr, p0_c = some a2 ∧
 ∃ x3 : Int, H.rd h0 (Addr.add (Addr.add a2 1) 0) (Value.int .i64 x3) ∧
 ∃ x4 : Int, H.rd h0 (Addr.add (Addr.add a2 1) 1) (Value.int .i64 x4) ∧
 ∃ x5 : Int, H.rd h0 (Addr.add (Addr.add a2 1) 2) (Value.int .i64 x5) ∧
 ∃ x6 : Int, H.rd h0 (Addr.add (Addr.add a2 1) 3) (Value.int .i64 x6) ∧
 ∃ x7 : Int, H.rd h0 (Addr.add (Addr.add a2 1) 4) (Value.int .i64 x7) ∧
 ∃ x8 : Int, H.rd h0 (Addr.add (Addr.add a2 1) 5) (Value.int .i64 x8) ∧
 ∃ x9 : Int, H.rd h0 (Addr.add (Addr.add a2 1) 6) (Value.int .i64 x9) ∧
 ∃ x10 : Int, H.rd h0 (Addr.add (Addr.add a2 1) 7) (Value.int .i64 x10) ∧
 ∃ x11 : Int, H.rd h0 (Addr.add (Addr.add a2 1) 8) (Value.int .i64 x11) ∧
 ∃ x12 : Int, H.rd h0 (Addr.add (Addr.add a2 1) 9) (Value.int .i64 x12) ∧
 ∃ x13 : Int, H.rd h0 (Addr.add (Addr.add a2 1) 10) (Value.int .i64 x13) ∧
 ∃ x14 : Int, H.rd h0 (Addr.add (Addr.add a2 1) 11) (Value.int .i64 x14) ∧
 ∃ x15 : Int, H.rd h0 (Addr.add (Addr.add a2 1) 12) (Value.int .i64 x15) ∧
 ∃ x16 : Int, H.rd h0 (Addr.add (Addr.add a2 1) 13) (Value.int .i64 x16) ∧
 ∃ x17 : Int, H.rd h0 (Addr.add (Addr.add a2 1) 14) (Value.int .i64 x17) ∧
 ∃ x18 : Int, H.rd h0 (Addr.add (Addr.add a2 1) 15) (Value.int .i64 x18) ∧
 ∃ x19 : Int, H.rd h0 (Addr.add (Addr.add a2 1) 16) (Value.int .i64 x19) ∧
 ∃ x20 : Int, H.rd h0 (Addr.add (Addr.add a2 1) 17) (Value.int .i64 x20) ∧
 ∃ a21 : Addr, p0_c = some a21 ∧
 ([(Value.int .i64 x3), (Value.int .i64 x4), (Value.int .i64 x5), (Value.int .i64 x6), (Value.int .i64 x7), (Value.int .i64 x8), (Value.int .i64 x9), (Value.int .i64 x10), (Value.int .i64 x11), (Value.int .i64 x12), (Value.int .i64 x13), (Value.int .i64 x14), (Value.int .i64 x15), (Value.int .i64 x16), (Value.int .i64 x17), (Value.int .i64 x18), (Value.int .i64 x19), (Value.int .i64 x20)]).length = 18 ∧ (Program.underlying Go.Proofs.Try.prog 56).isSome = true ∧
 H.wr h0 (Addr.add a21 19) ([(Value.int .i64 x3), (Value.int .i64 x4), (Value.int .i64 x5), (Value.int .i64 x6), (Value.int .i64 x7), (Value.int .i64 x8), (Value.int .i64 x9), (Value.int .i64 x10), (Value.int .i64 x11), (Value.int .i64 x12), (Value.int .i64 x13), (Value.int .i64 x14), (Value.int .i64 x15), (Value.int .i64 x16), (Value.int .i64 x17), (Value.int .i64 x18), (Value.int .i64 x19), (Value.int .i64 x20)]) fun h22 =>
 (∃ h23, Gh h22 h23 ∧ R1 h23)) (
 (∃ h24, Gh h0 h24 ∧ R1 h24))) ∧
 ∀ (_ : F) (h25 : H), R1 h25 →
 f14_J1 p0_c post h25

def f14_hint : Hint := (.node (.node .leaf (.join [] .leaf)) (.tail 19))

theorem f14_eq (p0_c : Option Addr) (p1_keep : Bool) (h0 : H) (post : Value → H → Prop) : exec Try.prog (bodyOf Try.f14) f14_hint (retQ Try.prog Try.f14 post) (F0 [(Value.pointer p0_c), (Value.bool p1_keep)]) h0 = f14_sem p0_c p1_keep h0 post := by kernel_rfl

set_option maxRecDepth 20000 in
theorem f14_call (p0_c : Option Addr) (p1_keep : Bool) (h0 : H) (post : Value → H → Prop) (hx : f14_sem p0_c p1_keep h0 post) : SemCall Try.prog 14 (List.toArray [(Value.pointer p0_c), (Value.bool p1_keep)]) h0 post :=
 sem_of_exec (g := f14_hint) mixed Try.func14 (bodyOf_eq (by kernel_rfl)) (by kernel_rfl) ((f14_eq p0_c p1_keep h0 post).mpr hx)

/- (*latchgarth/comb.Comb).Done -/
def f15_sem (p0_c : Option Addr) (p1_p : Int) (h0 : H) (post : Value → H → Prop) : Prop :=
 ∃ a1 : Addr, p0_c = some a1 ∧
 ∃ x2 : Int, H.rd h0 (Addr.add (Addr.add a1 0) 0) (Value.int .i64 x2) ∧
 In64 (x2 - (1 : Int)) ∧
 SemCall Go.Proofs.Try.prog 28 (List.toArray [(Value.int .i64 p1_p), (Value.int .i64 0), (Value.int .i64 (x2 - (1 : Int)))]) h0 fun v3 h4 =>
 ∃ x5 : Bool, v3 = (Value.bool x5) ∧
 VIf (!x5) (
 VRet h4 (Value.tuple (List.toArray [(Value.int .i64 0), (Value.int .i64 0)])) post) (
 ∃ R6 : Addr → H → Prop, (
 ∃ a7 : Addr, p0_c = some a7 ∧
 ∃ a8 : Addr, p0_c = some a8 ∧
 (
 ∃ x9 : Int, H.rd h4 (Addr.add (Addr.add a7 37) 0) (Value.int .i64 x9) ∧
 0 ≤ x9 ∧ x9 < ((2 : Nat) : Int) ∧
 (
 ∃ x10 : Int, H.rd h4 (Addr.add (Addr.add (Addr.add a8 1) ((x9).toNat * 9)) 0) (Value.int .i64 x10) ∧
 ∃ x11 : Int, H.rd h4 (Addr.add (Addr.add (Addr.add a8 1) ((x9).toNat * 9)) 1) (Value.int .i64 x11) ∧
 ∃ x12 : Int, H.rd h4 (Addr.add (Addr.add (Addr.add a8 1) ((x9).toNat * 9)) 2) (Value.int .i64 x12) ∧
 ∃ x13 : Int, H.rd h4 (Addr.add (Addr.add (Addr.add a8 1) ((x9).toNat * 9)) 3) (Value.int .i64 x13) ∧
 ∃ x14 : Int, H.rd h4 (Addr.add (Addr.add (Addr.add a8 1) ((x9).toNat * 9)) 4) (Value.int .i64 x14) ∧
 ∃ x15 : Int, H.rd h4 (Addr.add (Addr.add (Addr.add a8 1) ((x9).toNat * 9)) 5) (Value.int .i64 x15) ∧
 ∃ x16 : Int, H.rd h4 (Addr.add (Addr.add (Addr.add a8 1) ((x9).toNat * 9)) 6) (Value.int .i64 x16) ∧
 ∃ x17 : Int, H.rd h4 (Addr.add (Addr.add (Addr.add a8 1) ((x9).toNat * 9)) 7) (Value.int .i64 x17) ∧
 ∃ x18 : Int, H.rd h4 (Addr.add (Addr.add (Addr.add a8 1) ((x9).toNat * 9)) 8) (Value.int .i64 x18) ∧
 H.new h4 [(Value.int .i64 0), (Value.int .i64 0), (Value.int .i64 0), (Value.int .i64 0), (Value.int .i64 0), (Value.int .i64 0), (Value.int .i64 0), (Value.int .i64 0), (Value.int .i64 0)] fun r19 h20 =>
 ([(Value.int .i64 x10), (Value.int .i64 x11), (Value.int .i64 x12), (Value.int .i64 x13), (Value.int .i64 x14), (Value.int .i64 x15), (Value.int .i64 x16), (Value.int .i64 x17), (Value.int .i64 x18)]).length = 9 ∧ (Program.underlying Go.Proofs.Try.prog 55).isSome = true ∧
 H.wr h20 (Addr.mk r19 0 none) ([(Value.int .i64 x10), (Value.int .i64 x11), (Value.int .i64 x12), (Value.int .i64 x13), (Value.int .i64 x14), (Value.int .i64 x15), (Value.int .i64 x16), (Value.int .i64 x17), (Value.int .i64 x18)]) fun h21 =>
 (∃ h22, Gh h21 h22 ∧ R6 (Addr.mk r19 0 none) h22)) ∧
 (
 H.new h4 [(Value.int .i64 0), (Value.int .i64 0), (Value.int .i64 0), (Value.int .i64 0), (Value.int .i64 0), (Value.int .i64 0), (Value.int .i64 0), (Value.int .i64 0), (Value.int .i64 0)] fun r23 h24 =>
 ∃ x25 : Int, H.rd h24 (Addr.add (Addr.add (Addr.add a8 1) ((x9).toNat * 9)) 0) (Value.int .i64 x25) ∧
 ∃ x26 : Int, H.rd h24 (Addr.add (Addr.add (Addr.add a8 1) ((x9).toNat * 9)) 1) (Value.int .i64 x26) ∧
 ∃ x27 : Int, H.rd h24 (Addr.add (Addr.add (Addr.add a8 1) ((x9).toNat * 9)) 2) (Value.int .i64 x27) ∧
 ∃ x28 : Int, H.rd h24 (Addr.add (Addr.add (Addr.add a8 1) ((x9).toNat * 9)) 3) (Value.int .i64 x28) ∧
 ∃ x29 : Int, H.rd h24 (Addr.add (Addr.add (Addr.add a8 1) ((x9).toNat * 9)) 4) (Value.int .i64 x29) ∧
 ∃ x30 : Int, H.rd h24 (Addr.add (Addr.add (Addr.add a8 1) ((x9).toNat * 9)) 5) (Value.int .i64 x30) ∧
 ∃ x31 : Int, H.rd h24 (Addr.add (Addr.add (Addr.add a8 1) ((x9).toNat * 9)) 6) (Value.int .i64 x31) ∧
 ∃ x32 : Int, H.rd h24 (Addr.add (Addr.add (Addr.add a8 1) ((x9).toNat * 9)) 7) (Value.int .i64 x32) ∧
 ∃ x33 : Int, H.rd h24 (Addr.add (Addr.add (Addr.add a8 1) ((x9).toNat * 9)) 8) (Value.int .i64 x33) ∧
 ([(Value.int .i64 x25), (Value.int .i64 x26), (Value.int .i64 x27), (Value.int .i64 x28), (Value.int .i64 x29), (Value.int .i64 x30), (Value.int .i64 x31), (Value.int .i64 x32), (Value.int .i64 x33)]).length = 9 ∧ (Program.underlying Go.Proofs.Try.prog 55).isSome = true ∧
 H.wr h24 (Addr.mk r23 0 none) ([(Value.int .i64 x25), (Value.int .i64 x26), (Value.int .i64 x27), (Value.int .i64 x28), (Value.int .i64 x29), (Value.int .i64 x30), (Value.int .i64 x31), (Value.int .i64 x32), (Value.int .i64 x33)]) fun h34 =>
 (∃ h35, Gh h34 h35 ∧ R6 (Addr.mk r23 0 none) h35))) ∧
 (
 H.new h4 [(Value.int .i64 0), (Value.int .i64 0), (Value.int .i64 0), (Value.int .i64 0), (Value.int .i64 0), (Value.int .i64 0), (Value.int .i64 0), (Value.int .i64 0), (Value.int .i64 0)] fun r36 h37 =>
 ∃ x38 : Int, H.rd h37 (Addr.add (Addr.add a7 37) 0) (Value.int .i64 x38) ∧
 0 ≤ x38 ∧ x38 < ((2 : Nat) : Int) ∧
 ∃ x39 : Int, H.rd h37 (Addr.add (Addr.add (Addr.add a8 1) ((x38).toNat * 9)) 0) (Value.int .i64 x39) ∧
 ∃ x40 : Int, H.rd h37 (Addr.add (Addr.add (Addr.add a8 1) ((x38).toNat * 9)) 1) (Value.int .i64 x40) ∧
 ∃ x41 : Int, H.rd h37 (Addr.add (Addr.add (Addr.add a8 1) ((x38).toNat * 9)) 2) (Value.int .i64 x41) ∧
 ∃ x42 : Int, H.rd h37 (Addr.add (Addr.add (Addr.add a8 1) ((x38).toNat * 9)) 3) (Value.int .i64 x42) ∧
 ∃ x43 : Int, H.rd h37 (Addr.add (Addr.add (Addr.add a8 1) ((x38).toNat * 9)) 4) (Value.int .i64 x43) ∧
 ∃ x44 : Int, H.rd h37 (Addr.add (Addr.add (Addr.add a8 1) ((x38).toNat * 9)) 5) (Value.int .i64 x44) ∧
 ∃ x45 : Int, H.rd h37 (Addr.add (Addr.add (Addr.add a8 1) ((x38).toNat * 9)) 6) (Value.int .i64 x45) ∧
 ∃ x46 : Int, H.rd h37 (Addr.add (Addr.add (Addr.add a8 1) ((x38).toNat * 9)) 7) (Value.int .i64 x46) ∧
 ∃ x47 : Int, H.rd h37 (Addr.add (Addr.add (Addr.add a8 1) ((x38).toNat * 9)) 8) (Value.int .i64 x47) ∧
 ([(Value.int .i64 x39), (Value.int .i64 x40), (Value.int .i64 x41), (Value.int .i64 x42), (Value.int .i64 x43), (Value.int .i64 x44), (Value.int .i64 x45), (Value.int .i64 x46), (Value.int .i64 x47)]).length = 9 ∧ (Program.underlying Go.Proofs.Try.prog 55).isSome = true ∧
 H.wr h37 (Addr.mk r36 0 none) ([(Value.int .i64 x39), (Value.int .i64 x40), (Value.int .i64 x41), (Value.int .i64 x42), (Value.int .i64 x43), (Value.int .i64 x44), (Value.int .i64 x45), (Value.int .i64 x46), (Value.int .i64 x47)]) fun h48 =>
 (∃ h49, Gh h48 h49 ∧ R6 (Addr.mk r36 0 none) h49))) ∧
 ∀ (_ : F) (x50_s : Addr) (h51 : H), R6 x50_s h51 →
 0 ≤ p1_p ∧ p1_p < ((4 : Nat) : Int) ∧
 ∃ x52 : Int, H.rd h51 (Addr.add (Addr.add (Addr.add x50_s 1) ((p1_p).toNat * 1)) 0) (Value.int .i64 x52) ∧
 0 ≤ p1_p ∧ p1_p < ((4 : Nat) : Int) ∧
 ∃ x53 : Int, H.rd h51 (Addr.add (Addr.add (Addr.add x50_s 5) ((p1_p).toNat * 1)) 0) (Value.int .i64 x53) ∧
 VRet h51 (Value.tuple (List.toArray [(Value.int .i64 x52), (Value.int .i64 x53)])) post)

def f15_hint : Hint := (.node .leaf (.node .leaf (.node (.join [(6, .addr)] .any) .leaf)))

theorem f15_eq (p0_c : Option Addr) (p1_p : Int) (h0 : H) (post : Value → H → Prop) : exec Try.prog (bodyOf Try.f15) f15_hint (retQ Try.prog Try.f15 post) (F0 [(Value.pointer p0_c), (Value.int .i64 p1_p)]) h0 = f15_sem p0_c p1_p h0 post := by kernel_rfl

set_option maxRecDepth 20000 in
theorem f15_call (p0_c : Option Addr) (p1_p : Int) (h0 : H) (post : Value → H → Prop) (hx : f15_sem p0_c p1_p h0 post) : SemCall Try.prog 15 (List.toArray [(Value.pointer p0_c), (Value.int .i64 p1_p)]) h0 post :=
 sem_of_exec (g := f15_hint) mixed Try.func15 (bodyOf_eq (by kernel_rfl)) (by kernel_rfl) ((f15_eq p0_c p1_p h0 post).mpr hx)

/- (*latchgarth/comb.Comb).Sum -/
def f16_sem (p0_c : Option Addr) (h0 : H) (post : Value → H → Prop) : Prop :=
 ∃ a1 : Addr, p0_c = some a1 ∧
 ∃ x2 : Int, H.rd h0 (Addr.add (Addr.add a1 37) 0) (Value.int .i64 x2) ∧
 ∃ a3 : Addr, p0_c = some a3 ∧
 0 ≤ x2 ∧ x2 < ((2 : Nat) : Int) ∧
 ∃ x4 : Int, H.rd h0 (Addr.add (Addr.add (Addr.add (Addr.add a3 1) ((x2).toNat * 9)) 0) 0) (Value.int .i64 x4) ∧
 VRet h0 (Value.int .i64 x4) post

def f16_hint : Hint := .leaf

theorem f16_eq (p0_c : Option Addr) (h0 : H) (post : Value → H → Prop) : exec Try.prog (bodyOf Try.f16) f16_hint (retQ Try.prog Try.f16 post) (F0 [(Value.pointer p0_c)]) h0 = f16_sem p0_c h0 post := by kernel_rfl

set_option maxRecDepth 20000 in
theorem f16_call (p0_c : Option Addr) (h0 : H) (post : Value → H → Prop) (hx : f16_sem p0_c h0 post) : SemCall Try.prog 16 (List.toArray [(Value.pointer p0_c)]) h0 post :=
 sem_of_exec (g := f16_hint) mixed Try.func16 (bodyOf_eq (by kernel_rfl)) (by kernel_rfl) ((f16_eq p0_c h0 post).mpr hx)

/- (*latchgarth/comb.Comb).At -/
def f17_sem (p0_c : Option Addr) (p1_p : Int) (h0 : H) (post : Value → H → Prop) : Prop :=
 ∃ a1 : Addr, p0_c = some a1 ∧
 ∃ x2 : Int, H.rd h0 (Addr.add (Addr.add a1 0) 0) (Value.int .i64 x2) ∧
 In64 (x2 - (1 : Int)) ∧
 SemCall Go.Proofs.Try.prog 28 (List.toArray [(Value.int .i64 p1_p), (Value.int .i64 0), (Value.int .i64 (x2 - (1 : Int)))]) h0 fun v3 h4 =>
 ∃ x5 : Bool, v3 = (Value.bool x5) ∧
 VIf (!x5) (
 VRet h4 (Value.int .i64 0) post) (
 ∃ a6 : Addr, p0_c = some a6 ∧
 0 ≤ p1_p ∧ p1_p < ((4 : Nat) : Int) ∧
 ∃ x7 : Int, H.rd h4 (Addr.add (Addr.add (Addr.add (Addr.add a6 47) ((p1_p).toNat * 3)) 0) 0) (Value.int .i64 x7) ∧
 VRet h4 (Value.int .i64 x7) post)

def f17_hint : Hint := .leaf

theorem f17_eq (p0_c : Option Addr) (p1_p : Int) (h0 : H) (post : Value → H → Prop) : exec Try.prog (bodyOf Try.f17) f17_hint (retQ Try.prog Try.f17 post) (F0 [(Value.pointer p0_c), (Value.int .i64 p1_p)]) h0 = f17_sem p0_c p1_p h0 post := by kernel_rfl

set_option maxRecDepth 20000 in
theorem f17_call (p0_c : Option Addr) (p1_p : Int) (h0 : H) (post : Value → H → Prop) (hx : f17_sem p0_c p1_p h0 post) : SemCall Try.prog 17 (List.toArray [(Value.pointer p0_c), (Value.int .i64 p1_p)]) h0 post :=
 sem_of_exec (g := f17_hint) mixed Try.func17 (bodyOf_eq (by kernel_rfl)) (by kernel_rfl) ((f17_eq p0_c p1_p h0 post).mpr hx)

/- latchgarth/latchgarthlaw3.in -/
def f25_sem (p0_n : Int) (p1_low : Int) (p2_high : Int) (h0 : H) (post : Value → H → Prop) : Prop :=
 ∃ R1 : Bool → H → Prop, (
 VIf (decide (p0_n ≥ p1_low)) (
 (∃ h2, Gh h0 h2 ∧ R1 (decide (p0_n ≤ p2_high)) h2)) (
 (∃ h3, Gh h0 h3 ∧ R1 false h3))) ∧
 ∀ (_ : F) (x4 : Bool) (h5 : H), R1 x4 h5 →
 VRet h5 (Value.bool x4) post

def f25_hint : Hint := (.node .leaf (.node (.join [(6, .bool)] .leaf) .leaf))

theorem f25_eq (p0_n : Int) (p1_low : Int) (p2_high : Int) (h0 : H) (post : Value → H → Prop) : exec Try.prog (bodyOf Try.f25) f25_hint (retQ Try.prog Try.f25 post) (F0 [(Value.int .i64 p0_n), (Value.int .i64 p1_low), (Value.int .i64 p2_high)]) h0 = f25_sem p0_n p1_low p2_high h0 post := by kernel_rfl

set_option maxRecDepth 20000 in
theorem f25_call (p0_n : Int) (p1_low : Int) (p2_high : Int) (h0 : H) (post : Value → H → Prop) (hx : f25_sem p0_n p1_low p2_high h0 post) : SemCall Try.prog 25 (List.toArray [(Value.int .i64 p0_n), (Value.int .i64 p1_low), (Value.int .i64 p2_high)]) h0 post :=
 sem_of_exec (g := f25_hint) mixed Try.func25 (bodyOf_eq (by kernel_rfl)) (by kernel_rfl) ((f25_eq p0_n p1_low p2_high h0 post).mpr hx)

/- latchgarth/core.Hands -/
def f27_sem (p0_n : Int) (h0 : H) (post : Value → H → Prop) : Prop :=
 SemCall Go.Proofs.Try.prog 28 (List.toArray [(Value.int .i64 p0_n), (Value.int .i64 (1 : Int)), (Value.int .i64 (4 : Int))]) h0 fun v1 h2 =>
 ∃ x3 : Bool, v1 = (Value.bool x3) ∧
 VIf (!x3) (
 VRet h2 (Value.iface 65 (Value.int .i64 (1 : Int))) post) (
 VRet h2 Value.nilIface post)

def f27_hint : Hint := .leaf

theorem f27_eq (p0_n : Int) (h0 : H) (post : Value → H → Prop) : exec Try.prog (bodyOf Try.f27) f27_hint (retQ Try.prog Try.f27 post) (F0 [(Value.int .i64 p0_n)]) h0 = f27_sem p0_n h0 post := by kernel_rfl

set_option maxRecDepth 20000 in
theorem f27_call (p0_n : Int) (h0 : H) (post : Value → H → Prop) (hx : f27_sem p0_n h0 post) : SemCall Try.prog 27 (List.toArray [(Value.int .i64 p0_n)]) h0 post :=
 sem_of_exec (g := f27_hint) mixed Try.func27 (bodyOf_eq (by kernel_rfl)) (by kernel_rfl) ((f27_eq p0_n h0 post).mpr hx)

/- latchgarth/core.Within -/
def f28_sem (p0_n : Int) (p1_low : Int) (p2_high : Int) (h0 : H) (post : Value → H → Prop) : Prop :=
 ∃ R1 : Bool → H → Prop, (
 VIf (decide (p0_n ≥ p1_low)) (
 (∃ h2, Gh h0 h2 ∧ R1 (decide (p0_n ≤ p2_high)) h2)) (
 (∃ h3, Gh h0 h3 ∧ R1 false h3))) ∧
 ∀ (_ : F) (x4 : Bool) (h5 : H), R1 x4 h5 →
 VRet h5 (Value.bool x4) post

def f28_hint : Hint := (.node .leaf (.node (.join [(6, .bool)] .leaf) .leaf))

theorem f28_eq (p0_n : Int) (p1_low : Int) (p2_high : Int) (h0 : H) (post : Value → H → Prop) : exec Try.prog (bodyOf Try.f28) f28_hint (retQ Try.prog Try.f28 post) (F0 [(Value.int .i64 p0_n), (Value.int .i64 p1_low), (Value.int .i64 p2_high)]) h0 = f28_sem p0_n p1_low p2_high h0 post := by kernel_rfl

set_option maxRecDepth 20000 in
theorem f28_call (p0_n : Int) (p1_low : Int) (p2_high : Int) (h0 : H) (post : Value → H → Prop) (hx : f28_sem p0_n p1_low p2_high h0 post) : SemCall Try.prog 28 (List.toArray [(Value.int .i64 p0_n), (Value.int .i64 p1_low), (Value.int .i64 p2_high)]) h0 post :=
 sem_of_exec (g := f28_hint) mixed Try.func28 (bodyOf_eq (by kernel_rfl)) (by kernel_rfl) ((f28_eq p0_n p1_low p2_high h0 post).mpr hx)

/- latchgarth/core.Cas[int] -/
def f29_sem (p0_word : Option Addr) (p1_old : Int) (p2_new : Int) (h0 : H) (post : Value → H → Prop) : Prop :=
 ∃ a1 : Addr, p0_word = some a1 ∧
 ∃ x2 : Int, H.rd h0 (Addr.add a1 0) (Value.int .i64 x2) ∧
 VIf (x2 != p1_old) (
 VRet h0 (Value.bool false) post) (
 ∃ a3 : Addr, p0_word = some a3 ∧
 H.wr h0 a3 ([(Value.int .i64 p2_new)]) fun h4 =>
 VRet h4 (Value.bool true) post)

def f29_hint : Hint := .leaf

theorem f29_eq (p0_word : Option Addr) (p1_old : Int) (p2_new : Int) (h0 : H) (post : Value → H → Prop) : exec Try.prog (bodyOf Try.f29) f29_hint (retQ Try.prog Try.f29 post) (F0 [(Value.pointer p0_word), (Value.int .i64 p1_old), (Value.int .i64 p2_new)]) h0 = f29_sem p0_word p1_old p2_new h0 post := by kernel_rfl

set_option maxRecDepth 20000 in
theorem f29_call (p0_word : Option Addr) (p1_old : Int) (p2_new : Int) (h0 : H) (post : Value → H → Prop) (hx : f29_sem p0_word p1_old p2_new h0 post) : SemCall Try.prog 29 (List.toArray [(Value.pointer p0_word), (Value.int .i64 p1_old), (Value.int .i64 p2_new)]) h0 post :=
 sem_of_exec (g := f29_hint) mixed Try.func29 (bodyOf_eq (by kernel_rfl)) (by kernel_rfl) ((f29_eq p0_word p1_old p2_new h0 post).mpr hx)

/- (*latchgarth/comb.Comb).combine -/
def f30_L1 (x45_s : Addr) (x48 : Int) (x49 : Int) (x50 : Int) (x51 : Int) (x52 : Int) (x53 : Int) (x54 : Int) (x55 : Int) (R56 : H → Prop) (I57 : Nat → Int → H → Prop) (n58 : Nat) (x61 : Int) (h62 : H) : Prop :=
 VIf (decide (x61 < (4 : Int))) (
 0 ≤ x61 ∧ x61 < ((4 : Nat) : Int) ∧
 ∃ x63 : Int, ([(Value.int .i64 x48), (Value.int .i64 x49), (Value.int .i64 x50), (Value.int .i64 x51), (Value.int .i64 x52), (Value.int .i64 x53), (Value.int .i64 x54), (Value.int .i64 x55)])[(x61).toNat * 2 + 0]? = some (Value.int .i64 x63) ∧
 ∃ x64 : Int, ([(Value.int .i64 x48), (Value.int .i64 x49), (Value.int .i64 x50), (Value.int .i64 x51), (Value.int .i64 x52), (Value.int .i64 x53), (Value.int .i64 x54), (Value.int .i64 x55)])[(x61).toNat * 2 + 1]? = some (Value.int .i64 x64) ∧
 H.new h62 [(Value.int .i64 0), (Value.int .i64 0)] fun r65 h66 =>
 ([(Value.int .i64 x63), (Value.int .i64 x64)]).length = 2 ∧ (Program.underlying Go.Proofs.Try.prog 58).isSome = true ∧
 H.wr h66 (Addr.mk r65 0 none) ([(Value.int .i64 x63), (Value.int .i64 x64)]) fun h67 =>
 ∃ x68 : Int, H.rd h67 (Addr.add (Addr.add (Addr.mk r65 0 none) 1) 0) (Value.int .i64 x68) ∧
 0 ≤ x61 ∧ x61 < ((4 : Nat) : Int) ∧
 ∃ x69 : Int, H.rd h67 (Addr.add (Addr.add (Addr.add x45_s 1) ((x61).toNat * 1)) 0) (Value.int .i64 x69) ∧
 In64 (x69 + (1 : Int)) ∧
 VIf (x68 == (x69 + (1 : Int))) (
 ∃ x70 : Int, H.rd h67 (Addr.add (Addr.add x45_s 0) 0) (Value.int .i64 x70) ∧
 0 ≤ x61 ∧ x61 < ((4 : Nat) : Int) ∧
 H.wr h67 (Addr.add (Addr.add x45_s 5) ((x61).toNat * 1)) ([(Value.int .i64 x70)]) fun h71 =>
 ∃ x72 : Int, H.rd h71 (Addr.add (Addr.add x45_s 0) 0) (Value.int .i64 x72) ∧
 ∃ x73 : Int, H.rd h71 (Addr.add (Addr.add (Addr.mk r65 0 none) 0) 0) (Value.int .i64 x73) ∧
 In64 (x72 + x73) ∧
 H.wr h71 (Addr.add x45_s 0) ([(Value.int .i64 (x72 + x73))]) fun h74 =>
 ∃ x75 : Int, H.rd h74 (Addr.add (Addr.add (Addr.mk r65 0 none) 1) 0) (Value.int .i64 x75) ∧
 0 ≤ x61 ∧ x61 < ((4 : Nat) : Int) ∧
 H.wr h74 (Addr.add (Addr.add x45_s 1) ((x61).toNat * 1)) ([(Value.int .i64 x75)]) fun h76 =>
 In64 (x61 + (1 : Int)) ∧
 ∃ m59, m59 < n58 ∧ (∃ h77, Gh h76 h77 ∧ I57 m59 (x61 + (1 : Int)) h77)) (
 In64 (x61 + (1 : Int)) ∧
 ∃ m59, m59 < n58 ∧ (∃ h78, Gh h67 h78 ∧ I57 m59 (x61 + (1 : Int)) h78))) (
 (∃ h79, Gh h62 h79 ∧ R56 h79))

def f30_J2 (p0_c : Option Addr) (post : Value → H → Prop) (x45_s : Addr) (h80 : H) : Prop :=
 ∃ a81 : Addr, p0_c = some a81 ∧
 ∃ x82 : Int, H.rd h80 (Addr.add (Addr.add a81 37) 0) (Value.int .i64 x82) ∧
 In64 ((1 : Int) - x82) ∧
 ∃ x83 : Int, H.rd h80 (Addr.add x45_s 0) (Value.int .i64 x83) ∧
 ∃ x84 : Int, H.rd h80 (Addr.add x45_s 1) (Value.int .i64 x84) ∧
 ∃ x85 : Int, H.rd h80 (Addr.add x45_s 2) (Value.int .i64 x85) ∧
 ∃ x86 : Int, H.rd h80 (Addr.add x45_s 3) (Value.int .i64 x86) ∧
 ∃ x87 : Int, H.rd h80 (Addr.add x45_s 4) (Value.int .i64 x87) ∧
 ∃ x88 : Int, H.rd h80 (Addr.add x45_s 5) (Value.int .i64 x88) ∧
 ∃ x89 : Int, H.rd h80 (Addr.add x45_s 6) (Value.int .i64 x89) ∧
 ∃ x90 : Int, H.rd h80 (Addr.add x45_s 7) (Value.int .i64 x90) ∧
 ∃ x91 : Int, H.rd h80 (Addr.add x45_s 8) (Value.int .i64 x91) ∧
 ∃ a92 : Addr, p0_c = some a92 ∧
 0 ≤ ((1 : Int) - x82) ∧ ((1 : Int) - x82) < ((2 : Nat) : Int) ∧
 ([(Value.int .i64 x83), (Value.int .i64 x84), (Value.int .i64 x85), (Value.int .i64 x86), (Value.int .i64 x87), (Value.int .i64 x88), (Value.int .i64 x89), (Value.int .i64 x90), (Value.int .i64 x91)]).length = 9 ∧ (Program.underlying Go.Proofs.Try.prog 55).isSome = true ∧
 H.wr h80 (Addr.add (Addr.add a92 1) ((((1 : Int) - x82)).toNat * 9)) ([(Value.int .i64 x83), (Value.int .i64 x84), (Value.int .i64 x85), (Value.int .i64 x86), (Value.int .i64 x87), (Value.int .i64 x88), (Value.int .i64 x89), (Value.int .i64 x90), (Value.int .i64 x91)]) fun h93 =>
 VRet h93 (Value.tuple (List.toArray [])) post

def f30_J3 (p0_c : Option Addr) (post : Value → H → Prop) (x45_s : Addr) (h46 : H) : Prop :=
 ∃ a47 : Addr, p0_c = some a47 ∧
 ∃ x48 : Int, H.rd h46 (Addr.add (Addr.add a47 39) 0) (Value.int .i64 x48) ∧
 ∃ x49 : Int, H.rd h46 (Addr.add (Addr.add a47 39) 1) (Value.int .i64 x49) ∧
 ∃ x50 : Int, H.rd h46 (Addr.add (Addr.add a47 39) 2) (Value.int .i64 x50) ∧
 ∃ x51 : Int, H.rd h46 (Addr.add (Addr.add a47 39) 3) (Value.int .i64 x51) ∧
 ∃ x52 : Int, H.rd h46 (Addr.add (Addr.add a47 39) 4) (Value.int .i64 x52) ∧
 ∃ x53 : Int, H.rd h46 (Addr.add (Addr.add a47 39) 5) (Value.int .i64 x53) ∧
 ∃ x54 : Int, H.rd h46 (Addr.add (Addr.add a47 39) 6) (Value.int .i64 x54) ∧
 ∃ x55 : Int, H.rd h46 (Addr.add (Addr.add a47 39) 7) (Value.int .i64 x55) ∧
 ∃ R56 : H → Prop, (
 ∃ I57 : Nat → Int → H → Prop, (∃ n58, (∃ h60, Gh h46 h60 ∧ I57 n58 (0 : Int) h60)) ∧
 ∀ (n58 : Nat) (_ : F) (x61 : Int) (h62 : H), I57 n58 x61 h62 →
 f30_L1 x45_s x48 x49 x50 x51 x52 x53 x54 x55 R56 I57 n58 x61 h62) ∧
 ∀ (_ : F) (h80 : H), R56 h80 →
 f30_J2 p0_c post x45_s h80

def f30_sem (p0_c : Option Addr) (h0 : H) (post : Value → H → Prop) : Prop :=
 ∃ R1 : Addr → H → Prop, (
 ∃ a2 : Addr, p0_c = some a2 ∧
 ∃ a3 : Addr, p0_c = some a3 ∧
 (
 ∃ x4 : Int, H.rd h0 (Addr.add (Addr.add a2 37) 0) (Value.int .i64 x4) ∧
 0 ≤ x4 ∧ x4 < ((2 : Nat) : Int) ∧
 (
 ∃ x5 : Int, H.rd h0 (Addr.add (Addr.add (Addr.add a3 1) ((x4).toNat * 9)) 0) (Value.int .i64 x5) ∧
 ∃ x6 : Int, H.rd h0 (Addr.add (Addr.add (Addr.add a3 1) ((x4).toNat * 9)) 1) (Value.int .i64 x6) ∧
 ∃ x7 : Int, H.rd h0 (Addr.add (Addr.add (Addr.add a3 1) ((x4).toNat * 9)) 2) (Value.int .i64 x7) ∧
 ∃ x8 : Int, H.rd h0 (Addr.add (Addr.add (Addr.add a3 1) ((x4).toNat * 9)) 3) (Value.int .i64 x8) ∧
 ∃ x9 : Int, H.rd h0 (Addr.add (Addr.add (Addr.add a3 1) ((x4).toNat * 9)) 4) (Value.int .i64 x9) ∧
 ∃ x10 : Int, H.rd h0 (Addr.add (Addr.add (Addr.add a3 1) ((x4).toNat * 9)) 5) (Value.int .i64 x10) ∧
 ∃ x11 : Int, H.rd h0 (Addr.add (Addr.add (Addr.add a3 1) ((x4).toNat * 9)) 6) (Value.int .i64 x11) ∧
 ∃ x12 : Int, H.rd h0 (Addr.add (Addr.add (Addr.add a3 1) ((x4).toNat * 9)) 7) (Value.int .i64 x12) ∧
 ∃ x13 : Int, H.rd h0 (Addr.add (Addr.add (Addr.add a3 1) ((x4).toNat * 9)) 8) (Value.int .i64 x13) ∧
 H.new h0 [(Value.int .i64 0), (Value.int .i64 0), (Value.int .i64 0), (Value.int .i64 0), (Value.int .i64 0), (Value.int .i64 0), (Value.int .i64 0), (Value.int .i64 0), (Value.int .i64 0)] fun r14 h15 =>
 ([(Value.int .i64 x5), (Value.int .i64 x6), (Value.int .i64 x7), (Value.int .i64 x8), (Value.int .i64 x9), (Value.int .i64 x10), (Value.int .i64 x11), (Value.int .i64 x12), (Value.int .i64 x13)]).length = 9 ∧ (Program.underlying Go.Proofs.Try.prog 55).isSome = true ∧
 H.wr h15 (Addr.mk r14 0 none) ([(Value.int .i64 x5), (Value.int .i64 x6), (Value.int .i64 x7), (Value.int .i64 x8), (Value.int .i64 x9), (Value.int .i64 x10), (Value.int .i64 x11), (Value.int .i64 x12), (Value.int .i64 x13)]) fun h16 =>
 (∃ h17, Gh h16 h17 ∧ R1 (Addr.mk r14 0 none) h17)) ∧
 (
 H.new h0 [(Value.int .i64 0), (Value.int .i64 0), (Value.int .i64 0), (Value.int .i64 0), (Value.int .i64 0), (Value.int .i64 0), (Value.int .i64 0), (Value.int .i64 0), (Value.int .i64 0)] fun r18 h19 =>
 ∃ x20 : Int, H.rd h19 (Addr.add (Addr.add (Addr.add a3 1) ((x4).toNat * 9)) 0) (Value.int .i64 x20) ∧
 ∃ x21 : Int, H.rd h19 (Addr.add (Addr.add (Addr.add a3 1) ((x4).toNat * 9)) 1) (Value.int .i64 x21) ∧
 ∃ x22 : Int, H.rd h19 (Addr.add (Addr.add (Addr.add a3 1) ((x4).toNat * 9)) 2) (Value.int .i64 x22) ∧
 ∃ x23 : Int, H.rd h19 (Addr.add (Addr.add (Addr.add a3 1) ((x4).toNat * 9)) 3) (Value.int .i64 x23) ∧
 ∃ x24 : Int, H.rd h19 (Addr.add (Addr.add (Addr.add a3 1) ((x4).toNat * 9)) 4) (Value.int .i64 x24) ∧
 ∃ x25 : Int, H.rd h19 (Addr.add (Addr.add (Addr.add a3 1) ((x4).toNat * 9)) 5) (Value.int .i64 x25) ∧
 ∃ x26 : Int, H.rd h19 (Addr.add (Addr.add (Addr.add a3 1) ((x4).toNat * 9)) 6) (Value.int .i64 x26) ∧
 ∃ x27 : Int, H.rd h19 (Addr.add (Addr.add (Addr.add a3 1) ((x4).toNat * 9)) 7) (Value.int .i64 x27) ∧
 ∃ x28 : Int, H.rd h19 (Addr.add (Addr.add (Addr.add a3 1) ((x4).toNat * 9)) 8) (Value.int .i64 x28) ∧
 ([(Value.int .i64 x20), (Value.int .i64 x21), (Value.int .i64 x22), (Value.int .i64 x23), (Value.int .i64 x24), (Value.int .i64 x25), (Value.int .i64 x26), (Value.int .i64 x27), (Value.int .i64 x28)]).length = 9 ∧ (Program.underlying Go.Proofs.Try.prog 55).isSome = true ∧
 H.wr h19 (Addr.mk r18 0 none) ([(Value.int .i64 x20), (Value.int .i64 x21), (Value.int .i64 x22), (Value.int .i64 x23), (Value.int .i64 x24), (Value.int .i64 x25), (Value.int .i64 x26), (Value.int .i64 x27), (Value.int .i64 x28)]) fun h29 =>
 (∃ h30, Gh h29 h30 ∧ R1 (Addr.mk r18 0 none) h30))) ∧
 (
 H.new h0 [(Value.int .i64 0), (Value.int .i64 0), (Value.int .i64 0), (Value.int .i64 0), (Value.int .i64 0), (Value.int .i64 0), (Value.int .i64 0), (Value.int .i64 0), (Value.int .i64 0)] fun r31 h32 =>
 ∃ x33 : Int, H.rd h32 (Addr.add (Addr.add a2 37) 0) (Value.int .i64 x33) ∧
 0 ≤ x33 ∧ x33 < ((2 : Nat) : Int) ∧
 ∃ x34 : Int, H.rd h32 (Addr.add (Addr.add (Addr.add a3 1) ((x33).toNat * 9)) 0) (Value.int .i64 x34) ∧
 ∃ x35 : Int, H.rd h32 (Addr.add (Addr.add (Addr.add a3 1) ((x33).toNat * 9)) 1) (Value.int .i64 x35) ∧
 ∃ x36 : Int, H.rd h32 (Addr.add (Addr.add (Addr.add a3 1) ((x33).toNat * 9)) 2) (Value.int .i64 x36) ∧
 ∃ x37 : Int, H.rd h32 (Addr.add (Addr.add (Addr.add a3 1) ((x33).toNat * 9)) 3) (Value.int .i64 x37) ∧
 ∃ x38 : Int, H.rd h32 (Addr.add (Addr.add (Addr.add a3 1) ((x33).toNat * 9)) 4) (Value.int .i64 x38) ∧
 ∃ x39 : Int, H.rd h32 (Addr.add (Addr.add (Addr.add a3 1) ((x33).toNat * 9)) 5) (Value.int .i64 x39) ∧
 ∃ x40 : Int, H.rd h32 (Addr.add (Addr.add (Addr.add a3 1) ((x33).toNat * 9)) 6) (Value.int .i64 x40) ∧
 ∃ x41 : Int, H.rd h32 (Addr.add (Addr.add (Addr.add a3 1) ((x33).toNat * 9)) 7) (Value.int .i64 x41) ∧
 ∃ x42 : Int, H.rd h32 (Addr.add (Addr.add (Addr.add a3 1) ((x33).toNat * 9)) 8) (Value.int .i64 x42) ∧
 ([(Value.int .i64 x34), (Value.int .i64 x35), (Value.int .i64 x36), (Value.int .i64 x37), (Value.int .i64 x38), (Value.int .i64 x39), (Value.int .i64 x40), (Value.int .i64 x41), (Value.int .i64 x42)]).length = 9 ∧ (Program.underlying Go.Proofs.Try.prog 55).isSome = true ∧
 H.wr h32 (Addr.mk r31 0 none) ([(Value.int .i64 x34), (Value.int .i64 x35), (Value.int .i64 x36), (Value.int .i64 x37), (Value.int .i64 x38), (Value.int .i64 x39), (Value.int .i64 x40), (Value.int .i64 x41), (Value.int .i64 x42)]) fun h43 =>
 (∃ h44, Gh h43 h44 ∧ R1 (Addr.mk r31 0 none) h44))) ∧
 ∀ (_ : F) (x45_s : Addr) (h46 : H), R1 x45_s h46 →
 f30_J3 p0_c post x45_s h46

def f30_hint : Hint := (.node (.join [(2, .addr)] .any) (.node (.node .leaf (.join [] (.node (.loop [(18, .int)] .leaf) .leaf))) (.tail 10)))

theorem f30_eq (p0_c : Option Addr) (h0 : H) (post : Value → H → Prop) : exec Try.prog (bodyOf Try.f30) f30_hint (retQ Try.prog Try.f30 post) (F0 [(Value.pointer p0_c)]) h0 = f30_sem p0_c h0 post := by kernel_rfl

set_option maxRecDepth 20000 in
theorem f30_call (p0_c : Option Addr) (h0 : H) (post : Value → H → Prop) (hx : f30_sem p0_c h0 post) : SemCall Try.prog 30 (List.toArray [(Value.pointer p0_c)]) h0 post :=
 sem_of_exec (g := f30_hint) mixed Try.func30 (bodyOf_eq (by kernel_rfl)) (by kernel_rfl) ((f30_eq p0_c h0 post).mpr hx)

/- slices.Clone[[]int,int] -/
def f33_sem (p0_s : SV) (h0 : H) (post : Value → H → Prop) : Prop :=
 VIf (Option.isNone p0_s.a) (
 VRet h0 (Value.slice none 0 0) post) (
 H.new h0 [] fun r1 h2 =>
 appVC Go.Proofs.Try.prog 29 (Value.slice (some (Addr.mk r1 0 none)) 0 0) (Value.slice p0_s.a p0_s.len p0_s.cap) h2 fun x3 h4 =>
 VRet h4 (Value.slice x3.a x3.len x3.cap) post)

def f33_hint : Hint := .leaf

theorem f33_eq (p0_s : SV) (h0 : H) (post : Value → H → Prop) : exec Try.prog (bodyOf Try.f33) f33_hint (retQ Try.prog Try.f33 post) (F0 [(Value.slice p0_s.a p0_s.len p0_s.cap)]) h0 = f33_sem p0_s h0 post := by kernel_rfl

set_option maxRecDepth 20000 in
theorem f33_call (p0_s : SV) (h0 : H) (post : Value → H → Prop) (hx : f33_sem p0_s h0 post) : SemCall Try.prog 33 (List.toArray [(Value.slice p0_s.a p0_s.len p0_s.cap)]) h0 post :=
 sem_of_exec (g := f33_hint) mixed Try.func33 (bodyOf_eq (by kernel_rfl)) (by kernel_rfl) ((f33_eq p0_s h0 post).mpr hx)

/- latchgarth/latchgarthsame.Ints -/
def f34_L1 (p0_a : SV) (p1_b : SV) (post : Value → H → Prop) (R1 : H → Prop) (I2 : Nat → Int → H → Prop) (n3 : Nat) (x6_i : Int) (h7 : H) : Prop :=
 VIf (decide (x6_i < ((p0_a.len : Nat) : Int))) (
 ∃ b8 : Addr, p0_a.a = some b8 ∧ 0 ≤ x6_i ∧ x6_i < ((p0_a.len : Nat) : Int) ∧
 ∃ x9 : Int, H.rd h7 (Addr.add (Addr.add b8 ((x6_i).toNat * 1)) 0) (Value.int .i64 x9) ∧
 ∃ b10 : Addr, p1_b.a = some b10 ∧ 0 ≤ x6_i ∧ x6_i < ((p1_b.len : Nat) : Int) ∧
 ∃ x11 : Int, H.rd h7 (Addr.add (Addr.add b10 ((x6_i).toNat * 1)) 0) (Value.int .i64 x11) ∧
 VIf (x9 != x11) (
 VRet h7 (Value.bool false) post) (
 In64 (x6_i + (1 : Int)) ∧
 ∃ m4, m4 < n3 ∧ (∃ h12, Gh h7 h12 ∧ I2 m4 (x6_i + (1 : Int)) h12))) (
 (∃ h13, Gh h7 h13 ∧ R1 h13))

def f34_sem (p0_a : SV) (p1_b : SV) (h0 : H) (post : Value → H → Prop) : Prop :=
 VIf (((p0_a.len : Nat) : Int) != ((p1_b.len : Nat) : Int)) (
 VRet h0 (Value.bool false) post) (
 ∃ R1 : H → Prop, (
 ∃ I2 : Nat → Int → H → Prop, (∃ n3, (∃ h5, Gh h0 h5 ∧ I2 n3 (0 : Int) h5)) ∧
 ∀ (n3 : Nat) (_ : F) (x6_i : Int) (h7 : H), I2 n3 x6_i h7 →
 f34_L1 p0_a p1_b post R1 I2 n3 x6_i h7) ∧
 ∀ (_ : F) (h14 : H), R1 h14 →
 VRet h14 (Value.bool true) post)

def f34_hint : Hint := (.node .leaf (.node .leaf (.node (.node .leaf (.join [] (.node (.loop [(5, .int)] .leaf) .leaf))) .leaf)))

theorem f34_eq (p0_a : SV) (p1_b : SV) (h0 : H) (post : Value → H → Prop) : exec Try.prog (bodyOf Try.f34) f34_hint (retQ Try.prog Try.f34 post) (F0 [(Value.slice p0_a.a p0_a.len p0_a.cap), (Value.slice p1_b.a p1_b.len p1_b.cap)]) h0 = f34_sem p0_a p1_b h0 post := by kernel_rfl

set_option maxRecDepth 20000 in
theorem f34_call (p0_a : SV) (p1_b : SV) (h0 : H) (post : Value → H → Prop) (hx : f34_sem p0_a p1_b h0 post) : SemCall Try.prog 34 (List.toArray [(Value.slice p0_a.a p0_a.len p0_a.cap), (Value.slice p1_b.a p1_b.len p1_b.cap)]) h0 post :=
 sem_of_exec (g := f34_hint) mixed Try.func34 (bodyOf_eq (by kernel_rfl)) (by kernel_rfl) ((f34_eq p0_a p1_b h0 post).mpr hx)

/- latchgarth/core.Has -/
def f35_sem (p0_set : Int) (p1_i : Int) (h0 : H) (post : Value → H → Prop) : Prop :=
 0 ≤ p1_i ∧ p1_i ≤ 63 ∧
 VRet h0 (Value.bool ((bitsV .and (Int.fdiv p0_set (2 ^ (p1_i).toNat)) (1 : Int)) == (1 : Int))) post

def f35_hint : Hint := .leaf

theorem f35_eq (p0_set : Int) (p1_i : Int) (h0 : H) (post : Value → H → Prop) : exec Try.prog (bodyOf Try.f35) f35_hint (retQ Try.prog Try.f35 post) (F0 [(Value.int .i64 p0_set), (Value.int .i64 p1_i)]) h0 = f35_sem p0_set p1_i h0 post := by kernel_rfl

set_option maxRecDepth 20000 in
theorem f35_call (p0_set : Int) (p1_i : Int) (h0 : H) (post : Value → H → Prop) (hx : f35_sem p0_set p1_i h0 post) : SemCall Try.prog 35 (List.toArray [(Value.int .i64 p0_set), (Value.int .i64 p1_i)]) h0 post :=
 sem_of_exec (g := f35_hint) mixed Try.func35 (bodyOf_eq (by kernel_rfl)) (by kernel_rfl) ((f35_eq p0_set p1_i h0 post).mpr hx)

end Go.Proofs.Ytockhbbpcbcenaa
