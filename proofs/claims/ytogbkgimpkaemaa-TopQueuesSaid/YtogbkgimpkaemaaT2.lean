import Derived.Test.YtogbkgimpkaemaaEngG
import Derived.Test.YtogbkgimpkaemaaRows
import Derived.Test.YtogbkgimpkaemaaT
namespace Go.Proofs.Ytogbkgimpkaemaa
open Go.Eng
/- latchgarth/latchgarthtop.TopQueues -/
def f3_L1 (post : Value → H → Prop) (x3 : Option Addr) (R55 : Bool → H → Prop) (I56 : Nat → Bool → Int → H → Prop) (n57 : Nat) (x60_done : Bool) (x61_k : Int) (h62 : H) : Prop :=
 ∃ R63 : Bool → H → Prop, (
 VIf (decide (x61_k < (8 : Int))) (
 (∃ h64, Gh h62 h64 ∧ R63 (!x60_done) h64)) (
 (∃ h65, Gh h62 h65 ∧ R63 false h65))) ∧
 ∀ (_ : F) (x66 : Bool) (h67 : H), R63 x66 h67 →
 VIf x66 (
 SemCall Go.Proofs.Try.prog 11 (List.toArray [(Value.pointer x3), (Value.int .i64 0)]) h67 fun v68 h69 =>
 ∃ x70 : Bool, ∃ x71 : Int, ∃ x72 : Option (TypeId × Value), v68 = (Value.tuple (List.toArray [(Value.bool x70), (Value.int .i64 x71), (errV x72)])) ∧
 isIfaceV (errV x72) = true ∧
 VIf (!(isNilV (errV x72))) (
 VRet h69 (Value.bool false) post) (
 In64 (x61_k + (1 : Int)) ∧
 ∃ m58, m58 < n57 ∧ (∃ h73, Gh h69 h73 ∧ I56 m58 x70 (x61_k + (1 : Int)) h73))) (
 (∃ h74, Gh h67 h74 ∧ R55 x60_done h74))

def f3_J2 (post : Value → H → Prop) (x7 : Option Addr) (R77 : Bool → H → Prop) (I78 : Nat → Bool → Int → H → Prop) (n79 : Nat) (x82_also : Bool) (x83_k : Int) (x88 : Bool) (h89 : H) : Prop :=
 VIf x88 (
 SemCall Go.Proofs.Try.prog 12 (List.toArray [(Value.pointer x7)]) h89 fun v90 h91 =>
 ∃ x92 : Bool, ∃ x93 : Bool, ∃ x94 : Option (TypeId × Value), v90 = (Value.tuple (List.toArray [(Value.bool x92), (Value.bool x93), (errV x94)])) ∧
 isIfaceV (errV x94) = true ∧
 VIf (!(isNilV (errV x94))) (
 VRet h91 (Value.bool false) post) (
 ∃ R95 : Bool → H → Prop, (
 VIf x92 (
 (∃ h96, Gh h91 h96 ∧ R95 x93 h96)) (
 (∃ h97, Gh h91 h97 ∧ R95 false h97))) ∧
 ∀ (_ : F) (x98_also : Bool) (h99 : H), R95 x98_also h99 →
 In64 (x83_k + (1 : Int)) ∧
 ∃ m80, m80 < n79 ∧ (∃ h100, Gh h99 h100 ∧ I78 m80 x98_also (x83_k + (1 : Int)) h100))) (
 (∃ h101, Gh h89 h101 ∧ R77 x82_also h101))

def f3_L3 (post : Value → H → Prop) (x7 : Option Addr) (R77 : Bool → H → Prop) (I78 : Nat → Bool → Int → H → Prop) (n79 : Nat) (x82_also : Bool) (x83_k : Int) (h84 : H) : Prop :=
 ∃ R85 : Bool → H → Prop, (
 VIf (decide (x83_k < (4 : Int))) (
 (∃ h86, Gh h84 h86 ∧ R85 (!x82_also) h86)) (
 (∃ h87, Gh h84 h87 ∧ R85 false h87))) ∧
 ∀ (_ : F) (x88 : Bool) (h89 : H), R85 x88 h89 →
 f3_J2 post x7 R77 I78 n79 x82_also x83_k x88 h89

def f3_J4 (post : Value → H → Prop) (x19_many : Int) (x20_puts : Int) (R28 : Int → Int → H → Prop) (x75_done : Bool) (x102_also : Bool) (h103 : H) : Prop :=
 ∃ R104 : Bool → H → Prop, (
 VIf (!x75_done) (
 (∃ h105, Gh h103 h105 ∧ R104 true h105)) (
 (∃ h106, Gh h103 h106 ∧ R104 (!x102_also) h106))) ∧
 ∀ (_ : F) (x107 : Bool) (h108 : H), R104 x107 h108 →
 VIf x107 (
 VRet h108 (Value.bool false) post) (
 In64 (x19_many + (1 : Int)) ∧
 In64 (x20_puts + (1 : Int)) ∧
 (∃ h109, Gh h108 h109 ∧ R28 (x19_many + (1 : Int)) (x20_puts + (1 : Int)) h109))

def f3_J5 (post : Value → H → Prop) (x3 : Option Addr) (x7 : Option Addr) (x19_many : Int) (x20_puts : Int) (R28 : Int → Int → H → Prop) (x53 : Bool) (h54 : H) : Prop :=
 VIf x53 (
 VRet h54 (Value.bool false) post) (
 ∃ R55 : Bool → H → Prop, (
 ∃ I56 : Nat → Bool → Int → H → Prop, (∃ n57, (∃ h59, Gh h54 h59 ∧ I56 n57 false (0 : Int) h59)) ∧
 ∀ (n57 : Nat) (_ : F) (x60_done : Bool) (x61_k : Int) (h62 : H), I56 n57 x60_done x61_k h62 →
 f3_L1 post x3 R55 I56 n57 x60_done x61_k h62) ∧
 ∀ (_ : F) (x75_done : Bool) (h76 : H), R55 x75_done h76 →
 ∃ R77 : Bool → H → Prop, (
 ∃ I78 : Nat → Bool → Int → H → Prop, (∃ n79, (∃ h81, Gh h76 h81 ∧ I78 n79 false (0 : Int) h81)) ∧
 ∀ (n79 : Nat) (_ : F) (x82_also : Bool) (x83_k : Int) (h84 : H), I78 n79 x82_also x83_k h84 →
 f3_L3 post x7 R77 I78 n79 x82_also x83_k h84) ∧
 ∀ (_ : F) (x102_also : Bool) (h103 : H), R77 x102_also h103 →
 f3_J4 post x19_many x20_puts R28 x75_done x102_also h103)

def f3_J6 (p0_kinds : SV) (post : Value → H → Prop) (x3 : Option Addr) (x7 : Option Addr) (x19_many : Int) (x20_puts : Int) (x21_i : Int) (R28 : Int → Int → H → Prop) (x37 : Bool) (h38 : H) : Prop :=
 VIf x37 (
 (∃ h39, Gh h38 h39 ∧ R28 x19_many x20_puts h39)) (
 ∃ R40 : Bool → H → Prop, (
 ∃ b41 : Addr, p0_kinds.a = some b41 ∧ 0 ≤ x21_i ∧ x21_i < ((p0_kinds.len : Nat) : Int) ∧
 ∃ x42 : Int, H.rd h38 (Addr.add (Addr.add b41 ((x21_i).toNat * 1)) 0) (Value.int .i64 x42) ∧
 SemCall Go.Proofs.Try.prog 9 (List.toArray [(Value.pointer x3), (Value.int .i64 0), (Value.int .i64 x42)]) h38 fun v43 h44 =>
 ∃ x45 : Option (TypeId × Value), v43 = (errV x45) ∧
 isIfaceV (errV x45) = true ∧
 VIf (!(isNilV (errV x45))) (
 (∃ h46, Gh h44 h46 ∧ R40 true h46)) (
 ∃ b47 : Addr, p0_kinds.a = some b47 ∧ 0 ≤ x21_i ∧ x21_i < ((p0_kinds.len : Nat) : Int) ∧
 ∃ x48 : Int, H.rd h44 (Addr.add (Addr.add b47 ((x21_i).toNat * 1)) 0) (Value.int .i64 x48) ∧
 SemCall Go.Proofs.Try.prog 10 (List.toArray [(Value.pointer x7), (Value.int .i64 x48)]) h44 fun v49 h50 =>
 ∃ x51 : Option (TypeId × Value), v49 = (errV x51) ∧
 isIfaceV (errV x51) = true ∧
 (∃ h52, Gh h50 h52 ∧ R40 (!(isNilV (errV x51))) h52))) ∧
 ∀ (_ : F) (x53 : Bool) (h54 : H), R40 x53 h54 →
 f3_J5 post x3 x7 x19_many x20_puts R28 x53 h54)

def f3_J7 (post : Value → H → Prop) (x3 : Option Addr) (R121 : Int → H → Prop) (I122 : Nat → Int → Int → H → Prop) (n123 : Nat) (x126_x : Int) (x127_k : Int) (x132 : Bool) (h133 : H) : Prop :=
 VIf x132 (
 SemCall Go.Proofs.Try.prog 11 (List.toArray [(Value.pointer x3), (Value.int .i64 0)]) h133 fun v134 h135 =>
 ∃ x136 : Bool, ∃ x137 : Int, ∃ x138 : Option (TypeId × Value), v134 = (Value.tuple (List.toArray [(Value.bool x136), (Value.int .i64 x137), (errV x138)])) ∧
 isIfaceV (errV x138) = true ∧
 VIf (!(isNilV (errV x138))) (
 VRet h135 (Value.bool false) post) (
 VIf x136 (
 In64 (x127_k + (1 : Int)) ∧
 ∃ m124, m124 < n123 ∧ (∃ h139, Gh h135 h139 ∧ I122 m124 x137 (x127_k + (1 : Int)) h139)) (
 In64 (x127_k + (1 : Int)) ∧
 ∃ m124, m124 < n123 ∧ (∃ h140, Gh h135 h140 ∧ I122 m124 x126_x (x127_k + (1 : Int)) h140)))) (
 (∃ h141, Gh h133 h141 ∧ R121 x126_x h141))

def f3_L8 (post : Value → H → Prop) (x3 : Option Addr) (R121 : Int → H → Prop) (I122 : Nat → Int → Int → H → Prop) (n123 : Nat) (x126_x : Int) (x127_k : Int) (h128 : H) : Prop :=
 ∃ R129 : Bool → H → Prop, (
 VIf (decide (x127_k < (8 : Int))) (
 (∃ h130, Gh h128 h130 ∧ R129 (x126_x == (-2 : Int)) h130)) (
 (∃ h131, Gh h128 h131 ∧ R129 false h131))) ∧
 ∀ (_ : F) (x132 : Bool) (h133 : H), R129 x132 h133 →
 f3_J7 post x3 R121 I122 n123 x126_x x127_k x132 h133

def f3_J9 (post : Value → H → Prop) (x7 : Option Addr) (R144 : Int → H → Prop) (I145 : Nat → Int → Int → H → Prop) (n146 : Nat) (x149_y : Int) (x150_k : Int) (x155 : Bool) (h156 : H) : Prop :=
 VIf x155 (
 SemCall Go.Proofs.Try.prog 15 (List.toArray [(Value.pointer x7)]) h156 fun v157 h158 =>
 ∃ x159 : Bool, ∃ x160 : Int, ∃ x161 : Option (TypeId × Value), v157 = (Value.tuple (List.toArray [(Value.bool x159), (Value.int .i64 x160), (errV x161)])) ∧
 isIfaceV (errV x161) = true ∧
 VIf (!(isNilV (errV x161))) (
 VRet h158 (Value.bool false) post) (
 VIf x159 (
 In64 (x150_k + (1 : Int)) ∧
 ∃ m147, m147 < n146 ∧ (∃ h162, Gh h158 h162 ∧ I145 m147 x160 (x150_k + (1 : Int)) h162)) (
 In64 (x150_k + (1 : Int)) ∧
 ∃ m147, m147 < n146 ∧ (∃ h163, Gh h158 h163 ∧ I145 m147 x149_y (x150_k + (1 : Int)) h163)))) (
 (∃ h164, Gh h156 h164 ∧ R144 x149_y h164))

def f3_L10 (post : Value → H → Prop) (x7 : Option Addr) (R144 : Int → H → Prop) (I145 : Nat → Int → Int → H → Prop) (n146 : Nat) (x149_y : Int) (x150_k : Int) (h151 : H) : Prop :=
 ∃ R152 : Bool → H → Prop, (
 VIf (decide (x150_k < (4 : Int))) (
 (∃ h153, Gh h151 h153 ∧ R152 (x149_y == (-2 : Int)) h153)) (
 (∃ h154, Gh h151 h154 ∧ R152 false h154))) ∧
 ∀ (_ : F) (x155 : Bool) (h156 : H), R152 x155 h156 →
 f3_J9 post x7 R144 I145 n146 x149_y x150_k x155 h156

def f3_J11 (post : Value → H → Prop) (x19_many : Int) (x20_puts : Int) (R28 : Int → Int → H → Prop) (x142_x : Int) (x165_y : Int) (h166 : H) : Prop :=
 ∃ R167 : Bool → H → Prop, (
 VIf (x142_x != x165_y) (
 (∃ h168, Gh h166 h168 ∧ R167 true h168)) (
 VIf (x142_x == (-2 : Int)) (
 (∃ h169, Gh h166 h169 ∧ R167 true h169)) (
 (∃ h170, Gh h166 h170 ∧ R167 (!((x142_x == (-1 : Int)) == (x19_many == (0 : Int)))) h170)))) ∧
 ∀ (_ : F) (x171 : Bool) (h172 : H), R167 x171 h172 →
 VIf x171 (
 VRet h172 (Value.bool false) post) (
 VIf (decide (x19_many > (0 : Int))) (
 In64 (x19_many - (1 : Int)) ∧
 (∃ h173, Gh h172 h173 ∧ R28 (x19_many - (1 : Int)) x20_puts h173)) (
 (∃ h174, Gh h172 h174 ∧ R28 x19_many x20_puts h174)))

def f3_J12 (post : Value → H → Prop) (x3 : Option Addr) (x7 : Option Addr) (x19_many : Int) (x20_puts : Int) (R28 : Int → Int → H → Prop) (x119 : Bool) (h120 : H) : Prop :=
 VIf x119 (
 VRet h120 (Value.bool false) post) (
 ∃ R121 : Int → H → Prop, (
 ∃ I122 : Nat → Int → Int → H → Prop, (∃ n123, (∃ h125, Gh h120 h125 ∧ I122 n123 (-2 : Int) (0 : Int) h125)) ∧
 ∀ (n123 : Nat) (_ : F) (x126_x : Int) (x127_k : Int) (h128 : H), I122 n123 x126_x x127_k h128 →
 f3_L8 post x3 R121 I122 n123 x126_x x127_k h128) ∧
 ∀ (_ : F) (x142_x : Int) (h143 : H), R121 x142_x h143 →
 ∃ R144 : Int → H → Prop, (
 ∃ I145 : Nat → Int → Int → H → Prop, (∃ n146, (∃ h148, Gh h143 h148 ∧ I145 n146 (-2 : Int) (0 : Int) h148)) ∧
 ∀ (n146 : Nat) (_ : F) (x149_y : Int) (x150_k : Int) (h151 : H), I145 n146 x149_y x150_k h151 →
 f3_L10 post x7 R144 I145 n146 x149_y x150_k h151) ∧
 ∀ (_ : F) (x165_y : Int) (h166 : H), R144 x165_y h166 →
 f3_J11 post x19_many x20_puts R28 x142_x x165_y h166)

def f3_J13 (p0_kinds : SV) (post : Value → H → Prop) (x3 : Option Addr) (x7 : Option Addr) (R14 : H → Prop) (I15 : Nat → Int → Int → Int → H → Prop) (n16 : Nat) (x19_many : Int) (x20_puts : Int) (x21_i : Int) (x26 : Bool) (h27 : H) : Prop :=
 VIf x26 (
 ∃ R28 : Int → Int → H → Prop, (
 ∃ b29 : Addr, p0_kinds.a = some b29 ∧ 0 ≤ x21_i ∧ x21_i < ((p0_kinds.len : Nat) : Int) ∧
 ∃ x30 : Int, H.rd h27 (Addr.add (Addr.add b29 ((x21_i).toNat * 1)) 0) (Value.int .i64 x30) ∧
 VIf (decide (x30 ≥ (0 : Int))) (
 ∃ R31 : Bool → H → Prop, (
 VIf (x19_many == (8 : Int)) (
 (∃ h32, Gh h27 h32 ∧ R31 true h32)) (
 VIf (x20_puts == (39 : Int)) (
 (∃ h33, Gh h27 h33 ∧ R31 true h33)) (
 ∃ b34 : Addr, p0_kinds.a = some b34 ∧ 0 ≤ x21_i ∧ x21_i < ((p0_kinds.len : Nat) : Int) ∧
 ∃ x35 : Int, H.rd h27 (Addr.add (Addr.add b34 ((x21_i).toNat * 1)) 0) (Value.int .i64 x35) ∧
 (∃ h36, Gh h27 h36 ∧ R31 (decide (x35 > (1000 : Int))) h36)))) ∧
 ∀ (_ : F) (x37 : Bool) (h38 : H), R31 x37 h38 →
 f3_J6 p0_kinds post x3 x7 x19_many x20_puts x21_i R28 x37 h38) (
 ∃ R110 : Bool → H → Prop, (
 SemCall Go.Proofs.Try.prog 13 (List.toArray [(Value.pointer x3), (Value.int .i64 0)]) h27 fun v111 h112 =>
 ∃ x113 : Option (TypeId × Value), v111 = (errV x113) ∧
 isIfaceV (errV x113) = true ∧
 VIf (!(isNilV (errV x113))) (
 (∃ h114, Gh h112 h114 ∧ R110 true h114)) (
 SemCall Go.Proofs.Try.prog 14 (List.toArray [(Value.pointer x7)]) h112 fun v115 h116 =>
 ∃ x117 : Option (TypeId × Value), v115 = (errV x117) ∧
 isIfaceV (errV x117) = true ∧
 (∃ h118, Gh h116 h118 ∧ R110 (!(isNilV (errV x117))) h118))) ∧
 ∀ (_ : F) (x119 : Bool) (h120 : H), R110 x119 h120 →
 f3_J12 post x3 x7 x19_many x20_puts R28 x119 h120)) ∧
 ∀ (_ : F) (x175_many : Int) (x176_puts : Int) (h177 : H), R28 x175_many x176_puts h177 →
 In64 (x21_i + (1 : Int)) ∧
 ∃ m17, m17 < n16 ∧ (∃ h178, Gh h177 h178 ∧ I15 m17 x175_many x176_puts (x21_i + (1 : Int)) h178)) (
 (∃ h179, Gh h27 h179 ∧ R14 h179))

def f3_L14 (p0_kinds : SV) (post : Value → H → Prop) (x3 : Option Addr) (x7 : Option Addr) (R14 : H → Prop) (I15 : Nat → Int → Int → Int → H → Prop) (n16 : Nat) (x19_many : Int) (x20_puts : Int) (x21_i : Int) (h22 : H) : Prop :=
 ∃ R23 : Bool → H → Prop, (
 VIf (decide (x21_i < ((p0_kinds.len : Nat) : Int))) (
 (∃ h24, Gh h22 h24 ∧ R23 (decide (x21_i < (60 : Int))) h24)) (
 (∃ h25, Gh h22 h25 ∧ R23 false h25))) ∧
 ∀ (_ : F) (x26 : Bool) (h27 : H), R23 x26 h27 →
 f3_J13 p0_kinds post x3 x7 R14 I15 n16 x19_many x20_puts x21_i x26 h27

def f3_sem (p0_kinds : SV) (h0 : H) (post : Value → H → Prop) : Prop :=
 SemCall Go.Proofs.Try.prog 7 (List.toArray [(Value.int .i64 (1 : Int))]) h0 fun v1 h2 =>
 ∃ x3 : Option Addr, ∃ x4 : Option (TypeId × Value), v1 = (Value.tuple (List.toArray [(Value.pointer x3), (errV x4)])) ∧
 SemCall Go.Proofs.Try.prog 8 (List.toArray [(Value.int .i64 (8 : Int))]) h2 fun v5 h6 =>
 ∃ x7 : Option Addr, ∃ x8 : Option (TypeId × Value), v5 = (Value.tuple (List.toArray [(Value.pointer x7), (errV x8)])) ∧
 ∃ R9 : Bool → H → Prop, (
 isIfaceV (errV x4) = true ∧
 VIf (!(isNilV (errV x4))) (
 (∃ h10, Gh h6 h10 ∧ R9 true h10)) (
 isIfaceV (errV x8) = true ∧
 (∃ h11, Gh h6 h11 ∧ R9 (!(isNilV (errV x8))) h11))) ∧
 ∀ (_ : F) (x12 : Bool) (h13 : H), R9 x12 h13 →
 VIf x12 (
 VRet h13 (Value.bool false) post) (
 ∃ R14 : H → Prop, (
 ∃ I15 : Nat → Int → Int → Int → H → Prop, (∃ n16, (∃ h18, Gh h13 h18 ∧ I15 n16 (0 : Int) (0 : Int) (0 : Int) h18)) ∧
 ∀ (n16 : Nat) (_ : F) (x19_many : Int) (x20_puts : Int) (x21_i : Int) (h22 : H), I15 n16 x19_many x20_puts x21_i h22 →
 f3_L14 p0_kinds post x3 x7 R14 I15 n16 x19_many x20_puts x21_i h22) ∧
 ∀ (_ : F) (h180 : H), R14 h180 →
 VRet h180 (Value.bool true) post)

def f3_hint : Hint := (.node .leaf (.node .leaf (.node .leaf (.node (.node (.join [(43, .bool)] .leaf) .leaf) (.node .leaf (.node .leaf (.node (.node .leaf (.join [] (.node (.loop [(7, .int), (8, .int), (9, .int)] (.node (.node (.join [(51, .bool)] .leaf) .leaf) (.node (.join [(7, .int), (8, .int)] (.node (.node (.node .leaf (.node (.node (.node (.join [(71, .bool)] .leaf) .leaf) (.node (.node (.join [(87, .bool)] .leaf) .leaf) (.node .leaf (.node (.node .leaf (.join [(10, .bool)] (.node (.loop [(10, .bool), (11, .int)] (.node (.node (.join [(93, .bool)] .leaf) .leaf) .leaf)) .leaf))) (.node .leaf (.node (.node .leaf (.join [(15, .bool)] (.node (.loop [(15, .bool), (16, .int)] (.node (.node (.join [(110, .bool)] .leaf) .leaf) (.node (.node (.node .leaf (.node .leaf (.join [(15, .bool)] .leaf))) .leaf) .leaf))) .leaf))) (.node (.node (.join [(130, .bool)] .leaf) .leaf) .leaf))))))) .leaf)) (.node (.node (.join [(142, .bool)] .leaf) .leaf) (.node .leaf (.node (.node .leaf (.join [(20, .int)] (.node (.loop [(20, .int), (21, .int)] (.node (.node (.join [(148, .bool)] .leaf) .leaf) .leaf)) .leaf))) (.node .leaf (.node (.node .leaf (.join [(25, .int)] (.node (.loop [(25, .int), (26, .int)] (.node (.node (.join [(166, .bool)] .leaf) .leaf) .leaf)) .leaf))) (.node (.node (.join [(192, .bool)] .leaf) .leaf) .leaf))))))) .leaf)) .leaf))) .leaf))) .leaf)))))))

theorem f3_eq (p0_kinds : SV) (h0 : H) (post : Value → H → Prop) : exec Try.prog (bodyOf Try.f3) f3_hint (retQ Try.prog Try.f3 post) (F0 [(Value.slice p0_kinds.a p0_kinds.len p0_kinds.cap)]) h0 = f3_sem p0_kinds h0 post := by kernel_rfl

set_option maxRecDepth 20000 in
theorem f3_call (p0_kinds : SV) (h0 : H) (post : Value → H → Prop) (hx : f3_sem p0_kinds h0 post) : SemCall Try.prog 3 (List.toArray [(Value.slice p0_kinds.a p0_kinds.len p0_kinds.cap)]) h0 post :=
 sem_of_exec (g := f3_hint) mixed Try.func3 (bodyOf_eq (by kernel_rfl)) (by kernel_rfl) ((f3_eq p0_kinds h0 post).mpr hx)

/- latchgarth/latchgarthlaw3.StackRow -/
def f5_J1 (p0_n : Int) (r29 : Nat) (x36_h : SV) (x51_l : SV) (R71 : SV → H → Prop) (r76 : Nat) (x100_bad : Option (TypeId × Value)) (h101 : H) : Prop :=
 isIfaceV (errV x100_bad) = true ∧
 VIf (isNilV (errV x100_bad)) (
 ∃ b102 : Addr, x51_l.a = some b102 ∧ 0 ≤ (0 : Int) ∧ (0 : Int) < ((x51_l.len : Nat) : Int) ∧
 ∃ x103 : Int, H.rd h101 (Addr.add (Addr.add b102 (((0 : Int)).toNat * 1)) 0) (Value.int .i64 x103) ∧
 ∃ b104 : Addr, (some (Addr.mk r29 0 none)) = some b104 ∧ 0 ≤ x103 ∧ x103 < (((p0_n).toNat : Nat) : Int) ∧
 H.wr h101 (Addr.add b104 ((x103).toNat * 1)) ([(Value.int .i64 ((x36_h.len : Nat) : Int))]) fun h105 =>
 ∃ x106 : Int, H.rd h105 (Addr.add (Addr.mk r76 0 none) 0) (Value.int .i64 x106) ∧
 ∃ x107 : Int, H.rd h105 (Addr.add (Addr.mk r76 0 none) 1) (Value.int .i64 x107) ∧
 ∃ x108 : Int, H.rd h105 (Addr.add (Addr.mk r76 0 none) 2) (Value.int .i64 x108) ∧
 ∃ x109 : Int, H.rd h105 (Addr.add (Addr.mk r76 0 none) 3) (Value.int .i64 x109) ∧
 ∃ x110 : Int, H.rd h105 (Addr.add (Addr.mk r76 0 none) 4) (Value.int .i64 x110) ∧
 ∃ x111 : Int, H.rd h105 (Addr.add (Addr.mk r76 0 none) 5) (Value.int .i64 x111) ∧
 H.new h105 [(Value.int .i64 x106), (Value.int .i64 x107), (Value.int .i64 x108), (Value.int .i64 x109), (Value.int .i64 x110), (Value.int .i64 x111)] fun r112 h113 =>
 appVC Go.Proofs.Try.prog 49 (Value.slice x36_h.a x36_h.len x36_h.cap) (Value.slice (some (Addr.mk r112 0 none)) 1 1) h113 fun x114 h115 =>
 (∃ h116, Gh h115 h116 ∧ R71 x114 h116)) (
 (∃ h117, Gh h101 h117 ∧ R71 x36_h h117))

def f5_J2 (p0_n : Int) (post : Value → H → Prop) (r29 : Nat) (I32 : Nat → SV → Int → H → Prop) (n33 : Nat) (x37_i : Int) (x51_l : SV) (x119_h : SV) (x136 : Int) (x141 : Bool) (h142 : H) : Prop :=
 VIf x141 (
 ∃ b143 : Addr, x51_l.a = some b143 ∧ 0 ≤ (0 : Int) ∧ (0 : Int) < ((x51_l.len : Nat) : Int) ∧
 ∃ x144 : Int, H.rd h142 (Addr.add (Addr.add b143 (((0 : Int)).toNat * 1)) 0) (Value.int .i64 x144) ∧
 ∃ b145 : Addr, (some (Addr.mk r29 0 none)) = some b145 ∧ 0 ≤ x144 ∧ x144 < (((p0_n).toNat : Nat) : Int) ∧
 ∃ x146 : Int, H.rd h142 (Addr.add (Addr.add b145 ((x144).toNat * 1)) 0) (Value.int .i64 x146) ∧
 VIf (decide (x146 ≥ ((x119_h.len : Nat) : Int))) (
 VRet h142 (Value.bool false) post) (
 ∃ b147 : Addr, x51_l.a = some b147 ∧ 0 ≤ (0 : Int) ∧ (0 : Int) < ((x51_l.len : Nat) : Int) ∧
 ∃ x148 : Int, H.rd h142 (Addr.add (Addr.add b147 (((0 : Int)).toNat * 1)) 0) (Value.int .i64 x148) ∧
 ∃ b149 : Addr, (some (Addr.mk r29 0 none)) = some b149 ∧ 0 ≤ x148 ∧ x148 < (((p0_n).toNat : Nat) : Int) ∧
 ∃ x150 : Int, H.rd h142 (Addr.add (Addr.add b149 ((x148).toNat * 1)) 0) (Value.int .i64 x150) ∧
 ∃ b151 : Addr, x119_h.a = some b151 ∧ 0 ≤ x150 ∧ x150 < ((x119_h.len : Nat) : Int) ∧
 H.wr h142 (Addr.add (Addr.add b151 ((x150).toNat * 6)) 3) ([(Value.int .i64 x136)]) fun h152 =>
 ∃ b153 : Addr, x51_l.a = some b153 ∧ 0 ≤ (0 : Int) ∧ (0 : Int) < ((x51_l.len : Nat) : Int) ∧
 ∃ x154 : Int, H.rd h152 (Addr.add (Addr.add b153 (((0 : Int)).toNat * 1)) 0) (Value.int .i64 x154) ∧
 ∃ b155 : Addr, (some (Addr.mk r29 0 none)) = some b155 ∧ 0 ≤ x154 ∧ x154 < (((p0_n).toNat : Nat) : Int) ∧
 ∃ x156 : Int, H.rd h152 (Addr.add (Addr.add b155 ((x154).toNat * 1)) 0) (Value.int .i64 x156) ∧
 In64 ((2 : Int) * x37_i) ∧
 In64 (((2 : Int) * x37_i) + (1 : Int)) ∧
 ∃ b157 : Addr, x119_h.a = some b157 ∧ 0 ≤ x156 ∧ x156 < ((x119_h.len : Nat) : Int) ∧
 H.wr h152 (Addr.add (Addr.add b157 ((x156).toNat * 6)) 5) ([(Value.int .i64 (((2 : Int) * x37_i) + (1 : Int)))]) fun h158 =>
 In64 (x37_i + (1 : Int)) ∧
 ∃ m34, m34 < n33 ∧ (∃ h159, Gh h158 h159 ∧ I32 m34 x119_h (x37_i + (1 : Int)) h159))) (
 In64 (x37_i + (1 : Int)) ∧
 ∃ m34, m34 < n33 ∧ (∃ h160, Gh h142 h160 ∧ I32 m34 x119_h (x37_i + (1 : Int)) h160))

def f5_J3 (p0_n : Int) (post : Value → H → Prop) (x22 : Option Addr) (r29 : Nat) (I32 : Nat → SV → Int → H → Prop) (n33 : Nat) (x37_i : Int) (x51_l : SV) (x119_h : SV) (x129 : Bool) (h130 : H) : Prop :=
 VIf x129 (
 ∃ b131 : Addr, x51_l.a = some b131 ∧ 0 ≤ (0 : Int) ∧ (0 : Int) < ((x51_l.len : Nat) : Int) ∧
 ∃ x132 : Int, H.rd h130 (Addr.add (Addr.add b131 (((0 : Int)).toNat * 1)) 0) (Value.int .i64 x132) ∧
 SemCall Go.Proofs.Try.prog 23 (List.toArray [(Value.pointer x22), (Value.int .i64 x132)]) h130 fun v133 h134 =>
 ∃ x135 : Bool, ∃ x136 : Int, ∃ x137 : Option (TypeId × Value), v133 = (Value.tuple (List.toArray [(Value.bool x135), (Value.int .i64 x136), (errV x137)])) ∧
 ∃ R138 : Bool → H → Prop, (
 isIfaceV (errV x137) = true ∧
 VIf (isNilV (errV x137)) (
 (∃ h139, Gh h134 h139 ∧ R138 x135 h139)) (
 (∃ h140, Gh h134 h140 ∧ R138 false h140))) ∧
 ∀ (_ : F) (x141 : Bool) (h142 : H), R138 x141 h142 →
 f5_J2 p0_n post r29 I32 n33 x37_i x51_l x119_h x136 x141 h142) (
 In64 (x37_i + (1 : Int)) ∧
 ∃ m34, m34 < n33 ∧ (∃ h161, Gh h130 h161 ∧ I32 m34 x119_h (x37_i + (1 : Int)) h161))

def f5_J4 (p0_n : Int) (post : Value → H → Prop) (x22 : Option Addr) (r29 : Nat) (I32 : Nat → SV → Int → H → Prop) (n33 : Nat) (x37_i : Int) (x51_l : SV) (x119_h : SV) (h120 : H) : Prop :=
 ∃ R121 : Bool → H → Prop, (
 VIf (((x51_l.len : Nat) : Int) == (1 : Int)) (
 ∃ b122 : Addr, x51_l.a = some b122 ∧ 0 ≤ (0 : Int) ∧ (0 : Int) < ((x51_l.len : Nat) : Int) ∧
 ∃ x123 : Int, H.rd h120 (Addr.add (Addr.add b122 (((0 : Int)).toNat * 1)) 0) (Value.int .i64 x123) ∧
 In64 (p0_n - (1 : Int)) ∧
 SemCall Go.Proofs.Try.prog 17 (List.toArray [(Value.int .i64 x123), (Value.int .i64 0), (Value.int .i64 (p0_n - (1 : Int)))]) h120 fun v124 h125 =>
 ∃ x126 : Bool, v124 = (Value.bool x126) ∧
 (∃ h127, Gh h125 h127 ∧ R121 x126 h127)) (
 (∃ h128, Gh h120 h128 ∧ R121 false h128))) ∧
 ∀ (_ : F) (x129 : Bool) (h130 : H), R121 x129 h130 →
 f5_J3 p0_n post x22 r29 I32 n33 x37_i x51_l x119_h x129 h130

def f5_J5 (p0_n : Int) (post : Value → H → Prop) (x22 : Option Addr) (r29 : Nat) (I32 : Nat → SV → Int → H → Prop) (n33 : Nat) (x36_h : SV) (x37_i : Int) (x51_l : SV) (x69 : Bool) (h70 : H) : Prop :=
 ∃ R71 : SV → H → Prop, (
 VIf x69 (
 ∃ b72 : Addr, x51_l.a = some b72 ∧ 0 ≤ (0 : Int) ∧ (0 : Int) < ((x51_l.len : Nat) : Int) ∧
 ∃ b73 : Addr, x51_l.a = some b73 ∧ 0 ≤ (1 : Int) ∧ (1 : Int) < ((x51_l.len : Nat) : Int) ∧
 In64 ((2 : Int) * x37_i) ∧
 ∃ x74 : Int, H.rd h70 (Addr.add (Addr.add b72 (((0 : Int)).toNat * 1)) 0) (Value.int .i64 x74) ∧
 ∃ x75 : Int, H.rd h70 (Addr.add (Addr.add b73 (((1 : Int)).toNat * 1)) 0) (Value.int .i64 x75) ∧
 H.new h70 [(Value.int .i64 0), (Value.int .i64 0), (Value.int .i64 0), (Value.int .i64 0), (Value.int .i64 0), (Value.int .i64 0)] fun r76 h77 =>
 ([(Value.int .i64 x74), (Value.int .i64 0), (Value.int .i64 x75), (Value.int .i64 0), (Value.int .i64 ((2 : Int) * x37_i)), (Value.int .i64 0)]).length = 6 ∧ (Program.underlying Go.Proofs.Try.prog 51).isSome = true ∧
 H.wr h77 (Addr.mk r76 0 none) ([(Value.int .i64 x74), (Value.int .i64 0), (Value.int .i64 x75), (Value.int .i64 0), (Value.int .i64 ((2 : Int) * x37_i)), (Value.int .i64 0)]) fun h78 =>
 ∃ b79 : Addr, x51_l.a = some b79 ∧ 0 ≤ (1 : Int) ∧ (1 : Int) < ((x51_l.len : Nat) : Int) ∧
 ∃ x80 : Int, H.rd h78 (Addr.add (Addr.add b79 (((1 : Int)).toNat * 1)) 0) (Value.int .i64 x80) ∧
 ∃ R81 : Option (TypeId × Value) → H → Prop, (
 VIf (decide (x80 < (0 : Int))) (
 H.wr h78 (Addr.add (Addr.mk r76 0 none) 1) ([(Value.int .i64 (1 : Int))]) fun h82 =>
 H.wr h82 (Addr.add (Addr.mk r76 0 none) 2) ([(Value.int .i64 0)]) fun h83 =>
 ∃ b84 : Addr, x51_l.a = some b84 ∧ 0 ≤ (0 : Int) ∧ (0 : Int) < ((x51_l.len : Nat) : Int) ∧
 ∃ x85 : Int, H.rd h83 (Addr.add (Addr.add b84 (((0 : Int)).toNat * 1)) 0) (Value.int .i64 x85) ∧
 SemCall Go.Proofs.Try.prog 21 (List.toArray [(Value.pointer x22), (Value.int .i64 x85)]) h83 fun v86 h87 =>
 ∃ x88 : Option (TypeId × Value), v86 = (errV x88) ∧
 (∃ o89, (errV x88) = errV o89 ∧ ∃ h90, Gh h87 h90 ∧ R81 o89 h90)) (
 ∃ b91 : Addr, x51_l.a = some b91 ∧ 0 ≤ (0 : Int) ∧ (0 : Int) < ((x51_l.len : Nat) : Int) ∧
 ∃ x92 : Int, H.rd h78 (Addr.add (Addr.add b91 (((0 : Int)).toNat * 1)) 0) (Value.int .i64 x92) ∧
 ∃ b93 : Addr, x51_l.a = some b93 ∧ 0 ≤ (1 : Int) ∧ (1 : Int) < ((x51_l.len : Nat) : Int) ∧
 ∃ x94 : Int, H.rd h78 (Addr.add (Addr.add b93 (((1 : Int)).toNat * 1)) 0) (Value.int .i64 x94) ∧
 SemCall Go.Proofs.Try.prog 22 (List.toArray [(Value.pointer x22), (Value.int .i64 x92), (Value.int .i64 x94)]) h78 fun v95 h96 =>
 ∃ x97 : Option (TypeId × Value), v95 = (errV x97) ∧
 (∃ o98, (errV x97) = errV o98 ∧ ∃ h99, Gh h96 h99 ∧ R81 o98 h99))) ∧
 ∀ (_ : F) (x100_bad : Option (TypeId × Value)) (h101 : H), R81 x100_bad h101 →
 f5_J1 p0_n r29 x36_h x51_l R71 r76 x100_bad h101) (
 (∃ h118, Gh h70 h118 ∧ R71 x36_h h118))) ∧
 ∀ (_ : F) (x119_h : SV) (h120 : H), R71 x119_h h120 →
 f5_J4 p0_n post x22 r29 I32 n33 x37_i x51_l x119_h h120

def f5_J6 (p0_n : Int) (post : Value → H → Prop) (x22 : Option Addr) (r29 : Nat) (I32 : Nat → SV → Int → H → Prop) (n33 : Nat) (x36_h : SV) (x37_i : Int) (x51_l : SV) (h52 : H) : Prop :=
 ∃ R53 : Bool → H → Prop, (
 VIf (((x51_l.len : Nat) : Int) == (2 : Int)) (
 VIf (decide (x37_i < (160 : Int))) (
 VIf (decide (((x36_h.len : Nat) : Int) < (8 : Int))) (
 ∃ b54 : Addr, x51_l.a = some b54 ∧ 0 ≤ (0 : Int) ∧ (0 : Int) < ((x51_l.len : Nat) : Int) ∧
 ∃ x55 : Int, H.rd h52 (Addr.add (Addr.add b54 (((0 : Int)).toNat * 1)) 0) (Value.int .i64 x55) ∧
 In64 (p0_n - (1 : Int)) ∧
 SemCall Go.Proofs.Try.prog 17 (List.toArray [(Value.int .i64 x55), (Value.int .i64 0), (Value.int .i64 (p0_n - (1 : Int)))]) h52 fun v56 h57 =>
 ∃ x58 : Bool, v56 = (Value.bool x58) ∧
 VIf x58 (
 ∃ b59 : Addr, x51_l.a = some b59 ∧ 0 ≤ (1 : Int) ∧ (1 : Int) < ((x51_l.len : Nat) : Int) ∧
 ∃ x60 : Int, H.rd h57 (Addr.add (Addr.add b59 (((1 : Int)).toNat * 1)) 0) (Value.int .i64 x60) ∧
 SemCall Go.Proofs.Try.prog 17 (List.toArray [(Value.int .i64 x60), (Value.int .i64 (-1 : Int)), (Value.int .i64 (1000 : Int))]) h57 fun v61 h62 =>
 ∃ x63 : Bool, v61 = (Value.bool x63) ∧
 (∃ h64, Gh h62 h64 ∧ R53 x63 h64)) (
 (∃ h65, Gh h57 h65 ∧ R53 false h65))) (
 (∃ h66, Gh h52 h66 ∧ R53 false h66))) (
 (∃ h67, Gh h52 h67 ∧ R53 false h67))) (
 (∃ h68, Gh h52 h68 ∧ R53 false h68))) ∧
 ∀ (_ : F) (x69 : Bool) (h70 : H), R53 x69 h70 →
 f5_J5 p0_n post x22 r29 I32 n33 x36_h x37_i x51_l x69 h70

def f5_L7 (p0_n : Int) (p1_steps : SV) (post : Value → H → Prop) (x22 : Option Addr) (r29 : Nat) (R31 : SV → H → Prop) (I32 : Nat → SV → Int → H → Prop) (n33 : Nat) (x36_h : SV) (x37_i : Int) (h38 : H) : Prop :=
 VIf (decide (x37_i < (240 : Int))) (
 p0_n ≠ 0 ∧
 H.new h38 [(Value.int .i64 (Int.tmod x37_i p0_n))] fun r39 h40 =>
 ∃ R41 : Bool → H → Prop, (
 VIf (decide (x37_i < ((p1_steps.len : Nat) : Int))) (
 (∃ h42, Gh h40 h42 ∧ R41 (decide (x37_i < (160 : Int))) h42)) (
 (∃ h43, Gh h40 h43 ∧ R41 false h43))) ∧
 ∀ (_ : F) (x44 : Bool) (h45 : H), R41 x44 h45 →
 ∃ R46 : SV → H → Prop, (
 VIf x44 (
 ∃ b47 : Addr, p1_steps.a = some b47 ∧ 0 ≤ x37_i ∧ x37_i < ((p1_steps.len : Nat) : Int) ∧
 ∃ x48 : SV, H.rd h45 (Addr.add (Addr.add b47 ((x37_i).toNat * 1)) 0) (Value.slice x48.a x48.len x48.cap) ∧
 (∃ h49, Gh h45 h49 ∧ R46 x48 h49)) (
 (∃ h50, Gh h45 h50 ∧ R46 (SV.mk (some (Addr.mk r39 0 none)) 1 1) h50))) ∧
 ∀ (_ : F) (x51_l : SV) (h52 : H), R46 x51_l h52 →
 f5_J6 p0_n post x22 r29 I32 n33 x36_h x37_i x51_l h52) (
 (∃ h162, Gh h38 h162 ∧ R31 x36_h h162))

def f5_J8 (p0_n : Int) (p1_steps : SV) (post : Value → H → Prop) (x18 : Bool) (h19 : H) : Prop :=
 VIf x18 (
 VRet h19 (Value.bool false) post) (
 SemCall Go.Proofs.Try.prog 20 (List.toArray [(Value.int .i64 p0_n), (Value.bool true)]) h19 fun v20 h21 =>
 ∃ x22 : Option Addr, ∃ x23 : Option (TypeId × Value), v20 = (Value.tuple (List.toArray [(Value.pointer x22), (errV x23)])) ∧
 isIfaceV (errV x23) = true ∧
 VIf (!(isNilV (errV x23))) (
 ∃ R24 : Bool → H → Prop, (
 VIf (decide (p0_n < (1 : Int))) (
 (∃ h25, Gh h21 h25 ∧ R24 true h25)) (
 (∃ h26, Gh h21 h26 ∧ R24 (decide (p0_n > (4 : Int))) h26))) ∧
 ∀ (_ : F) (x27 : Bool) (h28 : H), R24 x27 h28 →
 VRet h28 (Value.bool x27) post) (
 0 ≤ p0_n ∧ p0_n ≤ p0_n ∧ ((8 : Nat) : Int) * p0_n ≤ 140737488355328 ∧ p0_n ≤ 1000000000 ∧
 H.new h21 (repl (p0_n).toNat [(Value.int .i64 0)]) fun r29 h30 =>
 ∃ R31 : SV → H → Prop, (
 ∃ I32 : Nat → SV → Int → H → Prop, (∃ n33, (∃ h35, Gh h30 h35 ∧ I32 n33 (SV.mk none 0 0) (0 : Int) h35)) ∧
 ∀ (n33 : Nat) (_ : F) (x36_h : SV) (x37_i : Int) (h38 : H), I32 n33 x36_h x37_i h38 →
 f5_L7 p0_n p1_steps post x22 r29 R31 I32 n33 x36_h x37_i h38) ∧
 ∀ (_ : F) (x163_h : SV) (h164 : H), R31 x163_h h164 →
 SemCall Go.Proofs.Try.prog 24 (List.toArray [(Value.int .i64 (1 : Int)), (Value.slice x163_h.a x163_h.len x163_h.cap)]) h164 fun v165 h166 =>
 ∃ x167 : Bool, v165 = (Value.bool x167) ∧
 VRet h166 (Value.bool x167) post))

def f5_sem (p0_n : Int) (p1_steps : SV) (h0 : H) (post : Value → H → Prop) : Prop :=
 SemCall Go.Proofs.Try.prog 18 (List.toArray [(Value.bool true)]) h0 fun v1 h2 =>
 ∃ x3 : SV, v1 = (Value.slice x3.a x3.len x3.cap) ∧
 SemCall Go.Proofs.Try.prog 18 (List.toArray [(Value.bool false)]) h2 fun v4 h5 =>
 ∃ x6 : SV, v4 = (Value.slice x6.a x6.len x6.cap) ∧
 ∃ R7 : Bool → H → Prop, (
 H.new h5 [(Value.int .i64 (9 : Int)), (Value.int .i64 (-1 : Int))] fun r8 h9 =>
 SemCall Go.Proofs.Try.prog 19 (List.toArray [(Value.slice x3.a x3.len x3.cap), (Value.slice (some (Addr.mk r8 0 none)) 2 2)]) h9 fun v10 h11 =>
 ∃ x12 : Bool, v10 = (Value.bool x12) ∧
 VIf (!x12) (
 (∃ h13, Gh h11 h13 ∧ R7 true h13)) (
 SemCall Go.Proofs.Try.prog 19 (List.toArray [(Value.slice x6.a x6.len x6.cap), (Value.slice x3.a x3.len x3.cap)]) h11 fun v14 h15 =>
 ∃ x16 : Bool, v14 = (Value.bool x16) ∧
 (∃ h17, Gh h15 h17 ∧ R7 x16 h17))) ∧
 ∀ (_ : F) (x18 : Bool) (h19 : H), R7 x18 h19 →
 f5_J8 p0_n p1_steps post x18 h19

def f5_hint : Hint := (.node .leaf (.node .leaf (.node .leaf (.node (.node (.join [(28, .bool)] .leaf) .leaf) (.node .leaf (.node (.node .leaf (.node (.node (.join [(4, .bool)] .leaf) .leaf) .leaf)) (.node .leaf (.node .leaf (.node (.node .leaf (.join [(10, .sl)] (.node (.loop [(10, .sl), (11, .int)] (.node .leaf (.node (.node (.node .leaf (.node (.node (.join [(59, .bool)] .leaf) (.join [(12, .sl)] .leaf)) (.node (.node (.join [(89, .bool)] .leaf) (.join [(10, .sl)] (.node (.node .lex (.node .leaf (.node (.node .leaf (.join [(14, .err)] (.node .leaf (.tail 7)))) .leaf))) .leaf))) (.node (.join [(141, .bool)] .leaf) (.node (.node .leaf (.node (.join [(155, .bool)] .leaf) .leaf)) .leaf))))) .leaf) .leaf))) .leaf))) .leaf)))))))))

theorem f5_eq (p0_n : Int) (p1_steps : SV) (h0 : H) (post : Value → H → Prop) : exec Try.prog (bodyOf Try.f5) f5_hint (retQ Try.prog Try.f5 post) (F0 [(Value.int .i64 p0_n), (Value.slice p1_steps.a p1_steps.len p1_steps.cap)]) h0 = f5_sem p0_n p1_steps h0 post := by kernel_rfl

set_option maxRecDepth 20000 in
theorem f5_call (p0_n : Int) (p1_steps : SV) (h0 : H) (post : Value → H → Prop) (hx : f5_sem p0_n p1_steps h0 post) : SemCall Try.prog 5 (List.toArray [(Value.int .i64 p0_n), (Value.slice p1_steps.a p1_steps.len p1_steps.cap)]) h0 post :=
 sem_of_exec (g := f5_hint) mixed Try.func5 (bodyOf_eq (by kernel_rfl)) (by kernel_rfl) ((f5_eq p0_n p1_steps h0 post).mpr hx)

/- latchgarth/latchgarthlaw3.FifoRow -/
def f6_J1 (p0_n : Int) (r13 : Nat) (x20_h : SV) (x35_l : SV) (R55 : SV → H → Prop) (r60 : Nat) (x84_bad : Option (TypeId × Value)) (h85 : H) : Prop :=
 isIfaceV (errV x84_bad) = true ∧
 VIf (isNilV (errV x84_bad)) (
 ∃ b86 : Addr, x35_l.a = some b86 ∧ 0 ≤ (0 : Int) ∧ (0 : Int) < ((x35_l.len : Nat) : Int) ∧
 ∃ x87 : Int, H.rd h85 (Addr.add (Addr.add b86 (((0 : Int)).toNat * 1)) 0) (Value.int .i64 x87) ∧
 ∃ b88 : Addr, (some (Addr.mk r13 0 none)) = some b88 ∧ 0 ≤ x87 ∧ x87 < (((p0_n).toNat : Nat) : Int) ∧
 H.wr h85 (Addr.add b88 ((x87).toNat * 1)) ([(Value.int .i64 ((x20_h.len : Nat) : Int))]) fun h89 =>
 ∃ x90 : Int, H.rd h89 (Addr.add (Addr.mk r60 0 none) 0) (Value.int .i64 x90) ∧
 ∃ x91 : Int, H.rd h89 (Addr.add (Addr.mk r60 0 none) 1) (Value.int .i64 x91) ∧
 ∃ x92 : Int, H.rd h89 (Addr.add (Addr.mk r60 0 none) 2) (Value.int .i64 x92) ∧
 ∃ x93 : Int, H.rd h89 (Addr.add (Addr.mk r60 0 none) 3) (Value.int .i64 x93) ∧
 ∃ x94 : Int, H.rd h89 (Addr.add (Addr.mk r60 0 none) 4) (Value.int .i64 x94) ∧
 ∃ x95 : Int, H.rd h89 (Addr.add (Addr.mk r60 0 none) 5) (Value.int .i64 x95) ∧
 H.new h89 [(Value.int .i64 x90), (Value.int .i64 x91), (Value.int .i64 x92), (Value.int .i64 x93), (Value.int .i64 x94), (Value.int .i64 x95)] fun r96 h97 =>
 appVC Go.Proofs.Try.prog 49 (Value.slice x20_h.a x20_h.len x20_h.cap) (Value.slice (some (Addr.mk r96 0 none)) 1 1) h97 fun x98 h99 =>
 (∃ h100, Gh h99 h100 ∧ R55 x98 h100)) (
 (∃ h101, Gh h85 h101 ∧ R55 x20_h h101))

def f6_J2 (p0_n : Int) (post : Value → H → Prop) (r13 : Nat) (I16 : Nat → SV → Int → H → Prop) (n17 : Nat) (x21_i : Int) (x35_l : SV) (x103_h : SV) (x120 : Int) (x125 : Bool) (h126 : H) : Prop :=
 VIf x125 (
 ∃ b127 : Addr, x35_l.a = some b127 ∧ 0 ≤ (0 : Int) ∧ (0 : Int) < ((x35_l.len : Nat) : Int) ∧
 ∃ x128 : Int, H.rd h126 (Addr.add (Addr.add b127 (((0 : Int)).toNat * 1)) 0) (Value.int .i64 x128) ∧
 ∃ b129 : Addr, (some (Addr.mk r13 0 none)) = some b129 ∧ 0 ≤ x128 ∧ x128 < (((p0_n).toNat : Nat) : Int) ∧
 ∃ x130 : Int, H.rd h126 (Addr.add (Addr.add b129 ((x128).toNat * 1)) 0) (Value.int .i64 x130) ∧
 VIf (decide (x130 ≥ ((x103_h.len : Nat) : Int))) (
 VRet h126 (Value.bool false) post) (
 ∃ b131 : Addr, x35_l.a = some b131 ∧ 0 ≤ (0 : Int) ∧ (0 : Int) < ((x35_l.len : Nat) : Int) ∧
 ∃ x132 : Int, H.rd h126 (Addr.add (Addr.add b131 (((0 : Int)).toNat * 1)) 0) (Value.int .i64 x132) ∧
 ∃ b133 : Addr, (some (Addr.mk r13 0 none)) = some b133 ∧ 0 ≤ x132 ∧ x132 < (((p0_n).toNat : Nat) : Int) ∧
 ∃ x134 : Int, H.rd h126 (Addr.add (Addr.add b133 ((x132).toNat * 1)) 0) (Value.int .i64 x134) ∧
 ∃ b135 : Addr, x103_h.a = some b135 ∧ 0 ≤ x134 ∧ x134 < ((x103_h.len : Nat) : Int) ∧
 H.wr h126 (Addr.add (Addr.add b135 ((x134).toNat * 6)) 3) ([(Value.int .i64 x120)]) fun h136 =>
 ∃ b137 : Addr, x35_l.a = some b137 ∧ 0 ≤ (0 : Int) ∧ (0 : Int) < ((x35_l.len : Nat) : Int) ∧
 ∃ x138 : Int, H.rd h136 (Addr.add (Addr.add b137 (((0 : Int)).toNat * 1)) 0) (Value.int .i64 x138) ∧
 ∃ b139 : Addr, (some (Addr.mk r13 0 none)) = some b139 ∧ 0 ≤ x138 ∧ x138 < (((p0_n).toNat : Nat) : Int) ∧
 ∃ x140 : Int, H.rd h136 (Addr.add (Addr.add b139 ((x138).toNat * 1)) 0) (Value.int .i64 x140) ∧
 In64 ((2 : Int) * x21_i) ∧
 In64 (((2 : Int) * x21_i) + (1 : Int)) ∧
 ∃ b141 : Addr, x103_h.a = some b141 ∧ 0 ≤ x140 ∧ x140 < ((x103_h.len : Nat) : Int) ∧
 H.wr h136 (Addr.add (Addr.add b141 ((x140).toNat * 6)) 5) ([(Value.int .i64 (((2 : Int) * x21_i) + (1 : Int)))]) fun h142 =>
 In64 (x21_i + (1 : Int)) ∧
 ∃ m18, m18 < n17 ∧ (∃ h143, Gh h142 h143 ∧ I16 m18 x103_h (x21_i + (1 : Int)) h143))) (
 In64 (x21_i + (1 : Int)) ∧
 ∃ m18, m18 < n17 ∧ (∃ h144, Gh h126 h144 ∧ I16 m18 x103_h (x21_i + (1 : Int)) h144))

def f6_J3 (p0_n : Int) (post : Value → H → Prop) (x6 : Option Addr) (r13 : Nat) (I16 : Nat → SV → Int → H → Prop) (n17 : Nat) (x21_i : Int) (x35_l : SV) (x103_h : SV) (x113 : Bool) (h114 : H) : Prop :=
 VIf x113 (
 ∃ b115 : Addr, x35_l.a = some b115 ∧ 0 ≤ (0 : Int) ∧ (0 : Int) < ((x35_l.len : Nat) : Int) ∧
 ∃ x116 : Int, H.rd h114 (Addr.add (Addr.add b115 (((0 : Int)).toNat * 1)) 0) (Value.int .i64 x116) ∧
 SemCall Go.Proofs.Try.prog 11 (List.toArray [(Value.pointer x6), (Value.int .i64 x116)]) h114 fun v117 h118 =>
 ∃ x119 : Bool, ∃ x120 : Int, ∃ x121 : Option (TypeId × Value), v117 = (Value.tuple (List.toArray [(Value.bool x119), (Value.int .i64 x120), (errV x121)])) ∧
 ∃ R122 : Bool → H → Prop, (
 isIfaceV (errV x121) = true ∧
 VIf (isNilV (errV x121)) (
 (∃ h123, Gh h118 h123 ∧ R122 x119 h123)) (
 (∃ h124, Gh h118 h124 ∧ R122 false h124))) ∧
 ∀ (_ : F) (x125 : Bool) (h126 : H), R122 x125 h126 →
 f6_J2 p0_n post r13 I16 n17 x21_i x35_l x103_h x120 x125 h126) (
 In64 (x21_i + (1 : Int)) ∧
 ∃ m18, m18 < n17 ∧ (∃ h145, Gh h114 h145 ∧ I16 m18 x103_h (x21_i + (1 : Int)) h145))

def f6_J4 (p0_n : Int) (post : Value → H → Prop) (x6 : Option Addr) (r13 : Nat) (I16 : Nat → SV → Int → H → Prop) (n17 : Nat) (x21_i : Int) (x35_l : SV) (x103_h : SV) (h104 : H) : Prop :=
 ∃ R105 : Bool → H → Prop, (
 VIf (((x35_l.len : Nat) : Int) == (1 : Int)) (
 ∃ b106 : Addr, x35_l.a = some b106 ∧ 0 ≤ (0 : Int) ∧ (0 : Int) < ((x35_l.len : Nat) : Int) ∧
 ∃ x107 : Int, H.rd h104 (Addr.add (Addr.add b106 (((0 : Int)).toNat * 1)) 0) (Value.int .i64 x107) ∧
 In64 (p0_n - (1 : Int)) ∧
 SemCall Go.Proofs.Try.prog 17 (List.toArray [(Value.int .i64 x107), (Value.int .i64 0), (Value.int .i64 (p0_n - (1 : Int)))]) h104 fun v108 h109 =>
 ∃ x110 : Bool, v108 = (Value.bool x110) ∧
 (∃ h111, Gh h109 h111 ∧ R105 x110 h111)) (
 (∃ h112, Gh h104 h112 ∧ R105 false h112))) ∧
 ∀ (_ : F) (x113 : Bool) (h114 : H), R105 x113 h114 →
 f6_J3 p0_n post x6 r13 I16 n17 x21_i x35_l x103_h x113 h114

def f6_J5 (p0_n : Int) (post : Value → H → Prop) (x6 : Option Addr) (r13 : Nat) (I16 : Nat → SV → Int → H → Prop) (n17 : Nat) (x20_h : SV) (x21_i : Int) (x35_l : SV) (x53 : Bool) (h54 : H) : Prop :=
 ∃ R55 : SV → H → Prop, (
 VIf x53 (
 ∃ b56 : Addr, x35_l.a = some b56 ∧ 0 ≤ (0 : Int) ∧ (0 : Int) < ((x35_l.len : Nat) : Int) ∧
 ∃ b57 : Addr, x35_l.a = some b57 ∧ 0 ≤ (1 : Int) ∧ (1 : Int) < ((x35_l.len : Nat) : Int) ∧
 In64 ((2 : Int) * x21_i) ∧
 ∃ x58 : Int, H.rd h54 (Addr.add (Addr.add b56 (((0 : Int)).toNat * 1)) 0) (Value.int .i64 x58) ∧
 ∃ x59 : Int, H.rd h54 (Addr.add (Addr.add b57 (((1 : Int)).toNat * 1)) 0) (Value.int .i64 x59) ∧
 H.new h54 [(Value.int .i64 0), (Value.int .i64 0), (Value.int .i64 0), (Value.int .i64 0), (Value.int .i64 0), (Value.int .i64 0)] fun r60 h61 =>
 ([(Value.int .i64 x58), (Value.int .i64 0), (Value.int .i64 x59), (Value.int .i64 0), (Value.int .i64 ((2 : Int) * x21_i)), (Value.int .i64 0)]).length = 6 ∧ (Program.underlying Go.Proofs.Try.prog 51).isSome = true ∧
 H.wr h61 (Addr.mk r60 0 none) ([(Value.int .i64 x58), (Value.int .i64 0), (Value.int .i64 x59), (Value.int .i64 0), (Value.int .i64 ((2 : Int) * x21_i)), (Value.int .i64 0)]) fun h62 =>
 ∃ b63 : Addr, x35_l.a = some b63 ∧ 0 ≤ (1 : Int) ∧ (1 : Int) < ((x35_l.len : Nat) : Int) ∧
 ∃ x64 : Int, H.rd h62 (Addr.add (Addr.add b63 (((1 : Int)).toNat * 1)) 0) (Value.int .i64 x64) ∧
 ∃ R65 : Option (TypeId × Value) → H → Prop, (
 VIf (decide (x64 < (0 : Int))) (
 H.wr h62 (Addr.add (Addr.mk r60 0 none) 1) ([(Value.int .i64 (1 : Int))]) fun h66 =>
 H.wr h66 (Addr.add (Addr.mk r60 0 none) 2) ([(Value.int .i64 0)]) fun h67 =>
 ∃ b68 : Addr, x35_l.a = some b68 ∧ 0 ≤ (0 : Int) ∧ (0 : Int) < ((x35_l.len : Nat) : Int) ∧
 ∃ x69 : Int, H.rd h67 (Addr.add (Addr.add b68 (((0 : Int)).toNat * 1)) 0) (Value.int .i64 x69) ∧
 SemCall Go.Proofs.Try.prog 13 (List.toArray [(Value.pointer x6), (Value.int .i64 x69)]) h67 fun v70 h71 =>
 ∃ x72 : Option (TypeId × Value), v70 = (errV x72) ∧
 (∃ o73, (errV x72) = errV o73 ∧ ∃ h74, Gh h71 h74 ∧ R65 o73 h74)) (
 ∃ b75 : Addr, x35_l.a = some b75 ∧ 0 ≤ (0 : Int) ∧ (0 : Int) < ((x35_l.len : Nat) : Int) ∧
 ∃ x76 : Int, H.rd h62 (Addr.add (Addr.add b75 (((0 : Int)).toNat * 1)) 0) (Value.int .i64 x76) ∧
 ∃ b77 : Addr, x35_l.a = some b77 ∧ 0 ≤ (1 : Int) ∧ (1 : Int) < ((x35_l.len : Nat) : Int) ∧
 ∃ x78 : Int, H.rd h62 (Addr.add (Addr.add b77 (((1 : Int)).toNat * 1)) 0) (Value.int .i64 x78) ∧
 SemCall Go.Proofs.Try.prog 9 (List.toArray [(Value.pointer x6), (Value.int .i64 x76), (Value.int .i64 x78)]) h62 fun v79 h80 =>
 ∃ x81 : Option (TypeId × Value), v79 = (errV x81) ∧
 (∃ o82, (errV x81) = errV o82 ∧ ∃ h83, Gh h80 h83 ∧ R65 o82 h83))) ∧
 ∀ (_ : F) (x84_bad : Option (TypeId × Value)) (h85 : H), R65 x84_bad h85 →
 f6_J1 p0_n r13 x20_h x35_l R55 r60 x84_bad h85) (
 (∃ h102, Gh h54 h102 ∧ R55 x20_h h102))) ∧
 ∀ (_ : F) (x103_h : SV) (h104 : H), R55 x103_h h104 →
 f6_J4 p0_n post x6 r13 I16 n17 x21_i x35_l x103_h h104

def f6_J6 (p0_n : Int) (post : Value → H → Prop) (x6 : Option Addr) (r13 : Nat) (I16 : Nat → SV → Int → H → Prop) (n17 : Nat) (x20_h : SV) (x21_i : Int) (x35_l : SV) (h36 : H) : Prop :=
 ∃ R37 : Bool → H → Prop, (
 VIf (((x35_l.len : Nat) : Int) == (2 : Int)) (
 VIf (decide (x21_i < (200 : Int))) (
 VIf (decide (((x20_h.len : Nat) : Int) < (8 : Int))) (
 ∃ b38 : Addr, x35_l.a = some b38 ∧ 0 ≤ (0 : Int) ∧ (0 : Int) < ((x35_l.len : Nat) : Int) ∧
 ∃ x39 : Int, H.rd h36 (Addr.add (Addr.add b38 (((0 : Int)).toNat * 1)) 0) (Value.int .i64 x39) ∧
 In64 (p0_n - (1 : Int)) ∧
 SemCall Go.Proofs.Try.prog 17 (List.toArray [(Value.int .i64 x39), (Value.int .i64 0), (Value.int .i64 (p0_n - (1 : Int)))]) h36 fun v40 h41 =>
 ∃ x42 : Bool, v40 = (Value.bool x42) ∧
 VIf x42 (
 ∃ b43 : Addr, x35_l.a = some b43 ∧ 0 ≤ (1 : Int) ∧ (1 : Int) < ((x35_l.len : Nat) : Int) ∧
 ∃ x44 : Int, H.rd h41 (Addr.add (Addr.add b43 (((1 : Int)).toNat * 1)) 0) (Value.int .i64 x44) ∧
 SemCall Go.Proofs.Try.prog 17 (List.toArray [(Value.int .i64 x44), (Value.int .i64 (-1 : Int)), (Value.int .i64 (1000 : Int))]) h41 fun v45 h46 =>
 ∃ x47 : Bool, v45 = (Value.bool x47) ∧
 (∃ h48, Gh h46 h48 ∧ R37 x47 h48)) (
 (∃ h49, Gh h41 h49 ∧ R37 false h49))) (
 (∃ h50, Gh h36 h50 ∧ R37 false h50))) (
 (∃ h51, Gh h36 h51 ∧ R37 false h51))) (
 (∃ h52, Gh h36 h52 ∧ R37 false h52))) ∧
 ∀ (_ : F) (x53 : Bool) (h54 : H), R37 x53 h54 →
 f6_J5 p0_n post x6 r13 I16 n17 x20_h x21_i x35_l x53 h54

def f6_L7 (p0_n : Int) (p1_steps : SV) (post : Value → H → Prop) (x6 : Option Addr) (r13 : Nat) (R15 : SV → H → Prop) (I16 : Nat → SV → Int → H → Prop) (n17 : Nat) (x20_h : SV) (x21_i : Int) (h22 : H) : Prop :=
 VIf (decide (x21_i < (320 : Int))) (
 p0_n ≠ 0 ∧
 H.new h22 [(Value.int .i64 (Int.tmod x21_i p0_n))] fun r23 h24 =>
 ∃ R25 : Bool → H → Prop, (
 VIf (decide (x21_i < ((p1_steps.len : Nat) : Int))) (
 (∃ h26, Gh h24 h26 ∧ R25 (decide (x21_i < (200 : Int))) h26)) (
 (∃ h27, Gh h24 h27 ∧ R25 false h27))) ∧
 ∀ (_ : F) (x28 : Bool) (h29 : H), R25 x28 h29 →
 ∃ R30 : SV → H → Prop, (
 VIf x28 (
 ∃ b31 : Addr, p1_steps.a = some b31 ∧ 0 ≤ x21_i ∧ x21_i < ((p1_steps.len : Nat) : Int) ∧
 ∃ x32 : SV, H.rd h29 (Addr.add (Addr.add b31 ((x21_i).toNat * 1)) 0) (Value.slice x32.a x32.len x32.cap) ∧
 (∃ h33, Gh h29 h33 ∧ R30 x32 h33)) (
 (∃ h34, Gh h29 h34 ∧ R30 (SV.mk (some (Addr.mk r23 0 none)) 1 1) h34))) ∧
 ∀ (_ : F) (x35_l : SV) (h36 : H), R30 x35_l h36 →
 f6_J6 p0_n post x6 r13 I16 n17 x20_h x21_i x35_l h36) (
 (∃ h146, Gh h22 h146 ∧ R15 x20_h h146))

def f6_sem (p0_n : Int) (p1_steps : SV) (h0 : H) (post : Value → H → Prop) : Prop :=
 SemCall Go.Proofs.Try.prog 16 (List.toArray []) h0 fun v1 h2 =>
 ∃ x3 : Bool, v1 = (Value.bool x3) ∧
 VIf (!x3) (
 VRet h2 (Value.bool false) post) (
 SemCall Go.Proofs.Try.prog 7 (List.toArray [(Value.int .i64 p0_n)]) h2 fun v4 h5 =>
 ∃ x6 : Option Addr, ∃ x7 : Option (TypeId × Value), v4 = (Value.tuple (List.toArray [(Value.pointer x6), (errV x7)])) ∧
 isIfaceV (errV x7) = true ∧
 VIf (!(isNilV (errV x7))) (
 ∃ R8 : Bool → H → Prop, (
 VIf (decide (p0_n < (1 : Int))) (
 (∃ h9, Gh h5 h9 ∧ R8 true h9)) (
 (∃ h10, Gh h5 h10 ∧ R8 (decide (p0_n > (4 : Int))) h10))) ∧
 ∀ (_ : F) (x11 : Bool) (h12 : H), R8 x11 h12 →
 VRet h12 (Value.bool x11) post) (
 0 ≤ p0_n ∧ p0_n ≤ p0_n ∧ ((8 : Nat) : Int) * p0_n ≤ 140737488355328 ∧ p0_n ≤ 1000000000 ∧
 H.new h5 (repl (p0_n).toNat [(Value.int .i64 0)]) fun r13 h14 =>
 ∃ R15 : SV → H → Prop, (
 ∃ I16 : Nat → SV → Int → H → Prop, (∃ n17, (∃ h19, Gh h14 h19 ∧ I16 n17 (SV.mk none 0 0) (0 : Int) h19)) ∧
 ∀ (n17 : Nat) (_ : F) (x20_h : SV) (x21_i : Int) (h22 : H), I16 n17 x20_h x21_i h22 →
 f6_L7 p0_n p1_steps post x6 r13 R15 I16 n17 x20_h x21_i h22) ∧
 ∀ (_ : F) (x147_h : SV) (h148 : H), R15 x147_h h148 →
 SemCall Go.Proofs.Try.prog 24 (List.toArray [(Value.int .i64 (2 : Int)), (Value.slice x147_h.a x147_h.len x147_h.cap)]) h148 fun v149 h150 =>
 ∃ x151 : Bool, v149 = (Value.bool x151) ∧
 VRet h150 (Value.bool x151) post))

def f6_hint : Hint := (.node .leaf (.node .leaf (.node .leaf (.node .leaf (.node (.node .leaf (.node (.node (.join [(4, .bool)] .leaf) .leaf) .leaf)) (.node .leaf (.node .leaf (.node (.node .leaf (.join [(9, .sl)] (.node (.loop [(9, .sl), (10, .int)] (.node .leaf (.node (.node (.node .leaf (.node (.node (.join [(50, .bool)] .leaf) (.join [(11, .sl)] .leaf)) (.node (.node (.join [(80, .bool)] .leaf) (.join [(9, .sl)] (.node (.node .lex (.node .leaf (.node (.node .leaf (.join [(13, .err)] (.node .leaf (.tail 7)))) .leaf))) .leaf))) (.node (.join [(132, .bool)] .leaf) (.node (.node .leaf (.node (.join [(146, .bool)] .leaf) .leaf)) .leaf))))) .leaf) .leaf))) .leaf))) .leaf))))))))

theorem f6_eq (p0_n : Int) (p1_steps : SV) (h0 : H) (post : Value → H → Prop) : exec Try.prog (bodyOf Try.f6) f6_hint (retQ Try.prog Try.f6 post) (F0 [(Value.int .i64 p0_n), (Value.slice p1_steps.a p1_steps.len p1_steps.cap)]) h0 = f6_sem p0_n p1_steps h0 post := by kernel_rfl

set_option maxRecDepth 20000 in
theorem f6_call (p0_n : Int) (p1_steps : SV) (h0 : H) (post : Value → H → Prop) (hx : f6_sem p0_n p1_steps h0 post) : SemCall Try.prog 6 (List.toArray [(Value.int .i64 p0_n), (Value.slice p1_steps.a p1_steps.len p1_steps.cap)]) h0 post :=
 sem_of_exec (g := f6_hint) mixed Try.func6 (bodyOf_eq (by kernel_rfl)) (by kernel_rfl) ((f6_eq p0_n p1_steps h0 post).mpr hx)

/- latchgarth/latchgarthlaw3.spoilt -/
def f18_J1 (x3 : Option Addr) (I64 : Nat → SV → Int → H → Prop) (n65 : Nat) (x68_out : SV) (x69_i : Int) (x72 : SV) (h106 : H) : Prop :=
 VIf (((x72.len : Nat) : Int) == (1 : Int)) (
 ∃ b107 : Addr, x72.a = some b107 ∧ 0 ≤ (0 : Int) ∧ (0 : Int) < ((x72.len : Nat) : Int) ∧
 ∃ x108 : Int, H.rd h106 (Addr.add (Addr.add b107 (((0 : Int)).toNat * 1)) 0) (Value.int .i64 x108) ∧
 SemCall Go.Proofs.Try.prog 23 (List.toArray [(Value.pointer x3), (Value.int .i64 x108)]) h106 fun v109 h110 =>
 ∃ x111 : Bool, ∃ x112 : Int, ∃ x113 : Option (TypeId × Value), v109 = (Value.tuple (List.toArray [(Value.bool x111), (Value.int .i64 x112), (errV x113)])) ∧
 ∃ R114 : Bool → H → Prop, (
 VIf x111 (
 ∃ b115 : Addr, x72.a = some b115 ∧ 0 ≤ (0 : Int) ∧ (0 : Int) < ((x72.len : Nat) : Int) ∧
 ∃ x116 : Int, H.rd h110 (Addr.add (Addr.add b115 (((0 : Int)).toNat * 1)) 0) (Value.int .i64 x116) ∧
 (∃ h117, Gh h110 h117 ∧ R114 (x116 == (0 : Int)) h117)) (
 (∃ h118, Gh h110 h118 ∧ R114 false h118))) ∧
 ∀ (_ : F) (x119 : Bool) (h120 : H), R114 x119 h120 →
 VIf x119 (
 H.new h120 [(Value.int .i64 x112)] fun r121 h122 =>
 appVC Go.Proofs.Try.prog 22 (Value.slice x68_out.a x68_out.len x68_out.cap) (Value.slice (some (Addr.mk r121 0 none)) 1 1) h122 fun x123 h124 =>
 In64 (x69_i + (1 : Int)) ∧
 ∃ m66, m66 < n65 ∧ (∃ h125, Gh h124 h125 ∧ I64 m66 x123 (x69_i + (1 : Int)) h125)) (
 In64 (x69_i + (1 : Int)) ∧
 ∃ m66, m66 < n65 ∧ (∃ h126, Gh h120 h126 ∧ I64 m66 x68_out (x69_i + (1 : Int)) h126))) (
 In64 (x69_i + (1 : Int)) ∧
 ∃ m66, m66 < n65 ∧ (∃ h127, Gh h106 h127 ∧ I64 m66 x68_out (x69_i + (1 : Int)) h127))

def f18_J2 (x3 : Option Addr) (I64 : Nat → SV → Int → H → Prop) (n65 : Nat) (x68_out : SV) (x69_i : Int) (x72 : SV) (x96 : Bool) (h97 : H) : Prop :=
 ∃ R98 : H → Prop, (
 VIf x96 (
 ∃ b99 : Addr, x72.a = some b99 ∧ 0 ≤ (0 : Int) ∧ (0 : Int) < ((x72.len : Nat) : Int) ∧
 ∃ x100 : Int, H.rd h97 (Addr.add (Addr.add b99 (((0 : Int)).toNat * 1)) 0) (Value.int .i64 x100) ∧
 SemCall Go.Proofs.Try.prog 21 (List.toArray [(Value.pointer x3), (Value.int .i64 x100)]) h97 fun v101 h102 =>
 ∃ x103 : Option (TypeId × Value), v101 = (errV x103) ∧
 (∃ h104, Gh h102 h104 ∧ R98 h104)) (
 (∃ h105, Gh h97 h105 ∧ R98 h105))) ∧
 ∀ (_ : F) (h106 : H), R98 h106 →
 f18_J1 x3 I64 n65 x68_out x69_i x72 h106

def f18_J3 (x3 : Option Addr) (I64 : Nat → SV → Int → H → Prop) (n65 : Nat) (x68_out : SV) (x69_i : Int) (x72 : SV) (x78 : Bool) (h79 : H) : Prop :=
 ∃ R80 : H → Prop, (
 VIf x78 (
 ∃ b81 : Addr, x72.a = some b81 ∧ 0 ≤ (0 : Int) ∧ (0 : Int) < ((x72.len : Nat) : Int) ∧
 ∃ x82 : Int, H.rd h79 (Addr.add (Addr.add b81 (((0 : Int)).toNat * 1)) 0) (Value.int .i64 x82) ∧
 ∃ b83 : Addr, x72.a = some b83 ∧ 0 ≤ (1 : Int) ∧ (1 : Int) < ((x72.len : Nat) : Int) ∧
 ∃ x84 : Int, H.rd h79 (Addr.add (Addr.add b83 (((1 : Int)).toNat * 1)) 0) (Value.int .i64 x84) ∧
 SemCall Go.Proofs.Try.prog 22 (List.toArray [(Value.pointer x3), (Value.int .i64 x82), (Value.int .i64 x84)]) h79 fun v85 h86 =>
 ∃ x87 : Option (TypeId × Value), v85 = (errV x87) ∧
 (∃ h88, Gh h86 h88 ∧ R80 h88)) (
 (∃ h89, Gh h79 h89 ∧ R80 h89))) ∧
 ∀ (_ : F) (h90 : H), R80 h90 →
 ∃ R91 : Bool → H → Prop, (
 VIf (((x72.len : Nat) : Int) == (2 : Int)) (
 ∃ b92 : Addr, x72.a = some b92 ∧ 0 ≤ (1 : Int) ∧ (1 : Int) < ((x72.len : Nat) : Int) ∧
 ∃ x93 : Int, H.rd h90 (Addr.add (Addr.add b92 (((1 : Int)).toNat * 1)) 0) (Value.int .i64 x93) ∧
 (∃ h94, Gh h90 h94 ∧ R91 (decide (x93 < (0 : Int))) h94)) (
 (∃ h95, Gh h90 h95 ∧ R91 false h95))) ∧
 ∀ (_ : F) (x96 : Bool) (h97 : H), R91 x96 h97 →
 f18_J2 x3 I64 n65 x68_out x69_i x72 x96 h97

def f18_L4 (x3 : Option Addr) (r61 : Nat) (R63 : SV → H → Prop) (I64 : Nat → SV → Int → H → Prop) (n65 : Nat) (x68_out : SV) (x69_i : Int) (h70 : H) : Prop :=
 VIf (decide (x69_i < ((28 : Nat) : Int))) (
 ∃ b71 : Addr, (some (Addr.mk r61 0 none)) = some b71 ∧ 0 ≤ x69_i ∧ x69_i < ((28 : Nat) : Int) ∧
 ∃ x72 : SV, H.rd h70 (Addr.add (Addr.add b71 ((x69_i).toNat * 1)) 0) (Value.slice x72.a x72.len x72.cap) ∧
 ∃ R73 : Bool → H → Prop, (
 VIf (((x72.len : Nat) : Int) == (2 : Int)) (
 ∃ b74 : Addr, x72.a = some b74 ∧ 0 ≤ (1 : Int) ∧ (1 : Int) < ((x72.len : Nat) : Int) ∧
 ∃ x75 : Int, H.rd h70 (Addr.add (Addr.add b74 (((1 : Int)).toNat * 1)) 0) (Value.int .i64 x75) ∧
 (∃ h76, Gh h70 h76 ∧ R73 (decide (x75 ≥ (0 : Int))) h76)) (
 (∃ h77, Gh h70 h77 ∧ R73 false h77))) ∧
 ∀ (_ : F) (x78 : Bool) (h79 : H), R73 x78 h79 →
 f18_J3 x3 I64 n65 x68_out x69_i x72 x78 h79) (
 (∃ h128, Gh h70 h128 ∧ R63 x68_out h128))

def f18_sem (p0_tags : Bool) (h0 : H) (post : Value → H → Prop) : Prop :=
 SemCall Go.Proofs.Try.prog 20 (List.toArray [(Value.int .i64 (3 : Int)), (Value.bool p0_tags)]) h0 fun v1 h2 =>
 ∃ x3 : Option Addr, ∃ x4 : Option (TypeId × Value), v1 = (Value.tuple (List.toArray [(Value.pointer x3), (errV x4)])) ∧
 isIfaceV (errV x4) = true ∧
 VIf (!(isNilV (errV x4))) (
 VRet h2 (Value.slice none 0 0) post) (
 H.new h2 [(Value.int .i64 (1 : Int)), (Value.int .i64 (7 : Int))] fun r5 h6 =>
 H.new h6 [(Value.int .i64 (1 : Int))] fun r7 h8 =>
 H.new h8 [(Value.int .i64 (1 : Int))] fun r9 h10 =>
 H.new h10 [(Value.int .i64 (1 : Int)), (Value.int .i64 (8 : Int))] fun r11 h12 =>
 H.new h12 [(Value.int .i64 (1 : Int))] fun r13 h14 =>
 H.new h14 [(Value.int .i64 (1 : Int))] fun r15 h16 =>
 H.new h16 [(Value.int .i64 0), (Value.int .i64 (-1 : Int))] fun r17 h18 =>
 H.new h18 [(Value.int .i64 0)] fun r19 h20 =>
 H.new h20 [(Value.int .i64 0)] fun r21 h22 =>
 H.new h22 [(Value.int .i64 (1 : Int)), (Value.int .i64 (-1 : Int))] fun r23 h24 =>
 H.new h24 [(Value.int .i64 (1 : Int))] fun r25 h26 =>
 H.new h26 [(Value.int .i64 (1 : Int))] fun r27 h28 =>
 H.new h28 [(Value.int .i64 (1 : Int))] fun r29 h30 =>
 H.new h30 [(Value.int .i64 (2 : Int)), (Value.int .i64 (9 : Int))] fun r31 h32 =>
 H.new h32 [(Value.int .i64 (1 : Int)), (Value.int .i64 (-1 : Int))] fun r33 h34 =>
 H.new h34 [(Value.int .i64 (1 : Int))] fun r35 h36 =>
 H.new h36 [(Value.int .i64 (1 : Int))] fun r37 h38 =>
 H.new h38 [(Value.int .i64 (1 : Int))] fun r39 h40 =>
 H.new h40 [(Value.int .i64 (2 : Int))] fun r41 h42 =>
 H.new h42 [(Value.int .i64 (2 : Int))] fun r43 h44 =>
 H.new h44 [(Value.int .i64 0)] fun r45 h46 =>
 H.new h46 [(Value.int .i64 0)] fun r47 h48 =>
 H.new h48 [(Value.int .i64 0)] fun r49 h50 =>
 H.new h50 [(Value.int .i64 0)] fun r51 h52 =>
 H.new h52 [(Value.int .i64 0), (Value.int .i64 (-1 : Int))] fun r53 h54 =>
 H.new h54 [(Value.int .i64 0)] fun r55 h56 =>
 H.new h56 [(Value.int .i64 0)] fun r57 h58 =>
 H.new h58 [(Value.int .i64 0)] fun r59 h60 =>
 H.new h60 [(Value.slice (some (Addr.mk r5 0 none)) 2 2), (Value.slice (some (Addr.mk r7 0 none)) 1 1), (Value.slice (some (Addr.mk r9 0 none)) 1 1), (Value.slice (some (Addr.mk r11 0 none)) 2 2), (Value.slice (some (Addr.mk r13 0 none)) 1 1), (Value.slice (some (Addr.mk r15 0 none)) 1 1), (Value.slice (some (Addr.mk r17 0 none)) 2 2), (Value.slice (some (Addr.mk r19 0 none)) 1 1), (Value.slice (some (Addr.mk r21 0 none)) 1 1), (Value.slice (some (Addr.mk r23 0 none)) 2 2), (Value.slice (some (Addr.mk r25 0 none)) 1 1), (Value.slice (some (Addr.mk r27 0 none)) 1 1), (Value.slice (some (Addr.mk r29 0 none)) 1 1), (Value.slice (some (Addr.mk r31 0 none)) 2 2), (Value.slice (some (Addr.mk r33 0 none)) 2 2), (Value.slice (some (Addr.mk r35 0 none)) 1 1), (Value.slice (some (Addr.mk r37 0 none)) 1 1), (Value.slice (some (Addr.mk r39 0 none)) 1 1), (Value.slice (some (Addr.mk r41 0 none)) 1 1), (Value.slice (some (Addr.mk r43 0 none)) 1 1), (Value.slice (some (Addr.mk r45 0 none)) 1 1), (Value.slice (some (Addr.mk r47 0 none)) 1 1), (Value.slice (some (Addr.mk r49 0 none)) 1 1), (Value.slice (some (Addr.mk r51 0 none)) 1 1), (Value.slice (some (Addr.mk r53 0 none)) 2 2), (Value.slice (some (Addr.mk r55 0 none)) 1 1), (Value.slice (some (Addr.mk r57 0 none)) 1 1), (Value.slice (some (Addr.mk r59 0 none)) 1 1)] fun r61 h62 =>
 ∃ R63 : SV → H → Prop, (
 ∃ I64 : Nat → SV → Int → H → Prop, (∃ n65, (∃ h67, Gh h62 h67 ∧ I64 n65 (SV.mk none 0 0) (0 : Int) h67)) ∧
 ∀ (n65 : Nat) (_ : F) (x68_out : SV) (x69_i : Int) (h70 : H), I64 n65 x68_out x69_i h70 →
 f18_L4 x3 r61 R63 I64 n65 x68_out x69_i h70) ∧
 ∀ (_ : F) (x129_out : SV) (h130 : H), R63 x129_out h130 →
 VRet h130 (Value.slice x129_out.a x129_out.len x129_out.cap) post)

def f18_hint : Hint := (.node .leaf (.node .leaf (.node .leaf (.node .leaf (.node .leaf (.node (.node .leaf (.join [(6, .sl)] (.node (.loop [(6, .sl), (7, .int)] (.node .leaf (.node (.node (.node .leaf (.node (.node (.join [(66, .bool)] .leaf) (.join [] (.node (.tail 7) .leaf))) (.node (.node (.join [(83, .bool)] .leaf) (.join [] .leaf)) (.node .leaf (.node (.node .leaf (.node (.join [(107, .bool)] .leaf) .leaf)) .leaf))))) .leaf) .leaf))) .leaf))) .leaf))))))

theorem f18_eq (p0_tags : Bool) (h0 : H) (post : Value → H → Prop) : exec Try.prog (bodyOf Try.f18) f18_hint (retQ Try.prog Try.f18 post) (F0 [(Value.bool p0_tags)]) h0 = f18_sem p0_tags h0 post := by kernel_rfl

set_option maxRecDepth 20000 in
theorem f18_call (p0_tags : Bool) (h0 : H) (post : Value → H → Prop) (hx : f18_sem p0_tags h0 post) : SemCall Try.prog 18 (List.toArray [(Value.bool p0_tags)]) h0 post :=
 sem_of_exec (g := f18_hint) mixed Try.func18 (bodyOf_eq (by kernel_rfl)) (by kernel_rfl) ((f18_eq p0_tags h0 post).mpr hx)

/- latchgarth/stack.New -/
def f20_sem (p0_n : Int) (p1_tags : Bool) (h0 : H) (post : Value → H → Prop) : Prop :=
 SemCall Go.Proofs.Try.prog 25 (List.toArray [(Value.int .i64 p0_n)]) h0 fun v1 h2 =>
 ∃ x3 : Option (TypeId × Value), v1 = (errV x3) ∧
 isIfaceV (errV x3) = true ∧
 VIf (!(isNilV (errV x3))) (
 VRet h2 (Value.tuple (List.toArray [(Value.pointer none), (errV x3)])) post) (
 0 ≤ p0_n ∧ p0_n ≤ p0_n ∧ ((40 : Nat) : Int) * p0_n ≤ 140737488355328 ∧ p0_n ≤ 1000000000 ∧
 H.new h2 (repl (p0_n).toNat [(Value.int .i64 0), (Value.int .i64 0), (Value.int .i64 0), (Value.int .i64 0), (Value.int .i64 0)]) fun r4 h5 =>
 H.new h5 [(Value.bool p1_tags), (Value.int .i64 (-1 : Int)), (Value.int .i64 0), (Value.int .i64 0), (Value.int .i64 0), (Value.bool false), (Value.int .i64 0), (Value.int .i64 0), (Value.bool false), (Value.int .i64 0), (Value.int .i64 0), (Value.bool false), (Value.int .i64 0), (Value.int .i64 0), (Value.bool false), (Value.slice (some (Addr.mk r4 0 none)) ((p0_n).toNat) ((p0_n).toNat))] fun r6 h7 =>
 VRet h7 (Value.tuple (List.toArray [(Value.pointer (some (Addr.mk r6 0 none))), Value.nilIface])) post)

def f20_hint : Hint := .leaf

theorem f20_eq (p0_n : Int) (p1_tags : Bool) (h0 : H) (post : Value → H → Prop) : exec Try.prog (bodyOf Try.f20) f20_hint (retQ Try.prog Try.f20 post) (F0 [(Value.int .i64 p0_n), (Value.bool p1_tags)]) h0 = f20_sem p0_n p1_tags h0 post := by kernel_rfl

set_option maxRecDepth 20000 in
theorem f20_call (p0_n : Int) (p1_tags : Bool) (h0 : H) (post : Value → H → Prop) (hx : f20_sem p0_n p1_tags h0 post) : SemCall Try.prog 20 (List.toArray [(Value.int .i64 p0_n), (Value.bool p1_tags)]) h0 post :=
 sem_of_exec (g := f20_hint) mixed Try.func20 (bodyOf_eq (by kernel_rfl)) (by kernel_rfl) ((f20_eq p0_n p1_tags h0 post).mpr hx)

/- (*latchgarth/stack.Stack).Pop -/
def f21_sem (p0_s : Option Addr) (p1_p : Int) (h0 : H) (post : Value → H → Prop) : Prop :=
 SemCall Go.Proofs.Try.prog 30 (List.toArray [(Value.pointer p0_s), (Value.int .i64 p1_p)]) h0 fun v1 h2 =>
 ∃ x3 : Option (TypeId × Value), v1 = (errV x3) ∧
 isIfaceV (errV x3) = true ∧
 VIf (!(isNilV (errV x3))) (
 VRet h2 (errV x3) post) (
 ∃ a4 : Addr, p0_s = some a4 ∧
 ∃ x5 : SV, H.rd h2 (Addr.add (Addr.add a4 15) 0) (Value.slice x5.a x5.len x5.cap) ∧
 ∃ b6 : Addr, x5.a = some b6 ∧ 0 ≤ p1_p ∧ p1_p < ((x5.len : Nat) : Int) ∧
 ([(Value.int .i64 (3 : Int)), (Value.int .i64 0), (Value.int .i64 0), (Value.int .i64 0), (Value.int .i64 0)]).length = 5 ∧ (Program.underlying Go.Proofs.Try.prog 78).isSome = true ∧
 H.wr h2 (Addr.add b6 ((p1_p).toNat * 5)) ([(Value.int .i64 (3 : Int)), (Value.int .i64 0), (Value.int .i64 0), (Value.int .i64 0), (Value.int .i64 0)]) fun h7 =>
 VRet h7 Value.nilIface post)

def f21_hint : Hint := .leaf

theorem f21_eq (p0_s : Option Addr) (p1_p : Int) (h0 : H) (post : Value → H → Prop) : exec Try.prog (bodyOf Try.f21) f21_hint (retQ Try.prog Try.f21 post) (F0 [(Value.pointer p0_s), (Value.int .i64 p1_p)]) h0 = f21_sem p0_s p1_p h0 post := by kernel_rfl

set_option maxRecDepth 20000 in
theorem f21_call (p0_s : Option Addr) (p1_p : Int) (h0 : H) (post : Value → H → Prop) (hx : f21_sem p0_s p1_p h0 post) : SemCall Try.prog 21 (List.toArray [(Value.pointer p0_s), (Value.int .i64 p1_p)]) h0 post :=
 sem_of_exec (g := f21_hint) mixed Try.func21 (bodyOf_eq (by kernel_rfl)) (by kernel_rfl) ((f21_eq p0_s p1_p h0 post).mpr hx)

/- (*latchgarth/stack.Stack).Push -/
def f22_sem (p0_s : Option Addr) (p1_p : Int) (p2_value : Int) (h0 : H) (post : Value → H → Prop) : Prop :=
 SemCall Go.Proofs.Try.prog 26 (List.toArray [(Value.int .i64 p2_value), (Value.int .i64 0), (Value.int .i64 (1000 : Int))]) h0 fun v1 h2 =>
 ∃ x3 : Bool, v1 = (Value.bool x3) ∧
 VIf (!x3) (
 VRet h2 (Value.iface 57 (Value.int .i64 (1 : Int))) post) (
 SemCall Go.Proofs.Try.prog 30 (List.toArray [(Value.pointer p0_s), (Value.int .i64 p1_p)]) h2 fun v4 h5 =>
 ∃ x6 : Option (TypeId × Value), v4 = (errV x6) ∧
 isIfaceV (errV x6) = true ∧
 VIf (!(isNilV (errV x6))) (
 VRet h5 (errV x6) post) (
 ∃ a7 : Addr, p0_s = some a7 ∧
 SemCall Go.Proofs.Try.prog 31 (List.toArray [(Value.slice (some (Addr.add (Addr.add a7 3) 0)) 4 4), (Value.func (.func 32) #[] #[])]) h5 fun v8 h9 =>
 ∃ x10 : Int, v8 = (Value.int .i64 x10) ∧
 VIf (decide (x10 < (0 : Int))) (
 VRet h9 (Value.iface 57 (Value.int .i64 (4 : Int))) post) (
 ∃ R11 : H → Prop, (
 ∃ a12 : Addr, p0_s = some a12 ∧
 0 ≤ x10 ∧ x10 < ((4 : Nat) : Int) ∧
 ∃ a13 : Addr, p0_s = some a13 ∧
 H.wr h9 (Addr.add (Addr.add (Addr.add a12 3) ((x10).toNat * 3)) 0) ([(Value.int .i64 p2_value)]) fun h14 =>
 0 ≤ x10 ∧ x10 < ((4 : Nat) : Int) ∧
 H.wr h14 (Addr.add (Addr.add (Addr.add a13 3) ((x10).toNat * 3)) 2) ([(Value.bool true)]) fun h15 =>
 (∃ h16, Gh h15 h16 ∧ R11 h16)) ∧
 ∀ (_ : F) (h17 : H), R11 h17 →
 ∃ a18 : Addr, p0_s = some a18 ∧
 ∃ x19 : SV, H.rd h17 (Addr.add (Addr.add a18 15) 0) (Value.slice x19.a x19.len x19.cap) ∧
 ∃ b20 : Addr, x19.a = some b20 ∧ 0 ≤ p1_p ∧ p1_p < ((x19.len : Nat) : Int) ∧
 ([(Value.int .i64 (1 : Int)), (Value.int .i64 x10), (Value.int .i64 0), (Value.int .i64 0), (Value.int .i64 0)]).length = 5 ∧ (Program.underlying Go.Proofs.Try.prog 78).isSome = true ∧
 H.wr h17 (Addr.add b20 ((p1_p).toNat * 5)) ([(Value.int .i64 (1 : Int)), (Value.int .i64 x10), (Value.int .i64 0), (Value.int .i64 0), (Value.int .i64 0)]) fun h21 =>
 VRet h21 Value.nilIface post)))

def f22_hint : Hint := (.node .leaf (.node .leaf (.node .leaf (.node .leaf (.node .leaf (.node (.join [] .any) .leaf))))))

theorem f22_eq (p0_s : Option Addr) (p1_p : Int) (p2_value : Int) (h0 : H) (post : Value → H → Prop) : exec Try.prog (bodyOf Try.f22) f22_hint (retQ Try.prog Try.f22 post) (F0 [(Value.pointer p0_s), (Value.int .i64 p1_p), (Value.int .i64 p2_value)]) h0 = f22_sem p0_s p1_p p2_value h0 post := by kernel_rfl

set_option maxRecDepth 20000 in
theorem f22_call (p0_s : Option Addr) (p1_p : Int) (p2_value : Int) (h0 : H) (post : Value → H → Prop) (hx : f22_sem p0_s p1_p p2_value h0 post) : SemCall Try.prog 22 (List.toArray [(Value.pointer p0_s), (Value.int .i64 p1_p), (Value.int .i64 p2_value)]) h0 post :=
 sem_of_exec (g := f22_hint) mixed Try.func22 (bodyOf_eq (by kernel_rfl)) (by kernel_rfl) ((f22_eq p0_s p1_p p2_value h0 post).mpr hx)

/- (*latchgarth/stack.Stack).Step -/
def f23_sem (p0_s : Option Addr) (p1_p : Int) (h0 : H) (post : Value → H → Prop) : Prop :=
 ∃ a1 : Addr, p0_s = some a1 ∧
 ∃ x2 : SV, H.rd h0 (Addr.add (Addr.add a1 15) 0) (Value.slice x2.a x2.len x2.cap) ∧
 In64 (((x2.len : Nat) : Int) - (1 : Int)) ∧
 SemCall Go.Proofs.Try.prog 26 (List.toArray [(Value.int .i64 p1_p), (Value.int .i64 0), (Value.int .i64 (((x2.len : Nat) : Int) - (1 : Int)))]) h0 fun v3 h4 =>
 ∃ x5 : Bool, v3 = (Value.bool x5) ∧
 VIf (!x5) (
 VRet h4 (Value.tuple (List.toArray [(Value.bool false), (Value.int .i64 0), (Value.iface 57 (Value.int .i64 (1 : Int)))])) post) (
 ∃ a6 : Addr, p0_s = some a6 ∧
 ∃ x7 : SV, H.rd h4 (Addr.add (Addr.add a6 15) 0) (Value.slice x7.a x7.len x7.cap) ∧
 ∃ b8 : Addr, x7.a = some b8 ∧ 0 ≤ p1_p ∧ p1_p < ((x7.len : Nat) : Int) ∧
 ∃ a9 : Addr, (some (Addr.add b8 ((p1_p).toNat * 5))) = some a9 ∧
 ∃ x10 : Int, H.rd h4 (Addr.add (Addr.add a9 0) 0) (Value.int .i64 x10) ∧
 VIf (x10 == (0 : Int)) (
 VRet h4 (Value.tuple (List.toArray [(Value.bool false), (Value.int .i64 0), (Value.iface 57 (Value.int .i64 (7 : Int)))])) post) (
 VIf (x10 == (1 : Int)) (
 ∃ a11 : Addr, p0_s = some a11 ∧
 ∃ x12 : Int, H.rd h4 (Addr.add (Addr.add a11 1) 0) (Value.int .i64 x12) ∧
 ∃ x13 : Int, H.rd h4 (Addr.add (Addr.add a11 1) 1) (Value.int .i64 x13) ∧
 ∃ a14 : Addr, (some (Addr.add b8 ((p1_p).toNat * 5))) = some a14 ∧
 ([(Value.int .i64 x12), (Value.int .i64 x13)]).length = 2 ∧ (Program.underlying Go.Proofs.Try.prog 70).isSome = true ∧
 H.wr h4 (Addr.add a14 3) ([(Value.int .i64 x12), (Value.int .i64 x13)]) fun h15 =>
 ∃ a16 : Addr, (some (Addr.add b8 ((p1_p).toNat * 5))) = some a16 ∧
 ∃ x17 : Int, H.rd h15 (Addr.add (Addr.add a16 1) 0) (Value.int .i64 x17) ∧
 ∃ a18 : Addr, (some (Addr.add b8 ((p1_p).toNat * 5))) = some a18 ∧
 ∃ x19 : Int, H.rd h15 (Addr.add (Addr.add (Addr.add a18 3) 0) 0) (Value.int .i64 x19) ∧
 ∃ a20 : Addr, p0_s = some a20 ∧
 0 ≤ x17 ∧ x17 < ((4 : Nat) : Int) ∧
 H.wr h15 (Addr.add (Addr.add (Addr.add a20 3) ((x17).toNat * 3)) 1) ([(Value.int .i64 x19)]) fun h21 =>
 ∃ a22 : Addr, (some (Addr.add b8 ((p1_p).toNat * 5))) = some a22 ∧
 H.wr h21 (Addr.add a22 0) ([(Value.int .i64 (2 : Int))]) fun h23 =>
 VRet h23 (Value.tuple (List.toArray [(Value.bool false), (Value.int .i64 0), Value.nilIface])) post) (
 VIf (x10 == (2 : Int)) (
 ∃ a24 : Addr, (some (Addr.add b8 ((p1_p).toNat * 5))) = some a24 ∧
 ∃ x25 : Int, H.rd h4 (Addr.add (Addr.add a24 3) 0) (Value.int .i64 x25) ∧
 ∃ x26 : Int, H.rd h4 (Addr.add (Addr.add a24 3) 1) (Value.int .i64 x26) ∧
 ∃ a27 : Addr, (some (Addr.add b8 ((p1_p).toNat * 5))) = some a27 ∧
 ∃ x28 : Int, H.rd h4 (Addr.add (Addr.add a27 1) 0) (Value.int .i64 x28) ∧
 SemCall Go.Proofs.Try.prog 33 (List.toArray [(Value.pointer p0_s), (Value.agg (List.toArray [(Value.int .i64 x25), (Value.int .i64 x26)])), (Value.int .i64 x28)]) h4 fun v29 h30 =>
 ∃ x31 : Bool, v29 = (Value.bool x31) ∧
 VIf x31 (
 ∃ a32 : Addr, (some (Addr.add b8 ((p1_p).toNat * 5))) = some a32 ∧
 ([(Value.int .i64 0), (Value.int .i64 0), (Value.int .i64 0), (Value.int .i64 0), (Value.int .i64 0)]).length = 5 ∧ (Program.underlying Go.Proofs.Try.prog 78).isSome = true ∧
 H.wr h30 a32 ([(Value.int .i64 0), (Value.int .i64 0), (Value.int .i64 0), (Value.int .i64 0), (Value.int .i64 0)]) fun h33 =>
 VRet h33 (Value.tuple (List.toArray [(Value.bool true), (Value.int .i64 (-1 : Int)), Value.nilIface])) post) (
 ∃ a34 : Addr, (some (Addr.add b8 ((p1_p).toNat * 5))) = some a34 ∧
 H.wr h30 (Addr.add a34 0) ([(Value.int .i64 (1 : Int))]) fun h35 =>
 VRet h35 (Value.tuple (List.toArray [(Value.bool false), (Value.int .i64 0), Value.nilIface])) post)) (
 VIf (x10 == (3 : Int)) (
 ∃ a36 : Addr, p0_s = some a36 ∧
 ∃ x37 : Int, H.rd h4 (Addr.add (Addr.add a36 1) 0) (Value.int .i64 x37) ∧
 ∃ x38 : Int, H.rd h4 (Addr.add (Addr.add a36 1) 1) (Value.int .i64 x38) ∧
 ∃ a39 : Addr, (some (Addr.add b8 ((p1_p).toNat * 5))) = some a39 ∧
 ([(Value.int .i64 x37), (Value.int .i64 x38)]).length = 2 ∧ (Program.underlying Go.Proofs.Try.prog 70).isSome = true ∧
 H.wr h4 (Addr.add a39 3) ([(Value.int .i64 x37), (Value.int .i64 x38)]) fun h40 =>
 ∃ a41 : Addr, (some (Addr.add b8 ((p1_p).toNat * 5))) = some a41 ∧
 ∃ x42 : Int, H.rd h40 (Addr.add (Addr.add (Addr.add a41 3) 0) 0) (Value.int .i64 x42) ∧
 VIf (decide (x42 < (0 : Int))) (
 ∃ a43 : Addr, (some (Addr.add b8 ((p1_p).toNat * 5))) = some a43 ∧
 ([(Value.int .i64 0), (Value.int .i64 0), (Value.int .i64 0), (Value.int .i64 0), (Value.int .i64 0)]).length = 5 ∧ (Program.underlying Go.Proofs.Try.prog 78).isSome = true ∧
 H.wr h40 a43 ([(Value.int .i64 0), (Value.int .i64 0), (Value.int .i64 0), (Value.int .i64 0), (Value.int .i64 0)]) fun h44 =>
 VRet h44 (Value.tuple (List.toArray [(Value.bool true), (Value.int .i64 (-1 : Int)), Value.nilIface])) post) (
 ∃ a45 : Addr, (some (Addr.add b8 ((p1_p).toNat * 5))) = some a45 ∧
 H.wr h40 (Addr.add a45 0) ([(Value.int .i64 (4 : Int))]) fun h46 =>
 VRet h46 (Value.tuple (List.toArray [(Value.bool false), (Value.int .i64 0), Value.nilIface])) post)) (
 VIf (x10 == (4 : Int)) (
 ∃ a47 : Addr, (some (Addr.add b8 ((p1_p).toNat * 5))) = some a47 ∧
 ∃ x48 : Int, H.rd h4 (Addr.add (Addr.add (Addr.add a47 3) 0) 0) (Value.int .i64 x48) ∧
 ∃ a49 : Addr, p0_s = some a49 ∧
 0 ≤ x48 ∧ x48 < ((4 : Nat) : Int) ∧
 ∃ x50 : Int, H.rd h4 (Addr.add (Addr.add (Addr.add (Addr.add a49 3) ((x48).toNat * 3)) 1) 0) (Value.int .i64 x50) ∧
 ∃ a51 : Addr, (some (Addr.add b8 ((p1_p).toNat * 5))) = some a51 ∧
 H.wr h4 (Addr.add a51 2) ([(Value.int .i64 x50)]) fun h52 =>
 ∃ a53 : Addr, (some (Addr.add b8 ((p1_p).toNat * 5))) = some a53 ∧
 H.wr h52 (Addr.add a53 0) ([(Value.int .i64 (5 : Int))]) fun h54 =>
 VRet h54 (Value.tuple (List.toArray [(Value.bool false), (Value.int .i64 0), Value.nilIface])) post) (
 VIf (x10 == (5 : Int)) (
 ∃ a55 : Addr, (some (Addr.add b8 ((p1_p).toNat * 5))) = some a55 ∧
 ∃ x56 : Int, H.rd h4 (Addr.add (Addr.add a55 3) 0) (Value.int .i64 x56) ∧
 ∃ x57 : Int, H.rd h4 (Addr.add (Addr.add a55 3) 1) (Value.int .i64 x57) ∧
 ∃ a58 : Addr, (some (Addr.add b8 ((p1_p).toNat * 5))) = some a58 ∧
 ∃ x59 : Int, H.rd h4 (Addr.add (Addr.add a58 2) 0) (Value.int .i64 x59) ∧
 SemCall Go.Proofs.Try.prog 33 (List.toArray [(Value.pointer p0_s), (Value.agg (List.toArray [(Value.int .i64 x56), (Value.int .i64 x57)])), (Value.int .i64 x59)]) h4 fun v60 h61 =>
 ∃ x62 : Bool, v60 = (Value.bool x62) ∧
 VIf x62 (
 ∃ a63 : Addr, (some (Addr.add b8 ((p1_p).toNat * 5))) = some a63 ∧
 ∃ x64 : Int, H.rd h61 (Addr.add (Addr.add (Addr.add a63 3) 0) 0) (Value.int .i64 x64) ∧
 ∃ a65 : Addr, p0_s = some a65 ∧
 0 ≤ x64 ∧ x64 < ((4 : Nat) : Int) ∧
 ∃ x66 : Int, H.rd h61 (Addr.add (Addr.add (Addr.add (Addr.add a65 3) ((x64).toNat * 3)) 0) 0) (Value.int .i64 x66) ∧
 ∃ a67 : Addr, p0_s = some a67 ∧
 0 ≤ x64 ∧ x64 < ((4 : Nat) : Int) ∧
 H.wr h61 (Addr.add (Addr.add (Addr.add a67 3) ((x64).toNat * 3)) 2) ([(Value.bool false)]) fun h68 =>
 ∃ a69 : Addr, (some (Addr.add b8 ((p1_p).toNat * 5))) = some a69 ∧
 ([(Value.int .i64 0), (Value.int .i64 0), (Value.int .i64 0), (Value.int .i64 0), (Value.int .i64 0)]).length = 5 ∧ (Program.underlying Go.Proofs.Try.prog 78).isSome = true ∧
 H.wr h68 a69 ([(Value.int .i64 0), (Value.int .i64 0), (Value.int .i64 0), (Value.int .i64 0), (Value.int .i64 0)]) fun h70 =>
 VRet h70 (Value.tuple (List.toArray [(Value.bool true), (Value.int .i64 x66), Value.nilIface])) post) (
 ∃ a71 : Addr, (some (Addr.add b8 ((p1_p).toNat * 5))) = some a71 ∧
 H.wr h61 (Addr.add a71 0) ([(Value.int .i64 (3 : Int))]) fun h72 =>
 VRet h72 (Value.tuple (List.toArray [(Value.bool false), (Value.int .i64 0), Value.nilIface])) post)) (
 VRet h4 (Value.tuple (List.toArray [(Value.bool false), (Value.int .i64 0), Value.nilIface])) post)))))))

def f23_hint : Hint := (.node .leaf (.node .leaf (.node .leaf (.node (.node .leaf (.node (.node .leaf (.node .leaf (.node .leaf (.node (.node .leaf (.node (.tail 14) .leaf)) (.node .leaf (.node (.node (.node (.tail 9) .leaf) .leaf) (.node .leaf (.node .leaf (.node .leaf (.node (.node (.tail 14) .leaf) (.node .leaf (.node (.node (.node (.tail 9) .leaf) .leaf) .leaf)))))))))))) .leaf)) .leaf))))

theorem f23_eq (p0_s : Option Addr) (p1_p : Int) (h0 : H) (post : Value → H → Prop) : exec Try.prog (bodyOf Try.f23) f23_hint (retQ Try.prog Try.f23 post) (F0 [(Value.pointer p0_s), (Value.int .i64 p1_p)]) h0 = f23_sem p0_s p1_p h0 post := by kernel_rfl

set_option maxRecDepth 20000 in
theorem f23_call (p0_s : Option Addr) (p1_p : Int) (h0 : H) (post : Value → H → Prop) (hx : f23_sem p0_s p1_p h0 post) : SemCall Try.prog 23 (List.toArray [(Value.pointer p0_s), (Value.int .i64 p1_p)]) h0 post :=
 sem_of_exec (g := f23_hint) mixed Try.func23 (bodyOf_eq (by kernel_rfl)) (by kernel_rfl) ((f23_eq p0_s p1_p h0 post).mpr hx)

/- latchgarth/latchgarthlaw3.row -/
def f24_sem (p0_object : Int) (p1_h : SV) (h0 : H) (post : Value → H → Prop) : Prop :=
 SemCall Go.Proofs.Try.prog 34 (List.toArray [(Value.int .i64 p0_object), (Value.slice p1_h.a p1_h.len p1_h.cap)]) h0 fun v1 h2 =>
 ∃ x3 : Bool, ∃ x4 : SV, ∃ x5 : Option (TypeId × Value), v1 = (Value.tuple (List.toArray [(Value.bool x3), (Value.slice x4.a x4.len x4.cap), (errV x5)])) ∧
 ∃ R6 : Bool → H → Prop, (
 isIfaceV (errV x5) = true ∧
 VIf (isNilV (errV x5)) (
 (∃ h7, Gh h2 h7 ∧ R6 x3 h7)) (
 (∃ h8, Gh h2 h8 ∧ R6 false h8))) ∧
 ∀ (_ : F) (x9 : Bool) (h10 : H), R6 x9 h10 →
 VRet h10 (Value.bool x9) post

def f24_hint : Hint := (.node .leaf (.node .leaf (.node (.join [(4, .bool)] .leaf) .leaf)))

theorem f24_eq (p0_object : Int) (p1_h : SV) (h0 : H) (post : Value → H → Prop) : exec Try.prog (bodyOf Try.f24) f24_hint (retQ Try.prog Try.f24 post) (F0 [(Value.int .i64 p0_object), (Value.slice p1_h.a p1_h.len p1_h.cap)]) h0 = f24_sem p0_object p1_h h0 post := by kernel_rfl

set_option maxRecDepth 20000 in
theorem f24_call (p0_object : Int) (p1_h : SV) (h0 : H) (post : Value → H → Prop) (hx : f24_sem p0_object p1_h h0 post) : SemCall Try.prog 24 (List.toArray [(Value.int .i64 p0_object), (Value.slice p1_h.a p1_h.len p1_h.cap)]) h0 post :=
 sem_of_exec (g := f24_hint) mixed Try.func24 (bodyOf_eq (by kernel_rfl)) (by kernel_rfl) ((f24_eq p0_object p1_h h0 post).mpr hx)

/- (*latchgarth/stack.Stack).free -/
def f30_sem (p0_s : Option Addr) (p1_p : Int) (h0 : H) (post : Value → H → Prop) : Prop :=
 ∃ a1 : Addr, p0_s = some a1 ∧
 ∃ x2 : SV, H.rd h0 (Addr.add (Addr.add a1 15) 0) (Value.slice x2.a x2.len x2.cap) ∧
 In64 (((x2.len : Nat) : Int) - (1 : Int)) ∧
 SemCall Go.Proofs.Try.prog 26 (List.toArray [(Value.int .i64 p1_p), (Value.int .i64 0), (Value.int .i64 (((x2.len : Nat) : Int) - (1 : Int)))]) h0 fun v3 h4 =>
 ∃ x5 : Bool, v3 = (Value.bool x5) ∧
 VIf (!x5) (
 VRet h4 (Value.iface 57 (Value.int .i64 (1 : Int))) post) (
 ∃ a6 : Addr, p0_s = some a6 ∧
 ∃ x7 : SV, H.rd h4 (Addr.add (Addr.add a6 15) 0) (Value.slice x7.a x7.len x7.cap) ∧
 ∃ b8 : Addr, x7.a = some b8 ∧ 0 ≤ p1_p ∧ p1_p < ((x7.len : Nat) : Int) ∧
 ∃ x9 : Int, H.rd h4 (Addr.add (Addr.add (Addr.add b8 ((p1_p).toNat * 5)) 0) 0) (Value.int .i64 x9) ∧
 VIf (x9 != (0 : Int)) (
 VRet h4 (Value.iface 57 (Value.int .i64 (7 : Int))) post) (
 VRet h4 Value.nilIface post))

def f30_hint : Hint := .leaf

theorem f30_eq (p0_s : Option Addr) (p1_p : Int) (h0 : H) (post : Value → H → Prop) : exec Try.prog (bodyOf Try.f30) f30_hint (retQ Try.prog Try.f30 post) (F0 [(Value.pointer p0_s), (Value.int .i64 p1_p)]) h0 = f30_sem p0_s p1_p h0 post := by kernel_rfl

set_option maxRecDepth 20000 in
theorem f30_call (p0_s : Option Addr) (p1_p : Int) (h0 : H) (post : Value → H → Prop) (hx : f30_sem p0_s p1_p h0 post) : SemCall Try.prog 30 (List.toArray [(Value.pointer p0_s), (Value.int .i64 p1_p)]) h0 post :=
 sem_of_exec (g := f30_hint) mixed Try.func30 (bodyOf_eq (by kernel_rfl)) (by kernel_rfl) ((f30_eq p0_s p1_p h0 post).mpr hx)

/- 31 slices.IndexFunc[[]latchgarth/stack.node,latchgarth/stack.node] : NOT MADE: call of ('any', 'p1_f') -/
/- (*latchgarth/stack.Stack).Push$1 -/
def f32_sem (p0_0_n : Int) (p0_1_n : Int) (p0_2_n : Bool) (h0 : H) (post : Value → H → Prop) : Prop :=
 H.new h0 [(Value.int .i64 p0_0_n), (Value.int .i64 p0_1_n), (Value.bool p0_2_n)] fun r1 h2 =>
 ∃ x3 : Bool, H.rd h2 (Addr.add (Addr.add (Addr.mk r1 0 none) 2) 0) (Value.bool x3) ∧
 VRet h2 (Value.bool (!x3)) post

def f32_hint : Hint := .leaf

theorem f32_eq (p0_0_n : Int) (p0_1_n : Int) (p0_2_n : Bool) (h0 : H) (post : Value → H → Prop) : exec Try.prog (bodyOf Try.f32) f32_hint (retQ Try.prog Try.f32 post) (F0 [(Value.agg (List.toArray [(Value.int .i64 p0_0_n), (Value.int .i64 p0_1_n), (Value.bool p0_2_n)]))]) h0 = f32_sem p0_0_n p0_1_n p0_2_n h0 post := by kernel_rfl

set_option maxRecDepth 20000 in
theorem f32_call (p0_0_n : Int) (p0_1_n : Int) (p0_2_n : Bool) (h0 : H) (post : Value → H → Prop) (hx : f32_sem p0_0_n p0_1_n p0_2_n h0 post) : SemCall Try.prog 32 (List.toArray [(Value.agg (List.toArray [(Value.int .i64 p0_0_n), (Value.int .i64 p0_1_n), (Value.bool p0_2_n)]))]) h0 post :=
 sem_of_exec (g := f32_hint) mixed Try.func32 (bodyOf_eq (by kernel_rfl)) (by kernel_rfl) ((f32_eq p0_0_n p0_1_n p0_2_n h0 post).mpr hx)

/- (*latchgarth/stack.Stack).change -/
def f33_sem (p0_s : Option Addr) (p1_0_seen : Int) (p1_1_seen : Int) (p2_node : Int) (h0 : H) (post : Value → H → Prop) : Prop :=
 H.new h0 [(Value.int .i64 p1_0_seen), (Value.int .i64 p1_1_seen)] fun r1 h2 =>
 ∃ a3 : Addr, p0_s = some a3 ∧
 ∃ x4 : Bool, H.rd h2 (Addr.add (Addr.add a3 0) 0) (Value.bool x4) ∧
 ∃ R5 : Int → H → Prop, (
 VIf x4 (
 ∃ x6 : Int, H.rd h2 (Addr.add (Addr.add (Addr.mk r1 0 none) 1) 0) (Value.int .i64 x6) ∧
 In64 (x6 + (1 : Int)) ∧
 (∃ h7, Gh h2 h7 ∧ R5 (x6 + (1 : Int)) h7)) (
 (∃ h8, Gh h2 h8 ∧ R5 (0 : Int) h8))) ∧
 ∀ (_ : F) (x9_tag : Int) (h10 : H), R5 x9_tag h10 →
 ∃ a11 : Addr, p0_s = some a11 ∧
 ∃ x12 : Int, H.rd h10 (Addr.add (Addr.mk r1 0 none) 0) (Value.int .i64 x12) ∧
 ∃ x13 : Int, H.rd h10 (Addr.add (Addr.mk r1 0 none) 1) (Value.int .i64 x13) ∧
 SemCall Go.Proofs.Try.prog 35 (List.toArray [(Value.pointer (some (Addr.add a11 1))), (Value.agg (List.toArray [(Value.int .i64 x12), (Value.int .i64 x13)])), (Value.agg (List.toArray [(Value.int .i64 p2_node), (Value.int .i64 x9_tag)]))]) h10 fun v14 h15 =>
 ∃ x16 : Bool, v14 = (Value.bool x16) ∧
 VRet h15 (Value.bool x16) post

def f33_hint : Hint := (.node .leaf (.node .leaf (.node (.node .leaf (.join [(7, .int)] .leaf)) (.node (.tail 7) .leaf))))

theorem f33_eq (p0_s : Option Addr) (p1_0_seen : Int) (p1_1_seen : Int) (p2_node : Int) (h0 : H) (post : Value → H → Prop) : exec Try.prog (bodyOf Try.f33) f33_hint (retQ Try.prog Try.f33 post) (F0 [(Value.pointer p0_s), (Value.agg (List.toArray [(Value.int .i64 p1_0_seen), (Value.int .i64 p1_1_seen)])), (Value.int .i64 p2_node)]) h0 = f33_sem p0_s p1_0_seen p1_1_seen p2_node h0 post := by kernel_rfl

set_option maxRecDepth 20000 in
theorem f33_call (p0_s : Option Addr) (p1_0_seen : Int) (p1_1_seen : Int) (p2_node : Int) (h0 : H) (post : Value → H → Prop) (hx : f33_sem p0_s p1_0_seen p1_1_seen p2_node h0 post) : SemCall Try.prog 33 (List.toArray [(Value.pointer p0_s), (Value.agg (List.toArray [(Value.int .i64 p1_0_seen), (Value.int .i64 p1_1_seen)])), (Value.int .i64 p2_node)]) h0 post :=
 sem_of_exec (g := f33_hint) mixed Try.func33 (bodyOf_eq (by kernel_rfl)) (by kernel_rfl) ((f33_eq p0_s p1_0_seen p1_1_seen p2_node h0 post).mpr hx)

/- 35 latchgarth/core.Cas[latchgarth/stack.top] : NOT MADE: binOp neq ('agg', [('int', 'x6'), ('int', 'x7')]) ('agg', [('int', 'x8'), ('int', 'x9')]) -/
/- latchgarth/core.Has -/
def f39_sem (p0_set : Int) (p1_i : Int) (h0 : H) (post : Value → H → Prop) : Prop :=
 0 ≤ p1_i ∧ p1_i ≤ 63 ∧
 VRet h0 (Value.bool ((bitsV .and (Int.fdiv p0_set (2 ^ (p1_i).toNat)) (1 : Int)) == (1 : Int))) post

def f39_hint : Hint := .leaf

theorem f39_eq (p0_set : Int) (p1_i : Int) (h0 : H) (post : Value → H → Prop) : exec Try.prog (bodyOf Try.f39) f39_hint (retQ Try.prog Try.f39 post) (F0 [(Value.int .i64 p0_set), (Value.int .i64 p1_i)]) h0 = f39_sem p0_set p1_i h0 post := by kernel_rfl

set_option maxRecDepth 20000 in
theorem f39_call (p0_set : Int) (p1_i : Int) (h0 : H) (post : Value → H → Prop) (hx : f39_sem p0_set p1_i h0 post) : SemCall Try.prog 39 (List.toArray [(Value.int .i64 p0_set), (Value.int .i64 p1_i)]) h0 post :=
 sem_of_exec (g := f39_hint) mixed Try.func39 (bodyOf_eq (by kernel_rfl)) (by kernel_rfl) ((f39_eq p0_set p1_i h0 post).mpr hx)

end Go.Proofs.Ytogbkgimpkaemaa
