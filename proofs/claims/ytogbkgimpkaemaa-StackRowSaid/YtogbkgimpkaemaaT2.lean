import Derived.Test.YtogbkgimpkaemaaEngG
import Derived.Test.YtogbkgimpkaemaaRows
import Derived.Test.YtogbkgimpkaemaaT
namespace Go.Proofs.Ytogbkgimpkaemaa
open Go.Eng
/- latchgarth/latchgarthlaw3.StackRow -/
def f5_J1 (p0_n : Int) (r29 : Nat) (x36_h : SV) (x51_l : SV) (R71 : SV → H → Prop) (r76 : Nat) (x100_bad : Option (TypeId × Value)) (h101 : H) : Prop :=
 isIfaceV (errV x100_bad) = true ∧
 VIf (isNilV (errV x100_bad)) (
 ∃ b102 : Addr, x51_l.a = some b102 ∧ 0 ≤ (0 : Int) ∧ (0 : Int) < ((x51_l.len : Nat) : Int) ∧
 ∃ x103 : Int, H.rd h101 (Addr.add (Addr.add b102 (((0 : Int)).toNat * 1)) 0) (Value.int .i64 x103) ∧
 ∃ b104 : Addr, (some (Addr.mk r29 0 none)) = some b104 ∧ 0 ≤ x103 ∧ x103 < (((p0_n).toNat : Nat) : Int) ∧
 H.wr h101 (Addr.add b104 ((x103).toNat * 1)) ([(Value.int .i64 ((x36_h.len : Nat) : Int))]) fun h105 =>
 ∃ x106 : Int, H.rd h105 (Addr.add (Addr.mk r76 0 none) 0) (Value.int .i64 x106) ∧
 ∃ x107 : Int, H.rd h105 (Addr.add (Addr.mk r76 0 none) 1) (Value.int .i64 x107) ∧
 ∃ x108 : Int, H.rd h105 (Addr.add (Addr.mk r76 0 none) 2) (Value.int .i64 x108) ∧
 ∃ x109 : Int, H.rd h105 (Addr.add (Addr.mk r76 0 none) 3) (Value.int .i64 x109) ∧
 ∃ x110 : Int, H.rd h105 (Addr.add (Addr.mk r76 0 none) 4) (Value.int .i64 x110) ∧
 ∃ x111 : Int, H.rd h105 (Addr.add (Addr.mk r76 0 none) 5) (Value.int .i64 x111) ∧
 H.new h105 [(Value.int .i64 x106), (Value.int .i64 x107), (Value.int .i64 x108), (Value.int .i64 x109), (Value.int .i64 x110), (Value.int .i64 x111)] fun r112 h113 =>
 appVC Go.Proofs.Try.prog 49 (Value.slice x36_h.a x36_h.len x36_h.cap) (Value.slice (some (Addr.mk r112 0 none)) 1 1) h113 fun x114 h115 =>
 (∃ h116, Gh h115 h116 ∧ R71 x114 h116)) (
 (∃ h117, Gh h101 h117 ∧ R71 x36_h h117))

def f5_J2 (p0_n : Int) (post : Value → H → Prop) (r29 : Nat) (I32 : Nat → SV → Int → H → Prop) (n33 : Nat) (x37_i : Int) (x51_l : SV) (x119_h : SV) (x136 : Int) (x141 : Bool) (h142 : H) : Prop :=
 VIf x141 (
 ∃ b143 : Addr, x51_l.a = some b143 ∧ 0 ≤ (0 : Int) ∧ (0 : Int) < ((x51_l.len : Nat) : Int) ∧
 ∃ x144 : Int, H.rd h142 (Addr.add (Addr.add b143 (((0 : Int)).toNat * 1)) 0) (Value.int .i64 x144) ∧
 ∃ b145 : Addr, (some (Addr.mk r29 0 none)) = some b145 ∧ 0 ≤ x144 ∧ x144 < (((p0_n).toNat : Nat) : Int) ∧
 ∃ x146 : Int, H.rd h142 (Addr.add (Addr.add b145 ((x144).toNat * 1)) 0) (Value.int .i64 x146) ∧
 VIf (decide (x146 ≥ ((x119_h.len : Nat) : Int))) (
 VRet h142 (Value.bool false) post) (
 ∃ b147 : Addr, x51_l.a = some b147 ∧ 0 ≤ (0 : Int) ∧ (0 : Int) < ((x51_l.len : Nat) : Int) ∧
 ∃ x148 : Int, H.rd h142 (Addr.add (Addr.add b147 (((0 : Int)).toNat * 1)) 0) (Value.int .i64 x148) ∧
 ∃ b149 : Addr, (some (Addr.mk r29 0 none)) = some b149 ∧ 0 ≤ x148 ∧ x148 < (((p0_n).toNat : Nat) : Int) ∧
 ∃ x150 : Int, H.rd h142 (Addr.add (Addr.add b149 ((x148).toNat * 1)) 0) (Value.int .i64 x150) ∧
 ∃ b151 : Addr, x119_h.a = some b151 ∧ 0 ≤ x150 ∧ x150 < ((x119_h.len : Nat) : Int) ∧
 H.wr h142 (Addr.add (Addr.add b151 ((x150).toNat * 6)) 3) ([(Value.int .i64 x136)]) fun h152 =>
 ∃ b153 : Addr, x51_l.a = some b153 ∧ 0 ≤ (0 : Int) ∧ (0 : Int) < ((x51_l.len : Nat) : Int) ∧
 ∃ x154 : Int, H.rd h152 (Addr.add (Addr.add b153 (((0 : Int)).toNat * 1)) 0) (Value.int .i64 x154) ∧
 ∃ b155 : Addr, (some (Addr.mk r29 0 none)) = some b155 ∧ 0 ≤ x154 ∧ x154 < (((p0_n).toNat : Nat) : Int) ∧
 ∃ x156 : Int, H.rd h152 (Addr.add (Addr.add b155 ((x154).toNat * 1)) 0) (Value.int .i64 x156) ∧
 In64 ((2 : Int) * x37_i) ∧
 In64 (((2 : Int) * x37_i) + (1 : Int)) ∧
 ∃ b157 : Addr, x119_h.a = some b157 ∧ 0 ≤ x156 ∧ x156 < ((x119_h.len : Nat) : Int) ∧
 H.wr h152 (Addr.add (Addr.add b157 ((x156).toNat * 6)) 5) ([(Value.int .i64 (((2 : Int) * x37_i) + (1 : Int)))]) fun h158 =>
 In64 (x37_i + (1 : Int)) ∧
 ∃ m34, m34 < n33 ∧ (∃ h159, Gh h158 h159 ∧ I32 m34 x119_h (x37_i + (1 : Int)) h159))) (
 In64 (x37_i + (1 : Int)) ∧
 ∃ m34, m34 < n33 ∧ (∃ h160, Gh h142 h160 ∧ I32 m34 x119_h (x37_i + (1 : Int)) h160))

def f5_J3 (p0_n : Int) (post : Value → H → Prop) (x22 : Option Addr) (r29 : Nat) (I32 : Nat → SV → Int → H → Prop) (n33 : Nat) (x37_i : Int) (x51_l : SV) (x119_h : SV) (x129 : Bool) (h130 : H) : Prop :=
 VIf x129 (
 ∃ b131 : Addr, x51_l.a = some b131 ∧ 0 ≤ (0 : Int) ∧ (0 : Int) < ((x51_l.len : Nat) : Int) ∧
 ∃ x132 : Int, H.rd h130 (Addr.add (Addr.add b131 (((0 : Int)).toNat * 1)) 0) (Value.int .i64 x132) ∧
 SemCall Go.Proofs.Try.prog 23 (List.toArray [(Value.pointer x22), (Value.int .i64 x132)]) h130 fun v133 h134 =>
 ∃ x135 : Bool, ∃ x136 : Int, ∃ x137 : Option (TypeId × Value), v133 = (Value.tuple (List.toArray [(Value.bool x135), (Value.int .i64 x136), (errV x137)])) ∧
 ∃ R138 : Bool → H → Prop, (
 isIfaceV (errV x137) = true ∧
 VIf (isNilV (errV x137)) (
 (∃ h139, Gh h134 h139 ∧ R138 x135 h139)) (
 (∃ h140, Gh h134 h140 ∧ R138 false h140))) ∧
 ∀ (_ : F) (x141 : Bool) (h142 : H), R138 x141 h142 →
 f5_J2 p0_n post r29 I32 n33 x37_i x51_l x119_h x136 x141 h142) (
 In64 (x37_i + (1 : Int)) ∧
 ∃ m34, m34 < n33 ∧ (∃ h161, Gh h130 h161 ∧ I32 m34 x119_h (x37_i + (1 : Int)) h161))

def f5_J4 (p0_n : Int) (post : Value → H → Prop) (x22 : Option Addr) (r29 : Nat) (I32 : Nat → SV → Int → H → Prop) (n33 : Nat) (x37_i : Int) (x51_l : SV) (x119_h : SV) (h120 : H) : Prop :=
 ∃ R121 : Bool → H → Prop, (
 VIf (((x51_l.len : Nat) : Int) == (1 : Int)) (
 ∃ b122 : Addr, x51_l.a = some b122 ∧ 0 ≤ (0 : Int) ∧ (0 : Int) < ((x51_l.len : Nat) : Int) ∧
 ∃ x123 : Int, H.rd h120 (Addr.add (Addr.add b122 (((0 : Int)).toNat * 1)) 0) (Value.int .i64 x123) ∧
 In64 (p0_n - (1 : Int)) ∧
 SemCall Go.Proofs.Try.prog 17 (List.toArray [(Value.int .i64 x123), (Value.int .i64 0), (Value.int .i64 (p0_n - (1 : Int)))]) h120 fun v124 h125 =>
 ∃ x126 : Bool, v124 = (Value.bool x126) ∧
 (∃ h127, Gh h125 h127 ∧ R121 x126 h127)) (
 (∃ h128, Gh h120 h128 ∧ R121 false h128))) ∧
 ∀ (_ : F) (x129 : Bool) (h130 : H), R121 x129 h130 →
 f5_J3 p0_n post x22 r29 I32 n33 x37_i x51_l x119_h x129 h130

def f5_J5 (p0_n : Int) (post : Value → H → Prop) (x22 : Option Addr) (r29 : Nat) (I32 : Nat → SV → Int → H → Prop) (n33 : Nat) (x36_h : SV) (x37_i : Int) (x51_l : SV) (x69 : Bool) (h70 : H) : Prop :=
 ∃ R71 : SV → H → Prop, (
 VIf x69 (
 ∃ b72 : Addr, x51_l.a = some b72 ∧ 0 ≤ (0 : Int) ∧ (0 : Int) < ((x51_l.len : Nat) : Int) ∧
 ∃ b73 : Addr, x51_l.a = some b73 ∧ 0 ≤ (1 : Int) ∧ (1 : Int) < ((x51_l.len : Nat) : Int) ∧
 In64 ((2 : Int) * x37_i) ∧
 ∃ x74 : Int, H.rd h70 (Addr.add (Addr.add b72 (((0 : Int)).toNat * 1)) 0) (Value.int .i64 x74) ∧
 ∃ x75 : Int, H.rd h70 (Addr.add (Addr.add b73 (((1 : Int)).toNat * 1)) 0) (Value.int .i64 x75) ∧
 H.new h70 [(Value.int .i64 0), (Value.int .i64 0), (Value.int .i64 0), (Value.int .i64 0), (Value.int .i64 0), (Value.int .i64 0)] fun r76 h77 =>
 ([(Value.int .i64 x74), (Value.int .i64 0), (Value.int .i64 x75), (Value.int .i64 0), (Value.int .i64 ((2 : Int) * x37_i)), (Value.int .i64 0)]).length = 6 ∧ (Program.underlying Go.Proofs.Try.prog 51).isSome = true ∧
 H.wr h77 (Addr.mk r76 0 none) ([(Value.int .i64 x74), (Value.int .i64 0), (Value.int .i64 x75), (Value.int .i64 0), (Value.int .i64 ((2 : Int) * x37_i)), (Value.int .i64 0)]) fun h78 =>
 ∃ b79 : Addr, x51_l.a = some b79 ∧ 0 ≤ (1 : Int) ∧ (1 : Int) < ((x51_l.len : Nat) : Int) ∧
 ∃ x80 : Int, H.rd h78 (Addr.add (Addr.add b79 (((1 : Int)).toNat * 1)) 0) (Value.int .i64 x80) ∧
 ∃ R81 : Option (TypeId × Value) → H → Prop, (
 VIf (decide (x80 < (0 : Int))) (
 H.wr h78 (Addr.add (Addr.mk r76 0 none) 1) ([(Value.int .i64 (1 : Int))]) fun h82 =>
 H.wr h82 (Addr.add (Addr.mk r76 0 none) 2) ([(Value.int .i64 0)]) fun h83 =>
 ∃ b84 : Addr, x51_l.a = some b84 ∧ 0 ≤ (0 : Int) ∧ (0 : Int) < ((x51_l.len : Nat) : Int) ∧
 ∃ x85 : Int, H.rd h83 (Addr.add (Addr.add b84 (((0 : Int)).toNat * 1)) 0) (Value.int .i64 x85) ∧
 SemCall Go.Proofs.Try.prog 21 (List.toArray [(Value.pointer x22), (Value.int .i64 x85)]) h83 fun v86 h87 =>
 ∃ x88 : Option (TypeId × Value), v86 = (errV x88) ∧
 (∃ o89, (errV x88) = errV o89 ∧ ∃ h90, Gh h87 h90 ∧ R81 o89 h90)) (
 ∃ b91 : Addr, x51_l.a = some b91 ∧ 0 ≤ (0 : Int) ∧ (0 : Int) < ((x51_l.len : Nat) : Int) ∧
 ∃ x92 : Int, H.rd h78 (Addr.add (Addr.add b91 (((0 : Int)).toNat * 1)) 0) (Value.int .i64 x92) ∧
 ∃ b93 : Addr, x51_l.a = some b93 ∧ 0 ≤ (1 : Int) ∧ (1 : Int) < ((x51_l.len : Nat) : Int) ∧
 ∃ x94 : Int, H.rd h78 (Addr.add (Addr.add b93 (((1 : Int)).toNat * 1)) 0) (Value.int .i64 x94) ∧
 SemCall Go.Proofs.Try.prog 22 (List.toArray [(Value.pointer x22), (Value.int .i64 x92), (Value.int .i64 x94)]) h78 fun v95 h96 =>
 ∃ x97 : Option (TypeId × Value), v95 = (errV x97) ∧
 (∃ o98, (errV x97) = errV o98 ∧ ∃ h99, Gh h96 h99 ∧ R81 o98 h99))) ∧
 ∀ (_ : F) (x100_bad : Option (TypeId × Value)) (h101 : H), R81 x100_bad h101 →
 f5_J1 p0_n r29 x36_h x51_l R71 r76 x100_bad h101) (
 (∃ h118, Gh h70 h118 ∧ R71 x36_h h118))) ∧
 ∀ (_ : F) (x119_h : SV) (h120 : H), R71 x119_h h120 →
 f5_J4 p0_n post x22 r29 I32 n33 x37_i x51_l x119_h h120

def f5_J6 (p0_n : Int) (post : Value → H → Prop) (x22 : Option Addr) (r29 : Nat) (I32 : Nat → SV → Int → H → Prop) (n33 : Nat) (x36_h : SV) (x37_i : Int) (x51_l : SV) (h52 : H) : Prop :=
 ∃ R53 : Bool → H → Prop, (
 VIf (((x51_l.len : Nat) : Int) == (2 : Int)) (
 VIf (decide (x37_i < (160 : Int))) (
 VIf (decide (((x36_h.len : Nat) : Int) < (8 : Int))) (
 ∃ b54 : Addr, x51_l.a = some b54 ∧ 0 ≤ (0 : Int) ∧ (0 : Int) < ((x51_l.len : Nat) : Int) ∧
 ∃ x55 : Int, H.rd h52 (Addr.add (Addr.add b54 (((0 : Int)).toNat * 1)) 0) (Value.int .i64 x55) ∧
 In64 (p0_n - (1 : Int)) ∧
 SemCall Go.Proofs.Try.prog 17 (List.toArray [(Value.int .i64 x55), (Value.int .i64 0), (Value.int .i64 (p0_n - (1 : Int)))]) h52 fun v56 h57 =>
 ∃ x58 : Bool, v56 = (Value.bool x58) ∧
 VIf x58 (
 ∃ b59 : Addr, x51_l.a = some b59 ∧ 0 ≤ (1 : Int) ∧ (1 : Int) < ((x51_l.len : Nat) : Int) ∧
 ∃ x60 : Int, H.rd h57 (Addr.add (Addr.add b59 (((1 : Int)).toNat * 1)) 0) (Value.int .i64 x60) ∧
 SemCall Go.Proofs.Try.prog 17 (List.toArray [(Value.int .i64 x60), (Value.int .i64 (-1 : Int)), (Value.int .i64 (1000 : Int))]) h57 fun v61 h62 =>
 ∃ x63 : Bool, v61 = (Value.bool x63) ∧
 (∃ h64, Gh h62 h64 ∧ R53 x63 h64)) (
 (∃ h65, Gh h57 h65 ∧ R53 false h65))) (
 (∃ h66, Gh h52 h66 ∧ R53 false h66))) (
 (∃ h67, Gh h52 h67 ∧ R53 false h67))) (
 (∃ h68, Gh h52 h68 ∧ R53 false h68))) ∧
 ∀ (_ : F) (x69 : Bool) (h70 : H), R53 x69 h70 →
 f5_J5 p0_n post x22 r29 I32 n33 x36_h x37_i x51_l x69 h70

def f5_L7 (p0_n : Int) (p1_steps : SV) (post : Value → H → Prop) (x22 : Option Addr) (r29 : Nat) (R31 : SV → H → Prop) (I32 : Nat → SV → Int → H → Prop) (n33 : Nat) (x36_h : SV) (x37_i : Int) (h38 : H) : Prop :=
 VIf (decide (x37_i < (240 : Int))) (
 p0_n ≠ 0 ∧
 H.new h38 [(Value.int .i64 (Int.tmod x37_i p0_n))] fun r39 h40 =>
 ∃ R41 : Bool → H → Prop, (
 VIf (decide (x37_i < ((p1_steps.len : Nat) : Int))) (
 (∃ h42, Gh h40 h42 ∧ R41 (decide (x37_i < (160 : Int))) h42)) (
 (∃ h43, Gh h40 h43 ∧ R41 false h43))) ∧
 ∀ (_ : F) (x44 : Bool) (h45 : H), R41 x44 h45 →
 ∃ R46 : SV → H → Prop, (
 VIf x44 (
 ∃ b47 : Addr, p1_steps.a = some b47 ∧ 0 ≤ x37_i ∧ x37_i < ((p1_steps.len : Nat) : Int) ∧
 ∃ x48 : SV, H.rd h45 (Addr.add (Addr.add b47 ((x37_i).toNat * 1)) 0) (Value.slice x48.a x48.len x48.cap) ∧
 (∃ h49, Gh h45 h49 ∧ R46 x48 h49)) (
 (∃ h50, Gh h45 h50 ∧ R46 (SV.mk (some (Addr.mk r39 0 none)) 1 1) h50))) ∧
 ∀ (_ : F) (x51_l : SV) (h52 : H), R46 x51_l h52 →
 f5_J6 p0_n post x22 r29 I32 n33 x36_h x37_i x51_l h52) (
 (∃ h162, Gh h38 h162 ∧ R31 x36_h h162))

def f5_J8 (p0_n : Int) (p1_steps : SV) (post : Value → H → Prop) (x18 : Bool) (h19 : H) : Prop :=
 VIf x18 (
 VRet h19 (Value.bool false) post) (
 SemCall Go.Proofs.Try.prog 20 (List.toArray [(Value.int .i64 p0_n), (Value.bool true)]) h19 fun v20 h21 =>
 ∃ x22 : Option Addr, ∃ x23 : Option (TypeId × Value), v20 = (Value.tuple (List.toArray [(Value.pointer x22), (errV x23)])) ∧
 isIfaceV (errV x23) = true ∧
 VIf (!(isNilV (errV x23))) (
 ∃ R24 : Bool → H → Prop, (
 VIf (decide (p0_n < (1 : Int))) (
 (∃ h25, Gh h21 h25 ∧ R24 true h25)) (
 (∃ h26, Gh h21 h26 ∧ R24 (decide (p0_n > (4 : Int))) h26))) ∧
 ∀ (_ : F) (x27 : Bool) (h28 : H), R24 x27 h28 →
 VRet h28 (Value.bool x27) post) (
 0 ≤ p0_n ∧ p0_n ≤ p0_n ∧ ((8 : Nat) : Int) * p0_n ≤ 140737488355328 ∧ p0_n ≤ 1000000000 ∧
 H.new h21 (repl (p0_n).toNat [(Value.int .i64 0)]) fun r29 h30 =>
 ∃ R31 : SV → H → Prop, (
 ∃ I32 : Nat → SV → Int → H → Prop, (∃ n33, (∃ h35, Gh h30 h35 ∧ I32 n33 (SV.mk none 0 0) (0 : Int) h35)) ∧
 ∀ (n33 : Nat) (_ : F) (x36_h : SV) (x37_i : Int) (h38 : H), I32 n33 x36_h x37_i h38 →
 f5_L7 p0_n p1_steps post x22 r29 R31 I32 n33 x36_h x37_i h38) ∧
 ∀ (_ : F) (x163_h : SV) (h164 : H), R31 x163_h h164 →
 SemCall Go.Proofs.Try.prog 24 (List.toArray [(Value.int .i64 (1 : Int)), (Value.slice x163_h.a x163_h.len x163_h.cap)]) h164 fun v165 h166 =>
 ∃ x167 : Bool, v165 = (Value.bool x167) ∧
 VRet h166 (Value.bool x167) post))

def f5_sem (p0_n : Int) (p1_steps : SV) (h0 : H) (post : Value → H → Prop) : Prop :=
 SemCall Go.Proofs.Try.prog 18 (List.toArray [(Value.bool true)]) h0 fun v1 h2 =>
 ∃ x3 : SV, v1 = (Value.slice x3.a x3.len x3.cap) ∧
 SemCall Go.Proofs.Try.prog 18 (List.toArray [(Value.bool false)]) h2 fun v4 h5 =>
 ∃ x6 : SV, v4 = (Value.slice x6.a x6.len x6.cap) ∧
 ∃ R7 : Bool → H → Prop, (
 H.new h5 [(Value.int .i64 (9 : Int)), (Value.int .i64 (-1 : Int))] fun r8 h9 =>
 SemCall Go.Proofs.Try.prog 19 (List.toArray [(Value.slice x3.a x3.len x3.cap), (Value.slice (some (Addr.mk r8 0 none)) 2 2)]) h9 fun v10 h11 =>
 ∃ x12 : Bool, v10 = (Value.bool x12) ∧
 VIf (!x12) (
 (∃ h13, Gh h11 h13 ∧ R7 true h13)) (
 SemCall Go.Proofs.Try.prog 19 (List.toArray [(Value.slice x6.a x6.len x6.cap), (Value.slice x3.a x3.len x3.cap)]) h11 fun v14 h15 =>
 ∃ x16 : Bool, v14 = (Value.bool x16) ∧
 (∃ h17, Gh h15 h17 ∧ R7 x16 h17))) ∧
 ∀ (_ : F) (x18 : Bool) (h19 : H), R7 x18 h19 →
 f5_J8 p0_n p1_steps post x18 h19

def f5_hint : Hint := (.node .leaf (.node .leaf (.node .leaf (.node (.node (.join [(28, .bool)] .leaf) .leaf) (.node .leaf (.node (.node .leaf (.node (.node (.join [(4, .bool)] .leaf) .leaf) .leaf)) (.node .leaf (.node .leaf (.node (.node .leaf (.join [(10, .sl)] (.node (.loop [(10, .sl), (11, .int)] (.node .leaf (.node (.node (.node .leaf (.node (.node (.join [(59, .bool)] .leaf) (.join [(12, .sl)] .leaf)) (.node (.node (.join [(89, .bool)] .leaf) (.join [(10, .sl)] (.node (.node .lex (.node .leaf (.node (.node .leaf (.join [(14, .err)] (.node .leaf (.tail 7)))) .leaf))) .leaf))) (.node (.join [(141, .bool)] .leaf) (.node (.node .leaf (.node (.join [(155, .bool)] .leaf) .leaf)) .leaf))))) .leaf) .leaf))) .leaf))) .leaf)))))))))

theorem f5_eq (p0_n : Int) (p1_steps : SV) (h0 : H) (post : Value → H → Prop) : exec Try.prog (bodyOf Try.f5) f5_hint (retQ Try.prog Try.f5 post) (F0 [(Value.int .i64 p0_n), (Value.slice p1_steps.a p1_steps.len p1_steps.cap)]) h0 = f5_sem p0_n p1_steps h0 post := by kernel_rfl

set_option maxRecDepth 20000 in
theorem f5_call (p0_n : Int) (p1_steps : SV) (h0 : H) (post : Value → H → Prop) (hx : f5_sem p0_n p1_steps h0 post) : SemCall Try.prog 5 (List.toArray [(Value.int .i64 p0_n), (Value.slice p1_steps.a p1_steps.len p1_steps.cap)]) h0 post :=
 sem_of_exec (g := f5_hint) mixed Try.func5 (bodyOf_eq (by kernel_rfl)) (by kernel_rfl) ((f5_eq p0_n p1_steps h0 post).mpr hx)

/- latchgarth/latchgarthlaw3.spoilt -/
def f18_J1 (x3 : Option Addr) (I64 : Nat → SV → Int → H → Prop) (n65 : Nat) (x68_out : SV) (x69_i : Int) (x72 : SV) (h106 : H) : Prop :=
 VIf (((x72.len : Nat) : Int) == (1 : Int)) (
 ∃ b107 : Addr, x72.a = some b107 ∧ 0 ≤ (0 : Int) ∧ (0 : Int) < ((x72.len : Nat) : Int) ∧
 ∃ x108 : Int, H.rd h106 (Addr.add (Addr.add b107 (((0 : Int)).toNat * 1)) 0) (Value.int .i64 x108) ∧
 SemCall Go.Proofs.Try.prog 23 (List.toArray [(Value.pointer x3), (Value.int .i64 x108)]) h106 fun v109 h110 =>
 ∃ x111 : Bool, ∃ x112 : Int, ∃ x113 : Option (TypeId × Value), v109 = (Value.tuple (List.toArray [(Value.bool x111), (Value.int .i64 x112), (errV x113)])) ∧
 ∃ R114 : Bool → H → Prop, (
 VIf x111 (
 ∃ b115 : Addr, x72.a = some b115 ∧ 0 ≤ (0 : Int) ∧ (0 : Int) < ((x72.len : Nat) : Int) ∧
 ∃ x116 : Int, H.rd h110 (Addr.add (Addr.add b115 (((0 : Int)).toNat * 1)) 0) (Value.int .i64 x116) ∧
 (∃ h117, Gh h110 h117 ∧ R114 (x116 == (0 : Int)) h117)) (
 (∃ h118, Gh h110 h118 ∧ R114 false h118))) ∧
 ∀ (_ : F) (x119 : Bool) (h120 : H), R114 x119 h120 →
 VIf x119 (
 H.new h120 [(Value.int .i64 x112)] fun r121 h122 =>
 appVC Go.Proofs.Try.prog 22 (Value.slice x68_out.a x68_out.len x68_out.cap) (Value.slice (some (Addr.mk r121 0 none)) 1 1) h122 fun x123 h124 =>
 In64 (x69_i + (1 : Int)) ∧
 ∃ m66, m66 < n65 ∧ (∃ h125, Gh h124 h125 ∧ I64 m66 x123 (x69_i + (1 : Int)) h125)) (
 In64 (x69_i + (1 : Int)) ∧
 ∃ m66, m66 < n65 ∧ (∃ h126, Gh h120 h126 ∧ I64 m66 x68_out (x69_i + (1 : Int)) h126))) (
 In64 (x69_i + (1 : Int)) ∧
 ∃ m66, m66 < n65 ∧ (∃ h127, Gh h106 h127 ∧ I64 m66 x68_out (x69_i + (1 : Int)) h127))

def f18_J2 (x3 : Option Addr) (I64 : Nat → SV → Int → H → Prop) (n65 : Nat) (x68_out : SV) (x69_i : Int) (x72 : SV) (x96 : Bool) (h97 : H) : Prop :=
 ∃ R98 : H → Prop, (
 VIf x96 (
 ∃ b99 : Addr, x72.a = some b99 ∧ 0 ≤ (0 : Int) ∧ (0 : Int) < ((x72.len : Nat) : Int) ∧
 ∃ x100 : Int, H.rd h97 (Addr.add (Addr.add b99 (((0 : Int)).toNat * 1)) 0) (Value.int .i64 x100) ∧
 SemCall Go.Proofs.Try.prog 21 (List.toArray [(Value.pointer x3), (Value.int .i64 x100)]) h97 fun v101 h102 =>
 ∃ x103 : Option (TypeId × Value), v101 = (errV x103) ∧
 (∃ h104, Gh h102 h104 ∧ R98 h104)) (
 (∃ h105, Gh h97 h105 ∧ R98 h105))) ∧
 ∀ (_ : F) (h106 : H), R98 h106 →
 f18_J1 x3 I64 n65 x68_out x69_i x72 h106

def f18_J3 (x3 : Option Addr) (I64 : Nat → SV → Int → H → Prop) (n65 : Nat) (x68_out : SV) (x69_i : Int) (x72 : SV) (x78 : Bool) (h79 : H) : Prop :=
 ∃ R80 : H → Prop, (
 VIf x78 (
 ∃ b81 : Addr, x72.a = some b81 ∧ 0 ≤ (0 : Int) ∧ (0 : Int) < ((x72.len : Nat) : Int) ∧
 ∃ x82 : Int, H.rd h79 (Addr.add (Addr.add b81 (((0 : Int)).toNat * 1)) 0) (Value.int .i64 x82) ∧
 ∃ b83 : Addr, x72.a = some b83 ∧ 0 ≤ (1 : Int) ∧ (1 : Int) < ((x72.len : Nat) : Int) ∧
 ∃ x84 : Int, H.rd h79 (Addr.add (Addr.add b83 (((1 : Int)).toNat * 1)) 0) (Value.int .i64 x84) ∧
 SemCall Go.Proofs.Try.prog 22 (List.toArray [(Value.pointer x3), (Value.int .i64 x82), (Value.int .i64 x84)]) h79 fun v85 h86 =>
 ∃ x87 : Option (TypeId × Value), v85 = (errV x87) ∧
 (∃ h88, Gh h86 h88 ∧ R80 h88)) (
 (∃ h89, Gh h79 h89 ∧ R80 h89))) ∧
 ∀ (_ : F) (h90 : H), R80 h90 →
 ∃ R91 : Bool → H → Prop, (
 VIf (((x72.len : Nat) : Int) == (2 : Int)) (
 ∃ b92 : Addr, x72.a = some b92 ∧ 0 ≤ (1 : Int) ∧ (1 : Int) < ((x72.len : Nat) : Int) ∧
 ∃ x93 : Int, H.rd h90 (Addr.add (Addr.add b92 (((1 : Int)).toNat * 1)) 0) (Value.int .i64 x93) ∧
 (∃ h94, Gh h90 h94 ∧ R91 (decide (x93 < (0 : Int))) h94)) (
 (∃ h95, Gh h90 h95 ∧ R91 false h95))) ∧
 ∀ (_ : F) (x96 : Bool) (h97 : H), R91 x96 h97 →
 f18_J2 x3 I64 n65 x68_out x69_i x72 x96 h97

def f18_L4 (x3 : Option Addr) (r61 : Nat) (R63 : SV → H → Prop) (I64 : Nat → SV → Int → H → Prop) (n65 : Nat) (x68_out : SV) (x69_i : Int) (h70 : H) : Prop :=
 VIf (decide (x69_i < ((28 : Nat) : Int))) (
 ∃ b71 : Addr, (some (Addr.mk r61 0 none)) = some b71 ∧ 0 ≤ x69_i ∧ x69_i < ((28 : Nat) : Int) ∧
 ∃ x72 : SV, H.rd h70 (Addr.add (Addr.add b71 ((x69_i).toNat * 1)) 0) (Value.slice x72.a x72.len x72.cap) ∧
 ∃ R73 : Bool → H → Prop, (
 VIf (((x72.len : Nat) : Int) == (2 : Int)) (
 ∃ b74 : Addr, x72.a = some b74 ∧ 0 ≤ (1 : Int) ∧ (1 : Int) < ((x72.len : Nat) : Int) ∧
 ∃ x75 : Int, H.rd h70 (Addr.add (Addr.add b74 (((1 : Int)).toNat * 1)) 0) (Value.int .i64 x75) ∧
 (∃ h76, Gh h70 h76 ∧ R73 (decide (x75 ≥ (0 : Int))) h76)) (
 (∃ h77, Gh h70 h77 ∧ R73 false h77))) ∧
 ∀ (_ : F) (x78 : Bool) (h79 : H), R73 x78 h79 →
 f18_J3 x3 I64 n65 x68_out x69_i x72 x78 h79) (
 (∃ h128, Gh h70 h128 ∧ R63 x68_out h128))

def f18_sem (p0_tags : Bool) (h0 : H) (post : Value → H → Prop) : Prop :=
 SemCall Go.Proofs.Try.prog 20 (List.toArray [(Value.int .i64 (3 : Int)), (Value.bool p0_tags)]) h0 fun v1 h2 =>
 ∃ x3 : Option Addr, ∃ x4 : Option (TypeId × Value), v1 = (Value.tuple (List.toArray [(Value.pointer x3), (errV x4)])) ∧
 isIfaceV (errV x4) = true ∧
 VIf (!(isNilV (errV x4))) (
 VRet h2 (Value.slice none 0 0) post) (
 H.new h2 [(Value.int .i64 (1 : Int)), (Value.int .i64 (7 : Int))] fun r5 h6 =>
 H.new h6 [(Value.int .i64 (1 : Int))] fun r7 h8 =>
 H.new h8 [(Value.int .i64 (1 : Int))] fun r9 h10 =>
 H.new h10 [(Value.int .i64 (1 : Int)), (Value.int .i64 (8 : Int))] fun r11 h12 =>
 H.new h12 [(Value.int .i64 (1 : Int))] fun r13 h14 =>
 H.new h14 [(Value.int .i64 (1 : Int))] fun r15 h16 =>
 H.new h16 [(Value.int .i64 0), (Value.int .i64 (-1 : Int))] fun r17 h18 =>
 H.new h18 [(Value.int .i64 0)] fun r19 h20 =>
 H.new h20 [(Value.int .i64 0)] fun r21 h22 =>
 H.new h22 [(Value.int .i64 (1 : Int)), (Value.int .i64 (-1 : Int))] fun r23 h24 =>
 H.new h24 [(Value.int .i64 (1 : Int))] fun r25 h26 =>
 H.new h26 [(Value.int .i64 (1 : Int))] fun r27 h28 =>
 H.new h28 [(Value.int .i64 (1 : Int))] fun r29 h30 =>
 H.new h30 [(Value.int .i64 (2 : Int)), (Value.int .i64 (9 : Int))] fun r31 h32 =>
 H.new h32 [(Value.int .i64 (1 : Int)), (Value.int .i64 (-1 : Int))] fun r33 h34 =>
 H.new h34 [(Value.int .i64 (1 : Int))] fun r35 h36 =>
 H.new h36 [(Value.int .i64 (1 : Int))] fun r37 h38 =>
 H.new h38 [(Value.int .i64 (1 : Int))] fun r39 h40 =>
 H.new h40 [(Value.int .i64 (2 : Int))] fun r41 h42 =>
 H.new h42 [(Value.int .i64 (2 : Int))] fun r43 h44 =>
 H.new h44 [(Value.int .i64 0)] fun r45 h46 =>
 H.new h46 [(Value.int .i64 0)] fun r47 h48 =>
 H.new h48 [(Value.int .i64 0)] fun r49 h50 =>
 H.new h50 [(Value.int .i64 0)] fun r51 h52 =>
 H.new h52 [(Value.int .i64 0), (Value.int .i64 (-1 : Int))] fun r53 h54 =>
 H.new h54 [(Value.int .i64 0)] fun r55 h56 =>
 H.new h56 [(Value.int .i64 0)] fun r57 h58 =>
 H.new h58 [(Value.int .i64 0)] fun r59 h60 =>
 H.new h60 [(Value.slice (some (Addr.mk r5 0 none)) 2 2), (Value.slice (some (Addr.mk r7 0 none)) 1 1), (Value.slice (some (Addr.mk r9 0 none)) 1 1), (Value.slice (some (Addr.mk r11 0 none)) 2 2), (Value.slice (some (Addr.mk r13 0 none)) 1 1), (Value.slice (some (Addr.mk r15 0 none)) 1 1), (Value.slice (some (Addr.mk r17 0 none)) 2 2), (Value.slice (some (Addr.mk r19 0 none)) 1 1), (Value.slice (some (Addr.mk r21 0 none)) 1 1), (Value.slice (some (Addr.mk r23 0 none)) 2 2), (Value.slice (some (Addr.mk r25 0 none)) 1 1), (Value.slice (some (Addr.mk r27 0 none)) 1 1), (Value.slice (some (Addr.mk r29 0 none)) 1 1), (Value.slice (some (Addr.mk r31 0 none)) 2 2), (Value.slice (some (Addr.mk r33 0 none)) 2 2), (Value.slice (some (Addr.mk r35 0 none)) 1 1), (Value.slice (some (Addr.mk r37 0 none)) 1 1), (Value.slice (some (Addr.mk r39 0 none)) 1 1), (Value.slice (some (Addr.mk r41 0 none)) 1 1), (Value.slice (some (Addr.mk r43 0 none)) 1 1), (Value.slice (some (Addr.mk r45 0 none)) 1 1), (Value.slice (some (Addr.mk r47 0 none)) 1 1), (Value.slice (some (Addr.mk r49 0 none)) 1 1), (Value.slice (some (Addr.mk r51 0 none)) 1 1), (Value.slice (some (Addr.mk r53 0 none)) 2 2), (Value.slice (some (Addr.mk r55 0 none)) 1 1), (Value.slice (some (Addr.mk r57 0 none)) 1 1), (Value.slice (some (Addr.mk r59 0 none)) 1 1)] fun r61 h62 =>
 ∃ R63 : SV → H → Prop, (
 ∃ I64 : Nat → SV → Int → H → Prop, (∃ n65, (∃ h67, Gh h62 h67 ∧ I64 n65 (SV.mk none 0 0) (0 : Int) h67)) ∧
 ∀ (n65 : Nat) (_ : F) (x68_out : SV) (x69_i : Int) (h70 : H), I64 n65 x68_out x69_i h70 →
 f18_L4 x3 r61 R63 I64 n65 x68_out x69_i h70) ∧
 ∀ (_ : F) (x129_out : SV) (h130 : H), R63 x129_out h130 →
 VRet h130 (Value.slice x129_out.a x129_out.len x129_out.cap) post)

def f18_hint : Hint := (.node .leaf (.node .leaf (.node .leaf (.node .leaf (.node .leaf (.node (.node .leaf (.join [(6, .sl)] (.node (.loop [(6, .sl), (7, .int)] (.node .leaf (.node (.node (.node .leaf (.node (.node (.join [(66, .bool)] .leaf) (.join [] (.node (.tail 7) .leaf))) (.node (.node (.join [(83, .bool)] .leaf) (.join [] .leaf)) (.node .leaf (.node (.node .leaf (.node (.join [(107, .bool)] .leaf) .leaf)) .leaf))))) .leaf) .leaf))) .leaf))) .leaf))))))

theorem f18_eq (p0_tags : Bool) (h0 : H) (post : Value → H → Prop) : exec Try.prog (bodyOf Try.f18) f18_hint (retQ Try.prog Try.f18 post) (F0 [(Value.bool p0_tags)]) h0 = f18_sem p0_tags h0 post := by kernel_rfl

set_option maxRecDepth 20000 in
theorem f18_call (p0_tags : Bool) (h0 : H) (post : Value → H → Prop) (hx : f18_sem p0_tags h0 post) : SemCall Try.prog 18 (List.toArray [(Value.bool p0_tags)]) h0 post :=
 sem_of_exec (g := f18_hint) mixed Try.func18 (bodyOf_eq (by kernel_rfl)) (by kernel_rfl) ((f18_eq p0_tags h0 post).mpr hx)

/- latchgarth/latchgarthlaw3.row -/
def f24_sem (p0_object : Int) (p1_h : SV) (h0 : H) (post : Value → H → Prop) : Prop :=
 SemCall Go.Proofs.Try.prog 34 (List.toArray [(Value.int .i64 p0_object), (Value.slice p1_h.a p1_h.len p1_h.cap)]) h0 fun v1 h2 =>
 ∃ x3 : Bool, ∃ x4 : SV, ∃ x5 : Option (TypeId × Value), v1 = (Value.tuple (List.toArray [(Value.bool x3), (Value.slice x4.a x4.len x4.cap), (errV x5)])) ∧
 ∃ R6 : Bool → H → Prop, (
 isIfaceV (errV x5) = true ∧
 VIf (isNilV (errV x5)) (
 (∃ h7, Gh h2 h7 ∧ R6 x3 h7)) (
 (∃ h8, Gh h2 h8 ∧ R6 false h8))) ∧
 ∀ (_ : F) (x9 : Bool) (h10 : H), R6 x9 h10 →
 VRet h10 (Value.bool x9) post

def f24_hint : Hint := (.node .leaf (.node .leaf (.node (.join [(4, .bool)] .leaf) .leaf)))

theorem f24_eq (p0_object : Int) (p1_h : SV) (h0 : H) (post : Value → H → Prop) : exec Try.prog (bodyOf Try.f24) f24_hint (retQ Try.prog Try.f24 post) (F0 [(Value.int .i64 p0_object), (Value.slice p1_h.a p1_h.len p1_h.cap)]) h0 = f24_sem p0_object p1_h h0 post := by kernel_rfl

set_option maxRecDepth 20000 in
theorem f24_call (p0_object : Int) (p1_h : SV) (h0 : H) (post : Value → H → Prop) (hx : f24_sem p0_object p1_h h0 post) : SemCall Try.prog 24 (List.toArray [(Value.int .i64 p0_object), (Value.slice p1_h.a p1_h.len p1_h.cap)]) h0 post :=
 sem_of_exec (g := f24_hint) mixed Try.func24 (bodyOf_eq (by kernel_rfl)) (by kernel_rfl) ((f24_eq p0_object p1_h h0 post).mpr hx)

/- latchgarth/core.Has -/
def f39_sem (p0_set : Int) (p1_i : Int) (h0 : H) (post : Value → H → Prop) : Prop :=
 0 ≤ p1_i ∧ p1_i ≤ 63 ∧
 VRet h0 (Value.bool ((bitsV .and (Int.fdiv p0_set (2 ^ (p1_i).toNat)) (1 : Int)) == (1 : Int))) post

def f39_hint : Hint := .leaf

theorem f39_eq (p0_set : Int) (p1_i : Int) (h0 : H) (post : Value → H → Prop) : exec Try.prog (bodyOf Try.f39) f39_hint (retQ Try.prog Try.f39 post) (F0 [(Value.int .i64 p0_set), (Value.int .i64 p1_i)]) h0 = f39_sem p0_set p1_i h0 post := by kernel_rfl

set_option maxRecDepth 20000 in
theorem f39_call (p0_set : Int) (p1_i : Int) (h0 : H) (post : Value → H → Prop) (hx : f39_sem p0_set p1_i h0 post) : SemCall Try.prog 39 (List.toArray [(Value.int .i64 p0_set), (Value.int .i64 p1_i)]) h0 post :=
 sem_of_exec (g := f39_hint) mixed Try.func39 (bodyOf_eq (by kernel_rfl)) (by kernel_rfl) ((f39_eq p0_set p1_i h0 post).mpr hx)

end Go.Proofs.Ytogbkgimpkaemaa
