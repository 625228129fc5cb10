import Derived.Test.YtkokdeenniejjaaDoorEngG
import Derived.Test.YtkokdeenniejjaaDoorRows
namespace Go.Proofs.YtkokdeenniejjaaDoor
open Go.Eng
theorem mixed : Tryd.prog.follows .mixedOrders = true := by kernel_rfl
/- latchgarth/latchgarthlaw4.PmemPlays -/
def f4_J1 (post : Value → H → Prop) (x3 : Option Addr) (x34 : SV) (R35 : Int → H → Prop) (x67_e : Int) (h68 : H) : Prop :=
 ∃ b69 : Addr, x34.a = some b69 ∧ 0 ≤ (1 : Int) ∧ (1 : Int) < ((x34.len : Nat) : Int) ∧
 ∃ b70 : Addr, x34.a = some b70 ∧ 0 ≤ (2 : Int) ∧ (2 : Int) < ((x34.len : Nat) : Int) ∧
 ∃ x71 : Int, H.rd h68 (Addr.add (Addr.add b69 (((1 : Int)).toNat * 1)) 0) (Value.int .i64 x71) ∧
 ∃ x72 : Int, H.rd h68 (Addr.add (Addr.add b70 (((2 : Int)).toNat * 1)) 0) (Value.int .i64 x72) ∧
 SemCall Go.Proofs.Tryd.prog 17 (List.toArray [(Value.pointer x3), (Value.int .i64 x71), (Value.int .i64 x72)]) h68 fun v73 h74 =>
 ∃ x75 : Option (TypeId × Value), v73 = (errV x75) ∧
 SemCall Go.Proofs.Tryd.prog 8 (List.toArray [(errV x75), (Value.int .i64 x67_e)]) h74 fun v76 h77 =>
 ∃ x78 : Bool, v76 = (Value.bool x78) ∧
 VIf (!x78) (
 VRet h77 (Value.bool false) post) (
 (∃ h79, Gh h77 h79 ∧ R35 x67_e h79))

def f4_J2 (post : Value → H → Prop) (x3 : Option Addr) (r18 : Nat) (x34 : SV) (R35 : Int → H → Prop) (x49 : Bool) (h50 : H) : Prop :=
 ∃ R51 : Int → H → Prop, (
 VIf x49 (
 (∃ h52, Gh h50 h52 ∧ R51 (1 : Int) h52)) (
 ∃ x53 : SV, H.rd h50 (Addr.add (Addr.mk r18 0 none) 0) (Value.slice x53.a x53.len x53.cap) ∧
 ∃ x54 : SV, H.rd h50 (Addr.add (Addr.mk r18 0 none) 1) (Value.slice x54.a x54.len x54.cap) ∧
 ∃ x55 : SV, H.rd h50 (Addr.add (Addr.mk r18 0 none) 2) (Value.slice x55.a x55.len x55.cap) ∧
 ∃ b56 : Addr, x34.a = some b56 ∧ 0 ≤ (1 : Int) ∧ (1 : Int) < ((x34.len : Nat) : Int) ∧
 ∃ x57 : Int, H.rd h50 (Addr.add (Addr.add b56 (((1 : Int)).toNat * 1)) 0) (Value.int .i64 x57) ∧
 ∃ b58 : Addr, x34.a = some b58 ∧ 0 ≤ (2 : Int) ∧ (2 : Int) < ((x34.len : Nat) : Int) ∧
 ∃ x59 : Int, H.rd h50 (Addr.add (Addr.add b58 (((2 : Int)).toNat * 1)) 0) (Value.int .i64 x59) ∧
 SemCall Go.Proofs.Tryd.prog 16 (List.toArray [(Value.agg (List.toArray [(Value.slice x53.a x53.len x53.cap), (Value.slice x54.a x54.len x54.cap), (Value.slice x55.a x55.len x55.cap)])), (Value.int .i64 x57), (Value.int .i64 x59)]) h50 fun v60 h61 =>
 ∃ x62 : SV, ∃ x63 : SV, ∃ x64 : SV, v60 = (Value.agg (List.toArray [(Value.slice x62.a x62.len x62.cap), (Value.slice x63.a x63.len x63.cap), (Value.slice x64.a x64.len x64.cap)])) ∧
 ([(Value.slice x62.a x62.len x62.cap), (Value.slice x63.a x63.len x63.cap), (Value.slice x64.a x64.len x64.cap)]).length = 3 ∧ (Program.underlying Go.Proofs.Tryd.prog 43).isSome = true ∧
 H.wr h61 (Addr.mk r18 0 none) ([(Value.slice x62.a x62.len x62.cap), (Value.slice x63.a x63.len x63.cap), (Value.slice x64.a x64.len x64.cap)]) fun h65 =>
 (∃ h66, Gh h65 h66 ∧ R51 (0 : Int) h66))) ∧
 ∀ (_ : F) (x67_e : Int) (h68 : H), R51 x67_e h68 →
 f4_J1 post x3 x34 R35 x67_e h68

def f4_J3 (post : Value → H → Prop) (x3 : Option Addr) (r18 : Nat) (I22 : Nat → Int → H → Prop) (n23 : Nat) (x26_i : Int) (x34 : SV) (h163 : H) : Prop :=
 ∃ R164 : H → Prop, (
 VIf (((x34.len : Nat) : Int) == (1 : Int)) (
 SemCall Go.Proofs.Tryd.prog 23 (List.toArray [(Value.pointer x3)]) h163 fun v165 h166 =>
 v165 = (Value.tuple (List.toArray [])) ∧
 ∃ x167 : SV, H.rd h166 (Addr.add (Addr.mk r18 0 none) 0) (Value.slice x167.a x167.len x167.cap) ∧
 ∃ x168 : SV, H.rd h166 (Addr.add (Addr.mk r18 0 none) 1) (Value.slice x168.a x168.len x168.cap) ∧
 ∃ x169 : SV, H.rd h166 (Addr.add (Addr.mk r18 0 none) 2) (Value.slice x169.a x169.len x169.cap) ∧
 SemCall Go.Proofs.Tryd.prog 24 (List.toArray [(Value.agg (List.toArray [(Value.slice x167.a x167.len x167.cap), (Value.slice x168.a x168.len x168.cap), (Value.slice x169.a x169.len x169.cap)]))]) h166 fun v170 h171 =>
 ∃ x172 : SV, ∃ x173 : SV, ∃ x174 : SV, v170 = (Value.agg (List.toArray [(Value.slice x172.a x172.len x172.cap), (Value.slice x173.a x173.len x173.cap), (Value.slice x174.a x174.len x174.cap)])) ∧
 ([(Value.slice x172.a x172.len x172.cap), (Value.slice x173.a x173.len x173.cap), (Value.slice x174.a x174.len x174.cap)]).length = 3 ∧ (Program.underlying Go.Proofs.Tryd.prog 43).isSome = true ∧
 H.wr h171 (Addr.mk r18 0 none) ([(Value.slice x172.a x172.len x172.cap), (Value.slice x173.a x173.len x173.cap), (Value.slice x174.a x174.len x174.cap)]) fun h175 =>
 (∃ h176, Gh h175 h176 ∧ R164 h176)) (
 (∃ h177, Gh h163 h177 ∧ R164 h177))) ∧
 ∀ (_ : F) (h178 : H), R164 h178 →
 ∃ x179 : SV, H.rd h178 (Addr.add (Addr.add (Addr.mk r18 0 none) 0) 0) (Value.slice x179.a x179.len x179.cap) ∧
 SemCall Go.Proofs.Tryd.prog 25 (List.toArray [(Value.pointer x3)]) h178 fun v180 h181 => OwnExt h178 h181 ∧
 ∃ x182 : SV, v180 = (Value.slice x182.a x182.len x182.cap) ∧
 SemCall Go.Proofs.Tryd.prog 12 (List.toArray [(Value.slice x182.a x182.len x182.cap), (Value.slice x179.a x179.len x179.cap)]) h181 fun v183 h184 =>
 ∃ x185 : Bool, v183 = (Value.bool x185) ∧
 VIf (!x185) (
 VRet h184 (Value.bool false) post) (
 In64 (x26_i + (1 : Int)) ∧
 ∃ m24, m24 < n23 ∧ (∃ h186, Gh h184 h186 ∧ I22 m24 (x26_i + (1 : Int)) h186))

def f4_J4 (p0_n : Int) (post : Value → H → Prop) (x3 : Option Addr) (r18 : Nat) (I22 : Nat → Int → H → Prop) (n23 : Nat) (x26_i : Int) (x34 : SV) (x122_e : Int) (x129 : Bool) (h130 : H) : Prop :=
 ∃ R131 : H → Prop, (
 VIf x129 (
 ∃ b132 : Addr, x34.a = some b132 ∧ 0 ≤ (1 : Int) ∧ (1 : Int) < ((x34.len : Nat) : Int) ∧
 ∃ x133 : Int, H.rd h130 (Addr.add (Addr.add b132 (((1 : Int)).toNat * 1)) 0) (Value.int .i64 x133) ∧
 SemCall Go.Proofs.Tryd.prog 20 (List.toArray [(Value.int .i64 x133), (Value.int .i64 p0_n)]) h130 fun v134 h135 =>
 ∃ x136 : Bool, v134 = (Value.bool x136) ∧
 ∃ R137 : Int → H → Prop, (
 VIf (!x136) (
 (∃ h138, Gh h135 h138 ∧ R137 (1 : Int) h138)) (
 ∃ x139 : SV, H.rd h135 (Addr.add (Addr.mk r18 0 none) 0) (Value.slice x139.a x139.len x139.cap) ∧
 ∃ x140 : SV, H.rd h135 (Addr.add (Addr.mk r18 0 none) 1) (Value.slice x140.a x140.len x140.cap) ∧
 ∃ x141 : SV, H.rd h135 (Addr.add (Addr.mk r18 0 none) 2) (Value.slice x141.a x141.len x141.cap) ∧
 ∃ b142 : Addr, x34.a = some b142 ∧ 0 ≤ (1 : Int) ∧ (1 : Int) < ((x34.len : Nat) : Int) ∧
 ∃ x143 : Int, H.rd h135 (Addr.add (Addr.add b142 (((1 : Int)).toNat * 1)) 0) (Value.int .i64 x143) ∧
 SemCall Go.Proofs.Tryd.prog 21 (List.toArray [(Value.agg (List.toArray [(Value.slice x139.a x139.len x139.cap), (Value.slice x140.a x140.len x140.cap), (Value.slice x141.a x141.len x141.cap)])), (Value.int .i64 x143)]) h135 fun v144 h145 =>
 ∃ x146 : SV, ∃ x147 : SV, ∃ x148 : SV, v144 = (Value.agg (List.toArray [(Value.slice x146.a x146.len x146.cap), (Value.slice x147.a x147.len x147.cap), (Value.slice x148.a x148.len x148.cap)])) ∧
 ([(Value.slice x146.a x146.len x146.cap), (Value.slice x147.a x147.len x147.cap), (Value.slice x148.a x148.len x148.cap)]).length = 3 ∧ (Program.underlying Go.Proofs.Tryd.prog 43).isSome = true ∧
 H.wr h145 (Addr.mk r18 0 none) ([(Value.slice x146.a x146.len x146.cap), (Value.slice x147.a x147.len x147.cap), (Value.slice x148.a x148.len x148.cap)]) fun h149 =>
 (∃ h150, Gh h149 h150 ∧ R137 x122_e h150))) ∧
 ∀ (_ : F) (x151_e : Int) (h152 : H), R137 x151_e h152 →
 ∃ b153 : Addr, x34.a = some b153 ∧ 0 ≤ (1 : Int) ∧ (1 : Int) < ((x34.len : Nat) : Int) ∧
 ∃ x154 : Int, H.rd h152 (Addr.add (Addr.add b153 (((1 : Int)).toNat * 1)) 0) (Value.int .i64 x154) ∧
 SemCall Go.Proofs.Tryd.prog 22 (List.toArray [(Value.pointer x3), (Value.int .i64 x154)]) h152 fun v155 h156 =>
 ∃ x157 : Option (TypeId × Value), v155 = (errV x157) ∧
 SemCall Go.Proofs.Tryd.prog 8 (List.toArray [(errV x157), (Value.int .i64 x151_e)]) h156 fun v158 h159 =>
 ∃ x160 : Bool, v158 = (Value.bool x160) ∧
 VIf (!x160) (
 VRet h159 (Value.bool false) post) (
 (∃ h161, Gh h159 h161 ∧ R131 h161))) (
 (∃ h162, Gh h130 h162 ∧ R131 h162))) ∧
 ∀ (_ : F) (h163 : H), R131 h163 →
 f4_J3 post x3 r18 I22 n23 x26_i x34 h163

def f4_J5 (p0_n : Int) (post : Value → H → Prop) (x3 : Option Addr) (r18 : Nat) (I22 : Nat → Int → H → Prop) (n23 : Nat) (x26_i : Int) (x34 : SV) (x81_e : Int) (x88 : Bool) (h89 : H) : Prop :=
 ∃ R90 : Int → H → Prop, (
 VIf x88 (
 ∃ b91 : Addr, x34.a = some b91 ∧ 0 ≤ (1 : Int) ∧ (1 : Int) < ((x34.len : Nat) : Int) ∧
 ∃ x92 : Int, H.rd h89 (Addr.add (Addr.add b91 (((1 : Int)).toNat * 1)) 0) (Value.int .i64 x92) ∧
 In64 (p0_n - (1 : Int)) ∧
 SemCall Go.Proofs.Tryd.prog 7 (List.toArray [(Value.int .i64 x92), (Value.int .i64 0), (Value.int .i64 (p0_n - (1 : Int)))]) h89 fun v93 h94 =>
 ∃ x95 : Bool, v93 = (Value.bool x95) ∧
 ∃ R96 : Int → H → Prop, (
 VIf (!x95) (
 (∃ h97, Gh h94 h97 ∧ R96 (1 : Int) h97)) (
 ∃ x98 : SV, H.rd h94 (Addr.add (Addr.mk r18 0 none) 0) (Value.slice x98.a x98.len x98.cap) ∧
 ∃ x99 : SV, H.rd h94 (Addr.add (Addr.mk r18 0 none) 1) (Value.slice x99.a x99.len x99.cap) ∧
 ∃ x100 : SV, H.rd h94 (Addr.add (Addr.mk r18 0 none) 2) (Value.slice x100.a x100.len x100.cap) ∧
 ∃ b101 : Addr, x34.a = some b101 ∧ 0 ≤ (1 : Int) ∧ (1 : Int) < ((x34.len : Nat) : Int) ∧
 ∃ x102 : Int, H.rd h94 (Addr.add (Addr.add b101 (((1 : Int)).toNat * 1)) 0) (Value.int .i64 x102) ∧
 SemCall Go.Proofs.Tryd.prog 18 (List.toArray [(Value.agg (List.toArray [(Value.slice x98.a x98.len x98.cap), (Value.slice x99.a x99.len x99.cap), (Value.slice x100.a x100.len x100.cap)])), (Value.int .i64 x102)]) h94 fun v103 h104 =>
 ∃ x105 : SV, ∃ x106 : SV, ∃ x107 : SV, v103 = (Value.agg (List.toArray [(Value.slice x105.a x105.len x105.cap), (Value.slice x106.a x106.len x106.cap), (Value.slice x107.a x107.len x107.cap)])) ∧
 ([(Value.slice x105.a x105.len x105.cap), (Value.slice x106.a x106.len x106.cap), (Value.slice x107.a x107.len x107.cap)]).length = 3 ∧ (Program.underlying Go.Proofs.Tryd.prog 43).isSome = true ∧
 H.wr h104 (Addr.mk r18 0 none) ([(Value.slice x105.a x105.len x105.cap), (Value.slice x106.a x106.len x106.cap), (Value.slice x107.a x107.len x107.cap)]) fun h108 =>
 (∃ h109, Gh h108 h109 ∧ R96 x81_e h109))) ∧
 ∀ (_ : F) (x110_e : Int) (h111 : H), R96 x110_e h111 →
 ∃ b112 : Addr, x34.a = some b112 ∧ 0 ≤ (1 : Int) ∧ (1 : Int) < ((x34.len : Nat) : Int) ∧
 ∃ x113 : Int, H.rd h111 (Addr.add (Addr.add b112 (((1 : Int)).toNat * 1)) 0) (Value.int .i64 x113) ∧
 SemCall Go.Proofs.Tryd.prog 19 (List.toArray [(Value.pointer x3), (Value.int .i64 x113)]) h111 fun v114 h115 =>
 ∃ x116 : Option (TypeId × Value), v114 = (errV x116) ∧
 SemCall Go.Proofs.Tryd.prog 8 (List.toArray [(errV x116), (Value.int .i64 x110_e)]) h115 fun v117 h118 =>
 ∃ x119 : Bool, v117 = (Value.bool x119) ∧
 VIf (!x119) (
 VRet h118 (Value.bool false) post) (
 (∃ h120, Gh h118 h120 ∧ R90 x110_e h120))) (
 (∃ h121, Gh h89 h121 ∧ R90 x81_e h121))) ∧
 ∀ (_ : F) (x122_e : Int) (h123 : H), R90 x122_e h123 →
 ∃ R124 : Bool → H → Prop, (
 VIf (((x34.len : Nat) : Int) == (2 : Int)) (
 ∃ b125 : Addr, x34.a = some b125 ∧ 0 ≤ (0 : Int) ∧ (0 : Int) < ((x34.len : Nat) : Int) ∧
 ∃ x126 : Int, H.rd h123 (Addr.add (Addr.add b125 (((0 : Int)).toNat * 1)) 0) (Value.int .i64 x126) ∧
 (∃ h127, Gh h123 h127 ∧ R124 (x126 == (1 : Int)) h127)) (
 (∃ h128, Gh h123 h128 ∧ R124 false h128))) ∧
 ∀ (_ : F) (x129 : Bool) (h130 : H), R124 x129 h130 →
 f4_J4 p0_n post x3 r18 I22 n23 x26_i x34 x122_e x129 h130

def f4_J6 (p0_n : Int) (p1_steps : SV) (post : Value → H → Prop) (x3 : Option Addr) (r18 : Nat) (R21 : H → Prop) (I22 : Nat → Int → H → Prop) (n23 : Nat) (x26_i : Int) (x31 : Bool) (h32 : H) : Prop :=
 VIf x31 (
 ∃ b33 : Addr, p1_steps.a = some b33 ∧ 0 ≤ x26_i ∧ x26_i < ((p1_steps.len : Nat) : Int) ∧
 ∃ x34 : SV, H.rd h32 (Addr.add (Addr.add b33 ((x26_i).toNat * 1)) 0) (Value.slice x34.a x34.len x34.cap) ∧
 ∃ R35 : Int → H → Prop, (
 VIf (((x34.len : Nat) : Int) == (3 : Int)) (
 ∃ R36 : Bool → H → Prop, (
 ∃ b37 : Addr, x34.a = some b37 ∧ 0 ≤ (1 : Int) ∧ (1 : Int) < ((x34.len : Nat) : Int) ∧
 ∃ x38 : Int, H.rd h32 (Addr.add (Addr.add b37 (((1 : Int)).toNat * 1)) 0) (Value.int .i64 x38) ∧
 In64 (p0_n - (1 : Int)) ∧
 SemCall Go.Proofs.Tryd.prog 7 (List.toArray [(Value.int .i64 x38), (Value.int .i64 0), (Value.int .i64 (p0_n - (1 : Int)))]) h32 fun v39 h40 =>
 ∃ x41 : Bool, v39 = (Value.bool x41) ∧
 VIf (!x41) (
 (∃ h42, Gh h40 h42 ∧ R36 true h42)) (
 ∃ b43 : Addr, x34.a = some b43 ∧ 0 ≤ (2 : Int) ∧ (2 : Int) < ((x34.len : Nat) : Int) ∧
 ∃ x44 : Int, H.rd h40 (Addr.add (Addr.add b43 (((2 : Int)).toNat * 1)) 0) (Value.int .i64 x44) ∧
 SemCall Go.Proofs.Tryd.prog 7 (List.toArray [(Value.int .i64 x44), (Value.int .i64 0), (Value.int .i64 (1000 : Int))]) h40 fun v45 h46 =>
 ∃ x47 : Bool, v45 = (Value.bool x47) ∧
 (∃ h48, Gh h46 h48 ∧ R36 (!x47) h48))) ∧
 ∀ (_ : F) (x49 : Bool) (h50 : H), R36 x49 h50 →
 f4_J2 post x3 r18 x34 R35 x49 h50) (
 (∃ h80, Gh h32 h80 ∧ R35 (0 : Int) h80))) ∧
 ∀ (_ : F) (x81_e : Int) (h82 : H), R35 x81_e h82 →
 ∃ R83 : Bool → H → Prop, (
 VIf (((x34.len : Nat) : Int) == (2 : Int)) (
 ∃ b84 : Addr, x34.a = some b84 ∧ 0 ≤ (0 : Int) ∧ (0 : Int) < ((x34.len : Nat) : Int) ∧
 ∃ x85 : Int, H.rd h82 (Addr.add (Addr.add b84 (((0 : Int)).toNat * 1)) 0) (Value.int .i64 x85) ∧
 (∃ h86, Gh h82 h86 ∧ R83 (x85 == (0 : Int)) h86)) (
 (∃ h87, Gh h82 h87 ∧ R83 false h87))) ∧
 ∀ (_ : F) (x88 : Bool) (h89 : H), R83 x88 h89 →
 f4_J5 p0_n post x3 r18 I22 n23 x26_i x34 x81_e x88 h89) (
 (∃ h187, Gh h32 h187 ∧ R21 h187))

def f4_L7 (p0_n : Int) (p1_steps : SV) (post : Value → H → Prop) (x3 : Option Addr) (r18 : Nat) (R21 : H → Prop) (I22 : Nat → Int → H → Prop) (n23 : Nat) (x26_i : Int) (h27 : H) : Prop :=
 ∃ R28 : Bool → H → Prop, (
 VIf (decide (x26_i < ((p1_steps.len : Nat) : Int))) (
 (∃ h29, Gh h27 h29 ∧ R28 (decide (x26_i < (100 : Int))) h29)) (
 (∃ h30, Gh h27 h30 ∧ R28 false h30))) ∧
 ∀ (_ : F) (x31 : Bool) (h32 : H), R28 x31 h32 →
 f4_J6 p0_n p1_steps post x3 r18 R21 I22 n23 x26_i x31 h32

def f4_J8 (p0_n : Int) (post : Value → H → Prop) (x3 : Option Addr) (r18 : Nat) (h188 : H) : Prop :=
 ∃ R189 : Bool → H → Prop, (
 SemCall Go.Proofs.Tryd.prog 26 (List.toArray [(Value.pointer x3), (Value.int .i64 (-1 : Int))]) h188 fun v190 h191 =>
 ∃ x192 : Int, v190 = (Value.int .i64 x192) ∧
 VIf (x192 == (-1 : Int)) (
 SemCall Go.Proofs.Tryd.prog 26 (List.toArray [(Value.pointer x3), (Value.int .i64 p0_n)]) h191 fun v193 h194 =>
 ∃ x195 : Int, v193 = (Value.int .i64 x195) ∧
 VIf (x195 == (-1 : Int)) (
 ∃ x196 : SV, H.rd h194 (Addr.add (Addr.add (Addr.mk r18 0 none) 0) 0) (Value.slice x196.a x196.len x196.cap) ∧
 ∃ b197 : Addr, x196.a = some b197 ∧ 0 ≤ (0 : Int) ∧ (0 : Int) < ((x196.len : Nat) : Int) ∧
 ∃ x198 : Int, H.rd h194 (Addr.add (Addr.add b197 (((0 : Int)).toNat * 1)) 0) (Value.int .i64 x198) ∧
 SemCall Go.Proofs.Tryd.prog 26 (List.toArray [(Value.pointer x3), (Value.int .i64 0)]) h194 fun v199 h200 => OwnExt h194 h200 ∧
 ∃ x201 : Int, v199 = (Value.int .i64 x201) ∧
 (∃ h202, Gh h200 h202 ∧ R189 (x201 == x198) h202)) (
 (∃ h203, Gh h194 h203 ∧ R189 false h203))) (
 (∃ h204, Gh h191 h204 ∧ R189 false h204))) ∧
 ∀ (_ : F) (x205 : Bool) (h206 : H), R189 x205 h206 →
 VRet h206 (Value.bool x205) post

def f4_J9 (p0_n : Int) (p1_steps : SV) (post : Value → H → Prop) (x3 : Option Addr) (x4 : Option (TypeId × Value)) (x8 : Bool) (h9 : H) : Prop :=
 VIf x8 (
 SemCall Go.Proofs.Tryd.prog 8 (List.toArray [(errV x4), (Value.int .i64 (1 : Int))]) h9 fun v10 h11 =>
 ∃ x12 : Bool, v10 = (Value.bool x12) ∧
 VRet h11 (Value.bool x12) post) (
 isIfaceV (errV x4) = true ∧
 VIf (!(isNilV (errV x4))) (
 VRet h9 (Value.bool false) post) (
 SemCall Go.Proofs.Tryd.prog 15 (List.toArray [(Value.int .i64 p0_n)]) h9 fun v13 h14 =>
 ∃ x15 : SV, ∃ x16 : SV, ∃ x17 : SV, v13 = (Value.agg (List.toArray [(Value.slice x15.a x15.len x15.cap), (Value.slice x16.a x16.len x16.cap), (Value.slice x17.a x17.len x17.cap)])) ∧
 H.new h14 [(Value.slice none 0 0), (Value.slice none 0 0), (Value.slice none 0 0)] fun r18 h19 =>
 ([(Value.slice x15.a x15.len x15.cap), (Value.slice x16.a x16.len x16.cap), (Value.slice x17.a x17.len x17.cap)]).length = 3 ∧ (Program.underlying Go.Proofs.Tryd.prog 43).isSome = true ∧
 H.wr h19 (Addr.mk r18 0 none) ([(Value.slice x15.a x15.len x15.cap), (Value.slice x16.a x16.len x16.cap), (Value.slice x17.a x17.len x17.cap)]) fun h20 =>
 ∃ R21 : H → Prop, (
 ∃ I22 : Nat → Int → H → Prop, (∃ n23, (∃ h25, Gh h20 h25 ∧ I22 n23 (0 : Int) h25)) ∧
 ∀ (n23 : Nat) (_ : F) (x26_i : Int) (h27 : H), I22 n23 x26_i h27 →
 f4_L7 p0_n p1_steps post x3 r18 R21 I22 n23 x26_i h27) ∧
 ∀ (_ : F) (h188 : H), R21 h188 →
 f4_J8 p0_n post x3 r18 h188))

def f4_sem (p0_n : Int) (p1_steps : SV) (h0 : H) (post : Value → H → Prop) : Prop :=
 SemCall Go.Proofs.Tryd.prog 14 (List.toArray [(Value.int .i64 p0_n)]) h0 fun v1 h2 =>
 ∃ x3 : Option Addr, ∃ x4 : Option (TypeId × Value), v1 = (Value.tuple (List.toArray [(Value.pointer x3), (errV x4)])) ∧
 ∃ R5 : Bool → H → Prop, (
 VIf (decide (p0_n < (1 : Int))) (
 (∃ h6, Gh h2 h6 ∧ R5 true h6)) (
 (∃ h7, Gh h2 h7 ∧ R5 (decide (p0_n > (8 : Int))) h7))) ∧
 ∀ (_ : F) (x8 : Bool) (h9 : H), R5 x8 h9 →
 f4_J9 p0_n p1_steps post x3 x4 x8 h9

def f4_hint : Hint := (.node .leaf (.node .leaf (.node (.node (.join [(21, .bool)] .leaf) .leaf) (.node .leaf (.node .leaf (.node (.node .leaf (.join [] (.node (.loop [(8, .int)] (.node (.node (.join [(35, .bool)] .leaf) .leaf) (.node (.node (.node .leaf (.node .leaf (.node (.node .leaf (.join [(10, .int)] (.node (.node (.node (.join [(58, .bool)] .leaf) (.join [(10, .int)] (.node .leaf (.tail 7)))) (.node .lex .leaf)) .leaf))) (.node (.node (.join [(86, .bool)] .leaf) (.join [(10, .int)] (.node (.node (.node .leaf (.join [(10, .int)] (.node .leaf (.tail 4)))) .leaf) .leaf))) (.node (.node (.join [(115, .bool)] .leaf) (.join [] (.node (.node (.node .leaf (.join [(10, .int)] (.node .leaf (.tail 4)))) .leaf) .leaf))) (.node (.node .leaf (.join [] .leaf)) (.node .lex .leaf))))))) .leaf) .leaf))) .leaf))) (.node (.join [(4, .bool)] .lex) .leaf)))))))

theorem f4_eq (p0_n : Int) (p1_steps : SV) (h0 : H) (post : Value → H → Prop) : exec Tryd.prog (bodyOf Tryd.f4) f4_hint (retQ Tryd.prog Tryd.f4 post) (F0 [(Value.int .i64 p0_n), (Value.slice p1_steps.a p1_steps.len p1_steps.cap)]) h0 = f4_sem p0_n p1_steps h0 post := by kernel_rfl

set_option maxRecDepth 20000 in
theorem f4_call (p0_n : Int) (p1_steps : SV) (h0 : H) (post : Value → H → Prop) (hx : f4_sem p0_n p1_steps h0 post) : SemCall Tryd.prog 4 (List.toArray [(Value.int .i64 p0_n), (Value.slice p1_steps.a p1_steps.len p1_steps.cap)]) h0 post :=
 sem_of_exec (g := f4_hint) mixed Tryd.func4 (bodyOf_eq (by kernel_rfl)) (by kernel_rfl) ((f4_eq p0_n p1_steps h0 post).mpr hx)

/- latchgarth/latchgarthlaw4.in -/
def f7_sem (p0_n : Int) (p1_low : Int) (p2_high : Int) (h0 : H) (post : Value → H → Prop) : Prop :=
 ∃ R1 : Bool → H → Prop, (
 VIf (decide (p0_n ≥ p1_low)) (
 (∃ h2, Gh h0 h2 ∧ R1 (decide (p0_n ≤ p2_high)) h2)) (
 (∃ h3, Gh h0 h3 ∧ R1 false h3))) ∧
 ∀ (_ : F) (x4 : Bool) (h5 : H), R1 x4 h5 →
 VRet h5 (Value.bool x4) post

def f7_hint : Hint := (.node .leaf (.node (.join [(6, .bool)] .leaf) .leaf))

theorem f7_eq (p0_n : Int) (p1_low : Int) (p2_high : Int) (h0 : H) (post : Value → H → Prop) : exec Tryd.prog (bodyOf Tryd.f7) f7_hint (retQ Tryd.prog Tryd.f7 post) (F0 [(Value.int .i64 p0_n), (Value.int .i64 p1_low), (Value.int .i64 p2_high)]) h0 = f7_sem p0_n p1_low p2_high h0 post := by kernel_rfl

set_option maxRecDepth 20000 in
theorem f7_call (p0_n : Int) (p1_low : Int) (p2_high : Int) (h0 : H) (post : Value → H → Prop) (hx : f7_sem p0_n p1_low p2_high h0 post) : SemCall Tryd.prog 7 (List.toArray [(Value.int .i64 p0_n), (Value.int .i64 p1_low), (Value.int .i64 p2_high)]) h0 post :=
 sem_of_exec (g := f7_hint) mixed Tryd.func7 (bodyOf_eq (by kernel_rfl)) (by kernel_rfl) ((f7_eq p0_n p1_low p2_high h0 post).mpr hx)

/- latchgarth/latchgarthsame.Error -/
def f8_sem (p0_err : Option (TypeId × Value)) (p1_e : Int) (h0 : H) (post : Value → H → Prop) : Prop :=
 SemCall Go.Proofs.Tryd.prog 37 (List.toArray [(errV p0_err)]) h0 fun v1 h2 =>
 ∃ x3 : Int, v1 = (Value.int .i64 x3) ∧
 VRet h2 (Value.bool (x3 == p1_e)) post

def f8_hint : Hint := .leaf

theorem f8_eq (p0_err : Option (TypeId × Value)) (p1_e : Int) (h0 : H) (post : Value → H → Prop) : exec Tryd.prog (bodyOf Tryd.f8) f8_hint (retQ Tryd.prog Tryd.f8 post) (F0 [(errV p0_err), (Value.int .i64 p1_e)]) h0 = f8_sem p0_err p1_e h0 post := by kernel_rfl

set_option maxRecDepth 20000 in
theorem f8_call (p0_err : Option (TypeId × Value)) (p1_e : Int) (h0 : H) (post : Value → H → Prop) (hx : f8_sem p0_err p1_e h0 post) : SemCall Tryd.prog 8 (List.toArray [(errV p0_err), (Value.int .i64 p1_e)]) h0 post :=
 sem_of_exec (g := f8_hint) mixed Tryd.func8 (bodyOf_eq (by kernel_rfl)) (by kernel_rfl) ((f8_eq p0_err p1_e h0 post).mpr hx)

/- latchgarth/latchgarthsame.Ints -/
def f12_L1 (p0_a : SV) (p1_b : SV) (post : Value → H → Prop) (R1 : H → Prop) (I2 : Nat → Int → H → Prop) (n3 : Nat) (x6_i : Int) (h7 : H) : Prop :=
 VIf (decide (x6_i < ((p0_a.len : Nat) : Int))) (
 ∃ b8 : Addr, p0_a.a = some b8 ∧ 0 ≤ x6_i ∧ x6_i < ((p0_a.len : Nat) : Int) ∧
 ∃ x9 : Int, H.rd h7 (Addr.add (Addr.add b8 ((x6_i).toNat * 1)) 0) (Value.int .i64 x9) ∧
 ∃ b10 : Addr, p1_b.a = some b10 ∧ 0 ≤ x6_i ∧ x6_i < ((p1_b.len : Nat) : Int) ∧
 ∃ x11 : Int, H.rd h7 (Addr.add (Addr.add b10 ((x6_i).toNat * 1)) 0) (Value.int .i64 x11) ∧
 VIf (x9 != x11) (
 VRet h7 (Value.bool false) post) (
 In64 (x6_i + (1 : Int)) ∧
 ∃ m4, m4 < n3 ∧ (∃ h12, Gh h7 h12 ∧ I2 m4 (x6_i + (1 : Int)) h12))) (
 (∃ h13, Gh h7 h13 ∧ R1 h13))

def f12_sem (p0_a : SV) (p1_b : SV) (h0 : H) (post : Value → H → Prop) : Prop :=
 VIf (((p0_a.len : Nat) : Int) != ((p1_b.len : Nat) : Int)) (
 VRet h0 (Value.bool false) post) (
 ∃ R1 : H → Prop, (
 ∃ I2 : Nat → Int → H → Prop, (∃ n3, (∃ h5, Gh h0 h5 ∧ I2 n3 (0 : Int) h5)) ∧
 ∀ (n3 : Nat) (_ : F) (x6_i : Int) (h7 : H), I2 n3 x6_i h7 →
 f12_L1 p0_a p1_b post R1 I2 n3 x6_i h7) ∧
 ∀ (_ : F) (h14 : H), R1 h14 →
 VRet h14 (Value.bool true) post)

def f12_hint : Hint := (.node .leaf (.node .leaf (.node (.node .leaf (.join [] (.node (.loop [(5, .int)] .leaf) .leaf))) .leaf)))

theorem f12_eq (p0_a : SV) (p1_b : SV) (h0 : H) (post : Value → H → Prop) : exec Tryd.prog (bodyOf Tryd.f12) f12_hint (retQ Tryd.prog Tryd.f12 post) (F0 [(Value.slice p0_a.a p0_a.len p0_a.cap), (Value.slice p1_b.a p1_b.len p1_b.cap)]) h0 = f12_sem p0_a p1_b h0 post := by kernel_rfl

set_option maxRecDepth 20000 in
theorem f12_call (p0_a : SV) (p1_b : SV) (h0 : H) (post : Value → H → Prop) (hx : f12_sem p0_a p1_b h0 post) : SemCall Tryd.prog 12 (List.toArray [(Value.slice p0_a.a p0_a.len p0_a.cap), (Value.slice p1_b.a p1_b.len p1_b.cap)]) h0 post :=
 sem_of_exec (g := f12_hint) mixed Tryd.func12 (bodyOf_eq (by kernel_rfl)) (by kernel_rfl) ((f12_eq p0_a p1_b h0 post).mpr hx)

/- latchgarth/pmem.New -/
def f14_sem (p0_n : Int) (h0 : H) (post : Value → H → Prop) : Prop :=
 SemCall Go.Proofs.Tryd.prog 36 (List.toArray [(Value.int .i64 p0_n), (Value.int .i64 (1 : Int)), (Value.int .i64 (8 : Int))]) h0 fun v1 h2 =>
 ∃ x3 : Bool, v1 = (Value.bool x3) ∧
 VIf (!x3) (
 VRet h2 (Value.tuple (List.toArray [(Value.pointer none), (Value.iface 66 (Value.int .i64 (1 : Int)))])) post) (
 0 ≤ p0_n ∧ p0_n ≤ p0_n ∧ ((32 : Nat) : Int) * p0_n ≤ 140737488355328 ∧ p0_n ≤ 1000000000 ∧
 H.new h2 (repl (p0_n).toNat [(Value.int .i64 0), (Value.int .i64 0), (Value.int .i64 0), (Value.bool false)]) fun r4 h5 =>
 H.new h5 [(Value.slice (some (Addr.mk r4 0 none)) ((p0_n).toNat) ((p0_n).toNat))] fun r6 h7 =>
 VRet h7 (Value.tuple (List.toArray [(Value.pointer (some (Addr.mk r6 0 none))), Value.nilIface])) post)

def f14_hint : Hint := .leaf

theorem f14_eq (p0_n : Int) (h0 : H) (post : Value → H → Prop) : exec Tryd.prog (bodyOf Tryd.f14) f14_hint (retQ Tryd.prog Tryd.f14 post) (F0 [(Value.int .i64 p0_n)]) h0 = f14_sem p0_n h0 post := by kernel_rfl

set_option maxRecDepth 20000 in
theorem f14_call (p0_n : Int) (h0 : H) (post : Value → H → Prop) (hx : f14_sem p0_n h0 post) : SemCall Tryd.prog 14 (List.toArray [(Value.int .i64 p0_n)]) h0 post :=
 sem_of_exec (g := f14_hint) mixed Tryd.func14 (bodyOf_eq (by kernel_rfl)) (by kernel_rfl) ((f14_eq p0_n h0 post).mpr hx)

/- latchgarth/latchgarthref4.NewMem -/
def f15_L1 (p0_n : Int) (r7 : Nat) (R10 : H → Prop) (I11 : Nat → Int → H → Prop) (n12 : Nat) (x15_i : Int) (h16 : H) : Prop :=
 VIf (decide (x15_i < p0_n)) (
 ∃ x17 : SV, H.rd h16 (Addr.add (Addr.add (Addr.mk r7 0 none) 2) 0) (Value.slice x17.a x17.len x17.cap) ∧
 H.new h16 [(Value.int .i64 (-1 : Int))] fun r18 h19 =>
 appVC Go.Proofs.Tryd.prog 22 (Value.slice x17.a x17.len x17.cap) (Value.slice (some (Addr.mk r18 0 none)) 1 1) h19 fun x20 h21 =>
 H.wr h21 (Addr.add (Addr.mk r7 0 none) 2) ([(Value.slice x20.a x20.len x20.cap)]) fun h22 =>
 In64 (x15_i + (1 : Int)) ∧
 ∃ m13, m13 < n12 ∧ (∃ h23, Gh h22 h23 ∧ I11 m13 (x15_i + (1 : Int)) h23)) (
 (∃ h24, Gh h16 h24 ∧ R10 h24))

def f15_sem (p0_n : Int) (h0 : H) (post : Value → H → Prop) : Prop :=
 H.new h0 [(Value.slice none 0 0), (Value.slice none 0 0), (Value.slice none 0 0)] fun r1 h2 =>
 0 ≤ p0_n ∧ p0_n ≤ p0_n ∧ ((8 : Nat) : Int) * p0_n ≤ 140737488355328 ∧ p0_n ≤ 1000000000 ∧
 H.new h2 (repl (p0_n).toNat [(Value.int .i64 0)]) fun r3 h4 =>
 0 ≤ p0_n ∧ p0_n ≤ p0_n ∧ ((8 : Nat) : Int) * p0_n ≤ 140737488355328 ∧ p0_n ≤ 1000000000 ∧
 H.new h4 (repl (p0_n).toNat [(Value.int .i64 0)]) fun r5 h6 =>
 H.new h6 [(Value.slice none 0 0), (Value.slice none 0 0), (Value.slice none 0 0)] fun r7 h8 =>
 ([(Value.slice (some (Addr.mk r3 0 none)) ((p0_n).toNat) ((p0_n).toNat)), (Value.slice (some (Addr.mk r5 0 none)) ((p0_n).toNat) ((p0_n).toNat)), (Value.slice none 0 0)]).length = 3 ∧ (Program.underlying Go.Proofs.Tryd.prog 43).isSome = true ∧
 H.wr h8 (Addr.mk r7 0 none) ([(Value.slice (some (Addr.mk r3 0 none)) ((p0_n).toNat) ((p0_n).toNat)), (Value.slice (some (Addr.mk r5 0 none)) ((p0_n).toNat) ((p0_n).toNat)), (Value.slice none 0 0)]) fun h9 =>
 ∃ R10 : H → Prop, (
 ∃ I11 : Nat → Int → H → Prop, (∃ n12, (∃ h14, Gh h9 h14 ∧ I11 n12 (0 : Int) h14)) ∧
 ∀ (n12 : Nat) (_ : F) (x15_i : Int) (h16 : H), I11 n12 x15_i h16 →
 f15_L1 p0_n r7 R10 I11 n12 x15_i h16) ∧
 ∀ (_ : F) (h25 : H), R10 h25 →
 ∃ x26 : SV, H.rd h25 (Addr.add (Addr.mk r7 0 none) 0) (Value.slice x26.a x26.len x26.cap) ∧
 ∃ x27 : SV, H.rd h25 (Addr.add (Addr.mk r7 0 none) 1) (Value.slice x27.a x27.len x27.cap) ∧
 ∃ x28 : SV, H.rd h25 (Addr.add (Addr.mk r7 0 none) 2) (Value.slice x28.a x28.len x28.cap) ∧
 ([(Value.slice x26.a x26.len x26.cap), (Value.slice x27.a x27.len x27.cap), (Value.slice x28.a x28.len x28.cap)]).length = 3 ∧ (Program.underlying Go.Proofs.Tryd.prog 43).isSome = true ∧
 H.wr h25 (Addr.mk r1 0 none) ([(Value.slice x26.a x26.len x26.cap), (Value.slice x27.a x27.len x27.cap), (Value.slice x28.a x28.len x28.cap)]) fun h29 =>
 ∃ x30 : SV, H.rd h29 (Addr.add (Addr.mk r1 0 none) 0) (Value.slice x30.a x30.len x30.cap) ∧
 ∃ x31 : SV, H.rd h29 (Addr.add (Addr.mk r1 0 none) 1) (Value.slice x31.a x31.len x31.cap) ∧
 ∃ x32 : SV, H.rd h29 (Addr.add (Addr.mk r1 0 none) 2) (Value.slice x32.a x32.len x32.cap) ∧
 VRet h29 (Value.agg (List.toArray [(Value.slice x30.a x30.len x30.cap), (Value.slice x31.a x31.len x31.cap), (Value.slice x32.a x32.len x32.cap)])) post

def f15_hint : Hint := (.node .leaf (.node .lex (.node (.node .leaf (.join [] (.node (.loop [(4, .int)] .leaf) .leaf))) .leaf)))

theorem f15_eq (p0_n : Int) (h0 : H) (post : Value → H → Prop) : exec Tryd.prog (bodyOf Tryd.f15) f15_hint (retQ Tryd.prog Tryd.f15 post) (F0 [(Value.int .i64 p0_n)]) h0 = f15_sem p0_n h0 post := by kernel_rfl

set_option maxRecDepth 20000 in
theorem f15_call (p0_n : Int) (h0 : H) (post : Value → H → Prop) (hx : f15_sem p0_n h0 post) : SemCall Tryd.prog 15 (List.toArray [(Value.int .i64 p0_n)]) h0 post :=
 sem_of_exec (g := f15_hint) mixed Tryd.func15 (bodyOf_eq (by kernel_rfl)) (by kernel_rfl) ((f15_eq p0_n h0 post).mpr hx)

/- latchgarth/latchgarthref4.Written -/
def f16_sem (p0_0_m : SV) (p0_1_m : SV) (p0_2_m : SV) (p1_i : Int) (p2_value : Int) (h0 : H) (post : Value → H → Prop) : Prop :=
 H.new h0 [(Value.slice p0_0_m.a p0_0_m.len p0_0_m.cap), (Value.slice p0_1_m.a p0_1_m.len p0_1_m.cap), (Value.slice p0_2_m.a p0_2_m.len p0_2_m.cap)] fun r1 h2 =>
 H.new h2 [(Value.slice none 0 0), (Value.slice none 0 0), (Value.slice none 0 0)] fun r3 h4 =>
 ∃ x5 : SV, H.rd h4 (Addr.add (Addr.add (Addr.mk r1 0 none) 0) 0) (Value.slice x5.a x5.len x5.cap) ∧
 SemCall Go.Proofs.Tryd.prog 41 (List.toArray [(Value.slice x5.a x5.len x5.cap), (Value.int .i64 p1_i), (Value.int .i64 p2_value)]) h4 fun v6 h7 =>
 ∃ x8 : SV, v6 = (Value.slice x8.a x8.len x8.cap) ∧
 H.wr h7 (Addr.add (Addr.mk r1 0 none) 0) ([(Value.slice x8.a x8.len x8.cap)]) fun h9 =>
 ∃ x10 : SV, H.rd h9 (Addr.add (Addr.mk r1 0 none) 0) (Value.slice x10.a x10.len x10.cap) ∧
 ∃ x11 : SV, H.rd h9 (Addr.add (Addr.mk r1 0 none) 1) (Value.slice x11.a x11.len x11.cap) ∧
 ∃ x12 : SV, H.rd h9 (Addr.add (Addr.mk r1 0 none) 2) (Value.slice x12.a x12.len x12.cap) ∧
 ([(Value.slice x10.a x10.len x10.cap), (Value.slice x11.a x11.len x11.cap), (Value.slice x12.a x12.len x12.cap)]).length = 3 ∧ (Program.underlying Go.Proofs.Tryd.prog 43).isSome = true ∧
 H.wr h9 (Addr.mk r3 0 none) ([(Value.slice x10.a x10.len x10.cap), (Value.slice x11.a x11.len x11.cap), (Value.slice x12.a x12.len x12.cap)]) fun h13 =>
 ∃ x14 : SV, H.rd h13 (Addr.add (Addr.mk r3 0 none) 0) (Value.slice x14.a x14.len x14.cap) ∧
 ∃ x15 : SV, H.rd h13 (Addr.add (Addr.mk r3 0 none) 1) (Value.slice x15.a x15.len x15.cap) ∧
 ∃ x16 : SV, H.rd h13 (Addr.add (Addr.mk r3 0 none) 2) (Value.slice x16.a x16.len x16.cap) ∧
 VRet h13 (Value.agg (List.toArray [(Value.slice x14.a x14.len x14.cap), (Value.slice x15.a x15.len x15.cap), (Value.slice x16.a x16.len x16.cap)])) post

def f16_hint : Hint := .leaf

theorem f16_eq (p0_0_m : SV) (p0_1_m : SV) (p0_2_m : SV) (p1_i : Int) (p2_value : Int) (h0 : H) (post : Value → H → Prop) : exec Tryd.prog (bodyOf Tryd.f16) f16_hint (retQ Tryd.prog Tryd.f16 post) (F0 [(Value.agg (List.toArray [(Value.slice p0_0_m.a p0_0_m.len p0_0_m.cap), (Value.slice p0_1_m.a p0_1_m.len p0_1_m.cap), (Value.slice p0_2_m.a p0_2_m.len p0_2_m.cap)])), (Value.int .i64 p1_i), (Value.int .i64 p2_value)]) h0 = f16_sem p0_0_m p0_1_m p0_2_m p1_i p2_value h0 post := by kernel_rfl

set_option maxRecDepth 20000 in
theorem f16_call (p0_0_m : SV) (p0_1_m : SV) (p0_2_m : SV) (p1_i : Int) (p2_value : Int) (h0 : H) (post : Value → H → Prop) (hx : f16_sem p0_0_m p0_1_m p0_2_m p1_i p2_value h0 post) : SemCall Tryd.prog 16 (List.toArray [(Value.agg (List.toArray [(Value.slice p0_0_m.a p0_0_m.len p0_0_m.cap), (Value.slice p0_1_m.a p0_1_m.len p0_1_m.cap), (Value.slice p0_2_m.a p0_2_m.len p0_2_m.cap)])), (Value.int .i64 p1_i), (Value.int .i64 p2_value)]) h0 post :=
 sem_of_exec (g := f16_hint) mixed Tryd.func16 (bodyOf_eq (by kernel_rfl)) (by kernel_rfl) ((f16_eq p0_0_m p0_1_m p0_2_m p1_i p2_value h0 post).mpr hx)

/- (*latchgarth/pmem.Mem).Write -/
def f17_sem (p0_m : Option Addr) (p1_i : Int) (p2_value : Int) (h0 : H) (post : Value → H → Prop) : Prop :=
 ∃ R1 : Bool → H → Prop, (
 SemCall Go.Proofs.Tryd.prog 42 (List.toArray [(Value.pointer p0_m), (Value.int .i64 p1_i)]) h0 fun v2 h3 =>
 ∃ x4 : Bool, v2 = (Value.bool x4) ∧
 VIf (!x4) (
 (∃ h5, Gh h3 h5 ∧ R1 true h5)) (
 SemCall Go.Proofs.Tryd.prog 36 (List.toArray [(Value.int .i64 p2_value), (Value.int .i64 0), (Value.int .i64 (1000 : Int))]) h3 fun v6 h7 =>
 ∃ x8 : Bool, v6 = (Value.bool x8) ∧
 (∃ h9, Gh h7 h9 ∧ R1 (!x8) h9))) ∧
 ∀ (_ : F) (x10 : Bool) (h11 : H), R1 x10 h11 →
 VIf x10 (
 VRet h11 (Value.iface 66 (Value.int .i64 (1 : Int))) post) (
 ∃ a12 : Addr, p0_m = some a12 ∧
 ∃ x13 : SV, H.rd h11 (Addr.add (Addr.add a12 0) 0) (Value.slice x13.a x13.len x13.cap) ∧
 ∃ b14 : Addr, x13.a = some b14 ∧ 0 ≤ p1_i ∧ p1_i < ((x13.len : Nat) : Int) ∧
 H.wr h11 (Addr.add (Addr.add b14 ((p1_i).toNat * 4)) 0) ([(Value.int .i64 p2_value)]) fun h15 =>
 VRet h15 Value.nilIface post)

def f17_hint : Hint := (.node .leaf (.node (.node (.join [(15, .bool)] .leaf) .leaf) .leaf))

theorem f17_eq (p0_m : Option Addr) (p1_i : Int) (p2_value : Int) (h0 : H) (post : Value → H → Prop) : exec Tryd.prog (bodyOf Tryd.f17) f17_hint (retQ Tryd.prog Tryd.f17 post) (F0 [(Value.pointer p0_m), (Value.int .i64 p1_i), (Value.int .i64 p2_value)]) h0 = f17_sem p0_m p1_i p2_value h0 post := by kernel_rfl

set_option maxRecDepth 20000 in
theorem f17_call (p0_m : Option Addr) (p1_i : Int) (p2_value : Int) (h0 : H) (post : Value → H → Prop) (hx : f17_sem p0_m p1_i p2_value h0 post) : SemCall Tryd.prog 17 (List.toArray [(Value.pointer p0_m), (Value.int .i64 p1_i), (Value.int .i64 p2_value)]) h0 post :=
 sem_of_exec (g := f17_hint) mixed Tryd.func17 (bodyOf_eq (by kernel_rfl)) (by kernel_rfl) ((f17_eq p0_m p1_i p2_value h0 post).mpr hx)

/- latchgarth/latchgarthref4.Flushed -/
def f18_sem (p0_0_m : SV) (p0_1_m : SV) (p0_2_m : SV) (p1_i : Int) (h0 : H) (post : Value → H → Prop) : Prop :=
 H.new h0 [(Value.slice p0_0_m.a p0_0_m.len p0_0_m.cap), (Value.slice p0_1_m.a p0_1_m.len p0_1_m.cap), (Value.slice p0_2_m.a p0_2_m.len p0_2_m.cap)] fun r1 h2 =>
 H.new h2 [(Value.slice none 0 0), (Value.slice none 0 0), (Value.slice none 0 0)] fun r3 h4 =>
 ∃ x5 : SV, H.rd h4 (Addr.add (Addr.add (Addr.mk r1 0 none) 2) 0) (Value.slice x5.a x5.len x5.cap) ∧
 ∃ x6 : SV, H.rd h4 (Addr.add (Addr.add (Addr.mk r1 0 none) 0) 0) (Value.slice x6.a x6.len x6.cap) ∧
 ∃ b7 : Addr, x6.a = some b7 ∧ 0 ≤ p1_i ∧ p1_i < ((x6.len : Nat) : Int) ∧
 ∃ x8 : Int, H.rd h4 (Addr.add (Addr.add b7 ((p1_i).toNat * 1)) 0) (Value.int .i64 x8) ∧
 SemCall Go.Proofs.Tryd.prog 41 (List.toArray [(Value.slice x5.a x5.len x5.cap), (Value.int .i64 p1_i), (Value.int .i64 x8)]) h4 fun v9 h10 =>
 ∃ x11 : SV, v9 = (Value.slice x11.a x11.len x11.cap) ∧
 H.wr h10 (Addr.add (Addr.mk r1 0 none) 2) ([(Value.slice x11.a x11.len x11.cap)]) fun h12 =>
 ∃ x13 : SV, H.rd h12 (Addr.add (Addr.mk r1 0 none) 0) (Value.slice x13.a x13.len x13.cap) ∧
 ∃ x14 : SV, H.rd h12 (Addr.add (Addr.mk r1 0 none) 1) (Value.slice x14.a x14.len x14.cap) ∧
 ∃ x15 : SV, H.rd h12 (Addr.add (Addr.mk r1 0 none) 2) (Value.slice x15.a x15.len x15.cap) ∧
 ([(Value.slice x13.a x13.len x13.cap), (Value.slice x14.a x14.len x14.cap), (Value.slice x15.a x15.len x15.cap)]).length = 3 ∧ (Program.underlying Go.Proofs.Tryd.prog 43).isSome = true ∧
 H.wr h12 (Addr.mk r3 0 none) ([(Value.slice x13.a x13.len x13.cap), (Value.slice x14.a x14.len x14.cap), (Value.slice x15.a x15.len x15.cap)]) fun h16 =>
 ∃ x17 : SV, H.rd h16 (Addr.add (Addr.mk r3 0 none) 0) (Value.slice x17.a x17.len x17.cap) ∧
 ∃ x18 : SV, H.rd h16 (Addr.add (Addr.mk r3 0 none) 1) (Value.slice x18.a x18.len x18.cap) ∧
 ∃ x19 : SV, H.rd h16 (Addr.add (Addr.mk r3 0 none) 2) (Value.slice x19.a x19.len x19.cap) ∧
 VRet h16 (Value.agg (List.toArray [(Value.slice x17.a x17.len x17.cap), (Value.slice x18.a x18.len x18.cap), (Value.slice x19.a x19.len x19.cap)])) post

def f18_hint : Hint := (.node .leaf (.node (.tail 8) .leaf))

theorem f18_eq (p0_0_m : SV) (p0_1_m : SV) (p0_2_m : SV) (p1_i : Int) (h0 : H) (post : Value → H → Prop) : exec Tryd.prog (bodyOf Tryd.f18) f18_hint (retQ Tryd.prog Tryd.f18 post) (F0 [(Value.agg (List.toArray [(Value.slice p0_0_m.a p0_0_m.len p0_0_m.cap), (Value.slice p0_1_m.a p0_1_m.len p0_1_m.cap), (Value.slice p0_2_m.a p0_2_m.len p0_2_m.cap)])), (Value.int .i64 p1_i)]) h0 = f18_sem p0_0_m p0_1_m p0_2_m p1_i h0 post := by kernel_rfl

set_option maxRecDepth 20000 in
theorem f18_call (p0_0_m : SV) (p0_1_m : SV) (p0_2_m : SV) (p1_i : Int) (h0 : H) (post : Value → H → Prop) (hx : f18_sem p0_0_m p0_1_m p0_2_m p1_i h0 post) : SemCall Tryd.prog 18 (List.toArray [(Value.agg (List.toArray [(Value.slice p0_0_m.a p0_0_m.len p0_0_m.cap), (Value.slice p0_1_m.a p0_1_m.len p0_1_m.cap), (Value.slice p0_2_m.a p0_2_m.len p0_2_m.cap)])), (Value.int .i64 p1_i)]) h0 post :=
 sem_of_exec (g := f18_hint) mixed Tryd.func18 (bodyOf_eq (by kernel_rfl)) (by kernel_rfl) ((f18_eq p0_0_m p0_1_m p0_2_m p1_i h0 post).mpr hx)

/- (*latchgarth/pmem.Mem).Flush -/
def f19_sem (p0_m : Option Addr) (p1_i : Int) (h0 : H) (post : Value → H → Prop) : Prop :=
 SemCall Go.Proofs.Tryd.prog 42 (List.toArray [(Value.pointer p0_m), (Value.int .i64 p1_i)]) h0 fun v1 h2 =>
 ∃ x3 : Bool, v1 = (Value.bool x3) ∧
 VIf (!x3) (
 VRet h2 (Value.iface 66 (Value.int .i64 (1 : Int))) post) (
 ∃ a4 : Addr, p0_m = some a4 ∧
 ∃ x5 : SV, H.rd h2 (Addr.add (Addr.add a4 0) 0) (Value.slice x5.a x5.len x5.cap) ∧
 ∃ b6 : Addr, x5.a = some b6 ∧ 0 ≤ p1_i ∧ p1_i < ((x5.len : Nat) : Int) ∧
 ∃ a7 : Addr, (some (Addr.add b6 ((p1_i).toNat * 4))) = some a7 ∧
 ∃ x8 : Int, H.rd h2 (Addr.add (Addr.add a7 0) 0) (Value.int .i64 x8) ∧
 ∃ a9 : Addr, (some (Addr.add b6 ((p1_i).toNat * 4))) = some a9 ∧
 H.wr h2 (Addr.add a9 2) ([(Value.int .i64 x8)]) fun h10 =>
 ∃ a11 : Addr, (some (Addr.add b6 ((p1_i).toNat * 4))) = some a11 ∧
 H.wr h10 (Addr.add a11 3) ([(Value.bool true)]) fun h12 =>
 VRet h12 Value.nilIface post)

def f19_hint : Hint := .leaf

theorem f19_eq (p0_m : Option Addr) (p1_i : Int) (h0 : H) (post : Value → H → Prop) : exec Tryd.prog (bodyOf Tryd.f19) f19_hint (retQ Tryd.prog Tryd.f19 post) (F0 [(Value.pointer p0_m), (Value.int .i64 p1_i)]) h0 = f19_sem p0_m p1_i h0 post := by kernel_rfl

set_option maxRecDepth 20000 in
theorem f19_call (p0_m : Option Addr) (p1_i : Int) (h0 : H) (post : Value → H → Prop) (hx : f19_sem p0_m p1_i h0 post) : SemCall Tryd.prog 19 (List.toArray [(Value.pointer p0_m), (Value.int .i64 p1_i)]) h0 post :=
 sem_of_exec (g := f19_hint) mixed Tryd.func19 (bodyOf_eq (by kernel_rfl)) (by kernel_rfl) ((f19_eq p0_m p1_i h0 post).mpr hx)

/- latchgarth/latchgarthlaw4.mask -/
def f20_L1 (p1_n : Int) (R1 : Int → H → Prop) (I2 : Nat → Int → Int → H → Prop) (n3 : Nat) (x6_p : Int) (x7_i : Int) (h8 : H) : Prop :=
 VIf (decide (x7_i < p1_n)) (
 In64 (x6_p * (2 : Int)) ∧
 In64 (x7_i + (1 : Int)) ∧
 ∃ m4, m4 < n3 ∧ (∃ h9, Gh h8 h9 ∧ I2 m4 (x6_p * (2 : Int)) (x7_i + (1 : Int)) h9)) (
 (∃ h10, Gh h8 h10 ∧ R1 x6_p h10))

def f20_sem (p0_set : Int) (p1_n : Int) (h0 : H) (post : Value → H → Prop) : Prop :=
 ∃ R1 : Int → H → Prop, (
 ∃ I2 : Nat → Int → Int → H → Prop, (∃ n3, (∃ h5, Gh h0 h5 ∧ I2 n3 (1 : Int) (0 : Int) h5)) ∧
 ∀ (n3 : Nat) (_ : F) (x6_p : Int) (x7_i : Int) (h8 : H), I2 n3 x6_p x7_i h8 →
 f20_L1 p1_n R1 I2 n3 x6_p x7_i h8) ∧
 ∀ (_ : F) (x11_p : Int) (h12 : H), R1 x11_p h12 →
 ∃ R13 : Bool → H → Prop, (
 VIf (decide (p0_set ≥ (0 : Int))) (
 (∃ h14, Gh h12 h14 ∧ R13 (decide (p0_set < x11_p)) h14)) (
 (∃ h15, Gh h12 h15 ∧ R13 false h15))) ∧
 ∀ (_ : F) (x16 : Bool) (h17 : H), R13 x16 h17 →
 VRet h17 (Value.bool x16) post

def f20_hint : Hint := (.node .leaf (.node .leaf (.node (.node .leaf (.join [(5, .int)] (.node (.loop [(5, .int), (6, .int)] .leaf) .leaf))) (.node (.join [(4, .bool)] .leaf) .leaf))))

theorem f20_eq (p0_set : Int) (p1_n : Int) (h0 : H) (post : Value → H → Prop) : exec Tryd.prog (bodyOf Tryd.f20) f20_hint (retQ Tryd.prog Tryd.f20 post) (F0 [(Value.int .i64 p0_set), (Value.int .i64 p1_n)]) h0 = f20_sem p0_set p1_n h0 post := by kernel_rfl

set_option maxRecDepth 20000 in
theorem f20_call (p0_set : Int) (p1_n : Int) (h0 : H) (post : Value → H → Prop) (hx : f20_sem p0_set p1_n h0 post) : SemCall Tryd.prog 20 (List.toArray [(Value.int .i64 p0_set), (Value.int .i64 p1_n)]) h0 post :=
 sem_of_exec (g := f20_hint) mixed Tryd.func20 (bodyOf_eq (by kernel_rfl)) (by kernel_rfl) ((f20_eq p0_set p1_n h0 post).mpr hx)

/- latchgarth/latchgarthref4.Crashed -/
def f21_L1 (p1_keep : Int) (r1 : Nat) (R5 : H → Prop) (I6 : Nat → Int → H → Prop) (n7 : Nat) (x10_i : Int) (h11 : H) : Prop :=
 ∃ x12 : SV, H.rd h11 (Addr.add (Addr.add (Addr.mk r1 0 none) 0) 0) (Value.slice x12.a x12.len x12.cap) ∧
 VIf (decide (x10_i < ((x12.len : Nat) : Int))) (
 SemCall Go.Proofs.Tryd.prog 43 (List.toArray [(Value.int .i64 p1_keep), (Value.int .i64 x10_i)]) h11 fun v13 h14 =>
 ∃ x15 : Bool, v13 = (Value.bool x15) ∧
 ∃ R16 : H → Prop, (
 VIf x15 (
 ∃ x17 : SV, H.rd h14 (Addr.add (Addr.add (Addr.mk r1 0 none) 1) 0) (Value.slice x17.a x17.len x17.cap) ∧
 ∃ x18 : SV, H.rd h14 (Addr.add (Addr.add (Addr.mk r1 0 none) 0) 0) (Value.slice x18.a x18.len x18.cap) ∧
 ∃ b19 : Addr, x18.a = some b19 ∧ 0 ≤ x10_i ∧ x10_i < ((x18.len : Nat) : Int) ∧
 ∃ x20 : Int, H.rd h14 (Addr.add (Addr.add b19 ((x10_i).toNat * 1)) 0) (Value.int .i64 x20) ∧
 SemCall Go.Proofs.Tryd.prog 41 (List.toArray [(Value.slice x17.a x17.len x17.cap), (Value.int .i64 x10_i), (Value.int .i64 x20)]) h14 fun v21 h22 =>
 ∃ x23 : SV, v21 = (Value.slice x23.a x23.len x23.cap) ∧
 H.wr h22 (Addr.add (Addr.mk r1 0 none) 1) ([(Value.slice x23.a x23.len x23.cap)]) fun h24 =>
 (∃ h25, Gh h24 h25 ∧ R16 h25)) (
 (∃ h26, Gh h14 h26 ∧ R16 h26))) ∧
 ∀ (_ : F) (h27 : H), R16 h27 →
 ∃ x28 : SV, H.rd h27 (Addr.add (Addr.add (Addr.mk r1 0 none) 2) 0) (Value.slice x28.a x28.len x28.cap) ∧
 SemCall Go.Proofs.Tryd.prog 41 (List.toArray [(Value.slice x28.a x28.len x28.cap), (Value.int .i64 x10_i), (Value.int .i64 (-1 : Int))]) h27 fun v29 h30 =>
 ∃ x31 : SV, v29 = (Value.slice x31.a x31.len x31.cap) ∧
 H.wr h30 (Addr.add (Addr.mk r1 0 none) 2) ([(Value.slice x31.a x31.len x31.cap)]) fun h32 =>
 In64 (x10_i + (1 : Int)) ∧
 ∃ m8, m8 < n7 ∧ (∃ h33, Gh h32 h33 ∧ I6 m8 (x10_i + (1 : Int)) h33)) (
 (∃ h34, Gh h11 h34 ∧ R5 h34))

def f21_J2 (post : Value → H → Prop) (r1 : Nat) (r3 : Nat) (h35 : H) : Prop :=
 ∃ x36 : SV, H.rd h35 (Addr.add (Addr.add (Addr.mk r1 0 none) 1) 0) (Value.slice x36.a x36.len x36.cap) ∧
 H.wr h35 (Addr.add (Addr.mk r1 0 none) 0) ([(Value.slice x36.a x36.len x36.cap)]) fun h37 =>
 ∃ x38 : SV, H.rd h37 (Addr.add (Addr.mk r1 0 none) 0) (Value.slice x38.a x38.len x38.cap) ∧
 ∃ x39 : SV, H.rd h37 (Addr.add (Addr.mk r1 0 none) 1) (Value.slice x39.a x39.len x39.cap) ∧
 ∃ x40 : SV, H.rd h37 (Addr.add (Addr.mk r1 0 none) 2) (Value.slice x40.a x40.len x40.cap) ∧
 ([(Value.slice x38.a x38.len x38.cap), (Value.slice x39.a x39.len x39.cap), (Value.slice x40.a x40.len x40.cap)]).length = 3 ∧ (Program.underlying Go.Proofs.Tryd.prog 43).isSome = true ∧
 H.wr h37 (Addr.mk r3 0 none) ([(Value.slice x38.a x38.len x38.cap), (Value.slice x39.a x39.len x39.cap), (Value.slice x40.a x40.len x40.cap)]) fun h41 =>
 ∃ x42 : SV, H.rd h41 (Addr.add (Addr.mk r3 0 none) 0) (Value.slice x42.a x42.len x42.cap) ∧
 ∃ x43 : SV, H.rd h41 (Addr.add (Addr.mk r3 0 none) 1) (Value.slice x43.a x43.len x43.cap) ∧
 ∃ x44 : SV, H.rd h41 (Addr.add (Addr.mk r3 0 none) 2) (Value.slice x44.a x44.len x44.cap) ∧
 VRet h41 (Value.agg (List.toArray [(Value.slice x42.a x42.len x42.cap), (Value.slice x43.a x43.len x43.cap), (Value.slice x44.a x44.len x44.cap)])) post

def f21_sem (p0_0_m : SV) (p0_1_m : SV) (p0_2_m : SV) (p1_keep : Int) (h0 : H) (post : Value → H → Prop) : Prop :=
 H.new h0 [(Value.slice p0_0_m.a p0_0_m.len p0_0_m.cap), (Value.slice p0_1_m.a p0_1_m.len p0_1_m.cap), (Value.slice p0_2_m.a p0_2_m.len p0_2_m.cap)] fun r1 h2 =>
 H.new h2 [(Value.slice none 0 0), (Value.slice none 0 0), (Value.slice none 0 0)] fun r3 h4 =>
 ∃ R5 : H → Prop, (
 ∃ I6 : Nat → Int → H → Prop, (∃ n7, (∃ h9, Gh h4 h9 ∧ I6 n7 (0 : Int) h9)) ∧
 ∀ (n7 : Nat) (_ : F) (x10_i : Int) (h11 : H), I6 n7 x10_i h11 →
 f21_L1 p1_keep r1 R5 I6 n7 x10_i h11) ∧
 ∀ (_ : F) (h35 : H), R5 h35 →
 f21_J2 post r1 r3 h35

def f21_hint : Hint := (.node .leaf (.node (.node .leaf (.join [] (.node (.loop [(5, .int)] (.node .leaf (.node (.node (.node (.node .leaf (.join [] (.node (.tail 8) .leaf))) .leaf) .leaf) .leaf))) .leaf))) .leaf))

theorem f21_eq (p0_0_m : SV) (p0_1_m : SV) (p0_2_m : SV) (p1_keep : Int) (h0 : H) (post : Value → H → Prop) : exec Tryd.prog (bodyOf Tryd.f21) f21_hint (retQ Tryd.prog Tryd.f21 post) (F0 [(Value.agg (List.toArray [(Value.slice p0_0_m.a p0_0_m.len p0_0_m.cap), (Value.slice p0_1_m.a p0_1_m.len p0_1_m.cap), (Value.slice p0_2_m.a p0_2_m.len p0_2_m.cap)])), (Value.int .i64 p1_keep)]) h0 = f21_sem p0_0_m p0_1_m p0_2_m p1_keep h0 post := by kernel_rfl

set_option maxRecDepth 20000 in
theorem f21_call (p0_0_m : SV) (p0_1_m : SV) (p0_2_m : SV) (p1_keep : Int) (h0 : H) (post : Value → H → Prop) (hx : f21_sem p0_0_m p0_1_m p0_2_m p1_keep h0 post) : SemCall Tryd.prog 21 (List.toArray [(Value.agg (List.toArray [(Value.slice p0_0_m.a p0_0_m.len p0_0_m.cap), (Value.slice p0_1_m.a p0_1_m.len p0_1_m.cap), (Value.slice p0_2_m.a p0_2_m.len p0_2_m.cap)])), (Value.int .i64 p1_keep)]) h0 post :=
 sem_of_exec (g := f21_hint) mixed Tryd.func21 (bodyOf_eq (by kernel_rfl)) (by kernel_rfl) ((f21_eq p0_0_m p0_1_m p0_2_m p1_keep h0 post).mpr hx)

/- (*latchgarth/pmem.Mem).Crash -/
def f22_L1 (p0_m : Option Addr) (p1_keep : Int) (x7 : SV) (R8 : H → Prop) (I9 : Nat → Int → H → Prop) (n10 : Nat) (x13 : Int) (h14 : H) : Prop :=
 VIf (decide (x13 < ((x7.len : Nat) : Int))) (
 ∃ a15 : Addr, p0_m = some a15 ∧
 ∃ x16 : SV, H.rd h14 (Addr.add (Addr.add a15 0) 0) (Value.slice x16.a x16.len x16.cap) ∧
 ∃ b17 : Addr, x16.a = some b17 ∧ 0 ≤ x13 ∧ x13 < ((x16.len : Nat) : Int) ∧
 SemCall Go.Proofs.Tryd.prog 45 (List.toArray [(Value.int .i64 p1_keep), (Value.int .i64 x13)]) h14 fun v18 h19 =>
 ∃ x20 : Bool, v18 = (Value.bool x20) ∧
 ∃ R21 : H → Prop, (
 VIf x20 (
 ∃ a22 : Addr, (some (Addr.add b17 ((x13).toNat * 4))) = some a22 ∧
 ∃ x23 : Int, H.rd h19 (Addr.add (Addr.add a22 0) 0) (Value.int .i64 x23) ∧
 ∃ a24 : Addr, (some (Addr.add b17 ((x13).toNat * 4))) = some a24 ∧
 H.wr h19 (Addr.add a24 1) ([(Value.int .i64 x23)]) fun h25 =>
 (∃ h26, Gh h25 h26 ∧ R21 h26)) (
 (∃ h27, Gh h19 h27 ∧ R21 h27))) ∧
 ∀ (_ : F) (h28 : H), R21 h28 →
 ∃ a29 : Addr, (some (Addr.add b17 ((x13).toNat * 4))) = some a29 ∧
 ∃ x30 : Int, H.rd h28 (Addr.add (Addr.add a29 1) 0) (Value.int .i64 x30) ∧
 ∃ a31 : Addr, (some (Addr.add b17 ((x13).toNat * 4))) = some a31 ∧
 ∃ x32 : Int, H.rd h28 (Addr.add (Addr.add a31 1) 0) (Value.int .i64 x32) ∧
 ∃ a33 : Addr, (some (Addr.add b17 ((x13).toNat * 4))) = some a33 ∧
 ([(Value.int .i64 x30), (Value.int .i64 x32), (Value.int .i64 0), (Value.bool false)]).length = 4 ∧ (Program.underlying Go.Proofs.Tryd.prog 78).isSome = true ∧
 H.wr h28 a33 ([(Value.int .i64 x30), (Value.int .i64 x32), (Value.int .i64 0), (Value.bool false)]) fun h34 =>
 In64 (x13 + (1 : Int)) ∧
 ∃ m11, m11 < n10 ∧ (∃ h35, Gh h34 h35 ∧ I9 m11 (x13 + (1 : Int)) h35)) (
 (∃ h36, Gh h14 h36 ∧ R8 h36))

def f22_sem (p0_m : Option Addr) (p1_keep : Int) (h0 : H) (post : Value → H → Prop) : Prop :=
 ∃ a1 : Addr, p0_m = some a1 ∧
 ∃ x2 : SV, H.rd h0 (Addr.add (Addr.add a1 0) 0) (Value.slice x2.a x2.len x2.cap) ∧
 SemCall Go.Proofs.Tryd.prog 44 (List.toArray [(Value.int .i64 p1_keep), (Value.int .i64 ((x2.len : Nat) : Int))]) h0 fun v3 h4 =>
 ∃ x5 : Bool, v3 = (Value.bool x5) ∧
 VIf (!x5) (
 VRet h4 (Value.iface 66 (Value.int .i64 (1 : Int))) post) (
 ∃ a6 : Addr, p0_m = some a6 ∧
 ∃ x7 : SV, H.rd h4 (Addr.add (Addr.add a6 0) 0) (Value.slice x7.a x7.len x7.cap) ∧
 ∃ R8 : H → Prop, (
 ∃ I9 : Nat → Int → H → Prop, (∃ n10, (∃ h12, Gh h4 h12 ∧ I9 n10 (0 : Int) h12)) ∧
 ∀ (n10 : Nat) (_ : F) (x13 : Int) (h14 : H), I9 n10 x13 h14 →
 f22_L1 p0_m p1_keep x7 R8 I9 n10 x13 h14) ∧
 ∀ (_ : F) (h37 : H), R8 h37 →
 VRet h37 Value.nilIface post)

def f22_hint : Hint := (.node .leaf (.node .leaf (.node (.node .leaf (.join [] (.node (.loop [(21, .int)] (.node .leaf (.node .leaf (.node (.node (.node .leaf (.node .leaf (.node (.node .leaf (.join [] .leaf)) (.tail 11)))) .leaf) .leaf)))) .leaf))) .leaf)))

theorem f22_eq (p0_m : Option Addr) (p1_keep : Int) (h0 : H) (post : Value → H → Prop) : exec Tryd.prog (bodyOf Tryd.f22) f22_hint (retQ Tryd.prog Tryd.f22 post) (F0 [(Value.pointer p0_m), (Value.int .i64 p1_keep)]) h0 = f22_sem p0_m p1_keep h0 post := by kernel_rfl

set_option maxRecDepth 20000 in
theorem f22_call (p0_m : Option Addr) (p1_keep : Int) (h0 : H) (post : Value → H → Prop) (hx : f22_sem p0_m p1_keep h0 post) : SemCall Tryd.prog 22 (List.toArray [(Value.pointer p0_m), (Value.int .i64 p1_keep)]) h0 post :=
 sem_of_exec (g := f22_hint) mixed Tryd.func22 (bodyOf_eq (by kernel_rfl)) (by kernel_rfl) ((f22_eq p0_m p1_keep h0 post).mpr hx)

/- (*latchgarth/pmem.Mem).Fence -/
def f23_L1 (p0_m : Option Addr) (x2 : SV) (R3 : H → Prop) (I4 : Nat → Int → H → Prop) (n5 : Nat) (x8 : Int) (h9 : H) : Prop :=
 VIf (decide (x8 < ((x2.len : Nat) : Int))) (
 ∃ a10 : Addr, p0_m = some a10 ∧
 ∃ x11 : SV, H.rd h9 (Addr.add (Addr.add a10 0) 0) (Value.slice x11.a x11.len x11.cap) ∧
 ∃ b12 : Addr, x11.a = some b12 ∧ 0 ≤ x8 ∧ x8 < ((x11.len : Nat) : Int) ∧
 ∃ a13 : Addr, (some (Addr.add b12 ((x8).toNat * 4))) = some a13 ∧
 ∃ x14 : Bool, H.rd h9 (Addr.add (Addr.add a13 3) 0) (Value.bool x14) ∧
 VIf x14 (
 ∃ a15 : Addr, (some (Addr.add b12 ((x8).toNat * 4))) = some a15 ∧
 ∃ x16 : Int, H.rd h9 (Addr.add (Addr.add a15 2) 0) (Value.int .i64 x16) ∧
 ∃ a17 : Addr, (some (Addr.add b12 ((x8).toNat * 4))) = some a17 ∧
 H.wr h9 (Addr.add a17 1) ([(Value.int .i64 x16)]) fun h18 =>
 ∃ a19 : Addr, (some (Addr.add b12 ((x8).toNat * 4))) = some a19 ∧
 H.wr h18 (Addr.add a19 3) ([(Value.bool false)]) fun h20 =>
 In64 (x8 + (1 : Int)) ∧
 ∃ m6, m6 < n5 ∧ (∃ h21, Gh h20 h21 ∧ I4 m6 (x8 + (1 : Int)) h21)) (
 In64 (x8 + (1 : Int)) ∧
 ∃ m6, m6 < n5 ∧ (∃ h22, Gh h9 h22 ∧ I4 m6 (x8 + (1 : Int)) h22))) (
 (∃ h23, Gh h9 h23 ∧ R3 h23))

def f23_sem (p0_m : Option Addr) (h0 : H) (post : Value → H → Prop) : Prop :=
 ∃ a1 : Addr, p0_m = some a1 ∧
 ∃ x2 : SV, H.rd h0 (Addr.add (Addr.add a1 0) 0) (Value.slice x2.a x2.len x2.cap) ∧
 ∃ R3 : H → Prop, (
 ∃ I4 : Nat → Int → H → Prop, (∃ n5, (∃ h7, Gh h0 h7 ∧ I4 n5 (0 : Int) h7)) ∧
 ∀ (n5 : Nat) (_ : F) (x8 : Int) (h9 : H), I4 n5 x8 h9 →
 f23_L1 p0_m x2 R3 I4 n5 x8 h9) ∧
 ∀ (_ : F) (h24 : H), R3 h24 →
 VRet h24 (Value.tuple (List.toArray [])) post

def f23_hint : Hint := (.node .leaf (.join [] (.node (.loop [(9, .int)] .leaf) .leaf)))

theorem f23_eq (p0_m : Option Addr) (h0 : H) (post : Value → H → Prop) : exec Tryd.prog (bodyOf Tryd.f23) f23_hint (retQ Tryd.prog Tryd.f23 post) (F0 [(Value.pointer p0_m)]) h0 = f23_sem p0_m h0 post := by kernel_rfl

set_option maxRecDepth 20000 in
theorem f23_call (p0_m : Option Addr) (h0 : H) (post : Value → H → Prop) (hx : f23_sem p0_m h0 post) : SemCall Tryd.prog 23 (List.toArray [(Value.pointer p0_m)]) h0 post :=
 sem_of_exec (g := f23_hint) mixed Tryd.func23 (bodyOf_eq (by kernel_rfl)) (by kernel_rfl) ((f23_eq p0_m h0 post).mpr hx)

/- latchgarth/latchgarthref4.Fenced -/
def f24_L1 (r1 : Nat) (R5 : H → Prop) (I6 : Nat → Int → H → Prop) (n7 : Nat) (x10_i : Int) (h11 : H) : Prop :=
 ∃ x12 : SV, H.rd h11 (Addr.add (Addr.add (Addr.mk r1 0 none) 0) 0) (Value.slice x12.a x12.len x12.cap) ∧
 VIf (decide (x10_i < ((x12.len : Nat) : Int))) (
 ∃ x13 : SV, H.rd h11 (Addr.add (Addr.add (Addr.mk r1 0 none) 2) 0) (Value.slice x13.a x13.len x13.cap) ∧
 ∃ b14 : Addr, x13.a = some b14 ∧ 0 ≤ x10_i ∧ x10_i < ((x13.len : Nat) : Int) ∧
 ∃ x15 : Int, H.rd h11 (Addr.add (Addr.add b14 ((x10_i).toNat * 1)) 0) (Value.int .i64 x15) ∧
 VIf (decide (x15 ≥ (0 : Int))) (
 ∃ x16 : SV, H.rd h11 (Addr.add (Addr.add (Addr.mk r1 0 none) 1) 0) (Value.slice x16.a x16.len x16.cap) ∧
 ∃ x17 : SV, H.rd h11 (Addr.add (Addr.add (Addr.mk r1 0 none) 2) 0) (Value.slice x17.a x17.len x17.cap) ∧
 ∃ b18 : Addr, x17.a = some b18 ∧ 0 ≤ x10_i ∧ x10_i < ((x17.len : Nat) : Int) ∧
 ∃ x19 : Int, H.rd h11 (Addr.add (Addr.add b18 ((x10_i).toNat * 1)) 0) (Value.int .i64 x19) ∧
 SemCall Go.Proofs.Tryd.prog 41 (List.toArray [(Value.slice x16.a x16.len x16.cap), (Value.int .i64 x10_i), (Value.int .i64 x19)]) h11 fun v20 h21 =>
 ∃ x22 : SV, v20 = (Value.slice x22.a x22.len x22.cap) ∧
 H.wr h21 (Addr.add (Addr.mk r1 0 none) 1) ([(Value.slice x22.a x22.len x22.cap)]) fun h23 =>
 ∃ x24 : SV, H.rd h23 (Addr.add (Addr.add (Addr.mk r1 0 none) 2) 0) (Value.slice x24.a x24.len x24.cap) ∧
 SemCall Go.Proofs.Tryd.prog 41 (List.toArray [(Value.slice x24.a x24.len x24.cap), (Value.int .i64 x10_i), (Value.int .i64 (-1 : Int))]) h23 fun v25 h26 =>
 ∃ x27 : SV, v25 = (Value.slice x27.a x27.len x27.cap) ∧
 H.wr h26 (Addr.add (Addr.mk r1 0 none) 2) ([(Value.slice x27.a x27.len x27.cap)]) fun h28 =>
 In64 (x10_i + (1 : Int)) ∧
 ∃ m8, m8 < n7 ∧ (∃ h29, Gh h28 h29 ∧ I6 m8 (x10_i + (1 : Int)) h29)) (
 In64 (x10_i + (1 : Int)) ∧
 ∃ m8, m8 < n7 ∧ (∃ h30, Gh h11 h30 ∧ I6 m8 (x10_i + (1 : Int)) h30))) (
 (∃ h31, Gh h11 h31 ∧ R5 h31))

def f24_sem (p0_0_m : SV) (p0_1_m : SV) (p0_2_m : SV) (h0 : H) (post : Value → H → Prop) : Prop :=
 H.new h0 [(Value.slice p0_0_m.a p0_0_m.len p0_0_m.cap), (Value.slice p0_1_m.a p0_1_m.len p0_1_m.cap), (Value.slice p0_2_m.a p0_2_m.len p0_2_m.cap)] fun r1 h2 =>
 H.new h2 [(Value.slice none 0 0), (Value.slice none 0 0), (Value.slice none 0 0)] fun r3 h4 =>
 ∃ R5 : H → Prop, (
 ∃ I6 : Nat → Int → H → Prop, (∃ n7, (∃ h9, Gh h4 h9 ∧ I6 n7 (0 : Int) h9)) ∧
 ∀ (n7 : Nat) (_ : F) (x10_i : Int) (h11 : H), I6 n7 x10_i h11 →
 f24_L1 r1 R5 I6 n7 x10_i h11) ∧
 ∀ (_ : F) (h32 : H), R5 h32 →
 ∃ x33 : SV, H.rd h32 (Addr.add (Addr.mk r1 0 none) 0) (Value.slice x33.a x33.len x33.cap) ∧
 ∃ x34 : SV, H.rd h32 (Addr.add (Addr.mk r1 0 none) 1) (Value.slice x34.a x34.len x34.cap) ∧
 ∃ x35 : SV, H.rd h32 (Addr.add (Addr.mk r1 0 none) 2) (Value.slice x35.a x35.len x35.cap) ∧
 ([(Value.slice x33.a x33.len x33.cap), (Value.slice x34.a x34.len x34.cap), (Value.slice x35.a x35.len x35.cap)]).length = 3 ∧ (Program.underlying Go.Proofs.Tryd.prog 43).isSome = true ∧
 H.wr h32 (Addr.mk r3 0 none) ([(Value.slice x33.a x33.len x33.cap), (Value.slice x34.a x34.len x34.cap), (Value.slice x35.a x35.len x35.cap)]) fun h36 =>
 ∃ x37 : SV, H.rd h36 (Addr.add (Addr.mk r3 0 none) 0) (Value.slice x37.a x37.len x37.cap) ∧
 ∃ x38 : SV, H.rd h36 (Addr.add (Addr.mk r3 0 none) 1) (Value.slice x38.a x38.len x38.cap) ∧
 ∃ x39 : SV, H.rd h36 (Addr.add (Addr.mk r3 0 none) 2) (Value.slice x39.a x39.len x39.cap) ∧
 VRet h36 (Value.agg (List.toArray [(Value.slice x37.a x37.len x37.cap), (Value.slice x38.a x38.len x38.cap), (Value.slice x39.a x39.len x39.cap)])) post

def f24_hint : Hint := (.node .leaf (.node (.node .leaf (.join [] (.node (.loop [(3, .int)] (.node .leaf (.node (.node (.node .leaf (.node (.node (.tail 8) .leaf) .leaf)) .leaf) .leaf))) .leaf))) .leaf))

theorem f24_eq (p0_0_m : SV) (p0_1_m : SV) (p0_2_m : SV) (h0 : H) (post : Value → H → Prop) : exec Tryd.prog (bodyOf Tryd.f24) f24_hint (retQ Tryd.prog Tryd.f24 post) (F0 [(Value.agg (List.toArray [(Value.slice p0_0_m.a p0_0_m.len p0_0_m.cap), (Value.slice p0_1_m.a p0_1_m.len p0_1_m.cap), (Value.slice p0_2_m.a p0_2_m.len p0_2_m.cap)]))]) h0 = f24_sem p0_0_m p0_1_m p0_2_m h0 post := by kernel_rfl

set_option maxRecDepth 20000 in
theorem f24_call (p0_0_m : SV) (p0_1_m : SV) (p0_2_m : SV) (h0 : H) (post : Value → H → Prop) (hx : f24_sem p0_0_m p0_1_m p0_2_m h0 post) : SemCall Tryd.prog 24 (List.toArray [(Value.agg (List.toArray [(Value.slice p0_0_m.a p0_0_m.len p0_0_m.cap), (Value.slice p0_1_m.a p0_1_m.len p0_1_m.cap), (Value.slice p0_2_m.a p0_2_m.len p0_2_m.cap)]))]) h0 post :=
 sem_of_exec (g := f24_hint) mixed Tryd.func24 (bodyOf_eq (by kernel_rfl)) (by kernel_rfl) ((f24_eq p0_0_m p0_1_m p0_2_m h0 post).mpr hx)

/- (*latchgarth/pmem.Mem).Read -/
def f26_sem (p0_m : Option Addr) (p1_i : Int) (h0 : H) (post : Value → H → Prop) : Prop :=
 SemCall Go.Proofs.Tryd.prog 42 (List.toArray [(Value.pointer p0_m), (Value.int .i64 p1_i)]) h0 fun v1 h2 =>
 ∃ x3 : Bool, v1 = (Value.bool x3) ∧
 VIf (!x3) (
 VRet h2 (Value.int .i64 (-1 : Int)) post) (
 ∃ a4 : Addr, p0_m = some a4 ∧
 ∃ x5 : SV, H.rd h2 (Addr.add (Addr.add a4 0) 0) (Value.slice x5.a x5.len x5.cap) ∧
 ∃ b6 : Addr, x5.a = some b6 ∧ 0 ≤ p1_i ∧ p1_i < ((x5.len : Nat) : Int) ∧
 ∃ x7 : Int, H.rd h2 (Addr.add (Addr.add (Addr.add b6 ((p1_i).toNat * 4)) 0) 0) (Value.int .i64 x7) ∧
 VRet h2 (Value.int .i64 x7) post)

def f26_hint : Hint := .leaf

theorem f26_eq (p0_m : Option Addr) (p1_i : Int) (h0 : H) (post : Value → H → Prop) : exec Tryd.prog (bodyOf Tryd.f26) f26_hint (retQ Tryd.prog Tryd.f26 post) (F0 [(Value.pointer p0_m), (Value.int .i64 p1_i)]) h0 = f26_sem p0_m p1_i h0 post := by kernel_rfl

set_option maxRecDepth 20000 in
theorem f26_call (p0_m : Option Addr) (p1_i : Int) (h0 : H) (post : Value → H → Prop) (hx : f26_sem p0_m p1_i h0 post) : SemCall Tryd.prog 26 (List.toArray [(Value.pointer p0_m), (Value.int .i64 p1_i)]) h0 post :=
 sem_of_exec (g := f26_hint) mixed Tryd.func26 (bodyOf_eq (by kernel_rfl)) (by kernel_rfl) ((f26_eq p0_m p1_i h0 post).mpr hx)

/- latchgarth/core.Within -/
def f36_sem (p0_n : Int) (p1_low : Int) (p2_high : Int) (h0 : H) (post : Value → H → Prop) : Prop :=
 ∃ R1 : Bool → H → Prop, (
 VIf (decide (p0_n ≥ p1_low)) (
 (∃ h2, Gh h0 h2 ∧ R1 (decide (p0_n ≤ p2_high)) h2)) (
 (∃ h3, Gh h0 h3 ∧ R1 false h3))) ∧
 ∀ (_ : F) (x4 : Bool) (h5 : H), R1 x4 h5 →
 VRet h5 (Value.bool x4) post

def f36_hint : Hint := (.node .leaf (.node (.join [(6, .bool)] .leaf) .leaf))

theorem f36_eq (p0_n : Int) (p1_low : Int) (p2_high : Int) (h0 : H) (post : Value → H → Prop) : exec Tryd.prog (bodyOf Tryd.f36) f36_hint (retQ Tryd.prog Tryd.f36 post) (F0 [(Value.int .i64 p0_n), (Value.int .i64 p1_low), (Value.int .i64 p2_high)]) h0 = f36_sem p0_n p1_low p2_high h0 post := by kernel_rfl

set_option maxRecDepth 20000 in
theorem f36_call (p0_n : Int) (p1_low : Int) (p2_high : Int) (h0 : H) (post : Value → H → Prop) (hx : f36_sem p0_n p1_low p2_high h0 post) : SemCall Tryd.prog 36 (List.toArray [(Value.int .i64 p0_n), (Value.int .i64 p1_low), (Value.int .i64 p2_high)]) h0 post :=
 sem_of_exec (g := f36_hint) mixed Tryd.func36 (bodyOf_eq (by kernel_rfl)) (by kernel_rfl) ((f36_eq p0_n p1_low p2_high h0 post).mpr hx)

/- latchgarth/plain.Told -/
def f37_sem (p0_err : Option (TypeId × Value)) (h0 : H) (post : Value → H → Prop) : Prop :=
 isIfaceV (errV p0_err) = true ∧
 VIf (isNilV (errV p0_err)) (
 VRet h0 (Value.int .i64 0) post) (
 H.new h0 [(Value.int .i64 0)] fun r1 h2 =>
 SemCall Go.Proofs.Tryd.prog 54 (List.toArray [(errV p0_err), (Value.iface 92 (Value.pointer (some (Addr.mk r1 0 none))))]) h2 fun v3 h4 =>
 ∃ x5 : Bool, v3 = (Value.bool x5) ∧
 VIf x5 (
 ∃ x6 : Int, H.rd h4 (Addr.add (Addr.mk r1 0 none) 0) (Value.int .i64 x6) ∧
 VRet h4 (Value.int .i64 x6) post) (
 VRet h4 (Value.int .i64 (-1 : Int)) post))

def f37_hint : Hint := .leaf

theorem f37_eq (p0_err : Option (TypeId × Value)) (h0 : H) (post : Value → H → Prop) : exec Tryd.prog (bodyOf Tryd.f37) f37_hint (retQ Tryd.prog Tryd.f37 post) (F0 [(errV p0_err)]) h0 = f37_sem p0_err h0 post := by kernel_rfl

set_option maxRecDepth 20000 in
theorem f37_call (p0_err : Option (TypeId × Value)) (h0 : H) (post : Value → H → Prop) (hx : f37_sem p0_err h0 post) : SemCall Tryd.prog 37 (List.toArray [(errV p0_err)]) h0 post :=
 sem_of_exec (g := f37_hint) mixed Tryd.func37 (bodyOf_eq (by kernel_rfl)) (by kernel_rfl) ((f37_eq p0_err h0 post).mpr hx)

/- slices.Delete[[]int,int] -/
def f38_sem (p0_s : SV) (p1_i : Int) (p2_j : Int) (h0 : H) (post : Value → H → Prop) : Prop :=
 0 ≤ ((p0_s.len : Nat) : Int) ∧ ((p0_s.len : Nat) : Int) ≤ ((p0_s.cap : Nat) : Int) ∧ 0 ≤ p2_j ∧ p2_j ≤ ((p0_s.len : Nat) : Int) ∧ 0 ≤ p1_i ∧ p1_i ≤ p2_j ∧
 VIf (p1_i == p2_j) (
 VRet h0 (Value.slice p0_s.a p0_s.len p0_s.cap) post) (
 0 ≤ p1_i ∧ p1_i ≤ ((p0_s.cap : Nat) : Int) ∧
 0 ≤ p2_j ∧ p2_j ≤ ((p0_s.len : Nat) : Int) ∧
 appVC Go.Proofs.Tryd.prog 22 (Value.slice p0_s.a ((p1_i).toNat) p0_s.cap) (Value.slice (if p0_s.cap = (p2_j).toNat then p0_s.a else Option.map (fun z => Addr.add z ((p2_j).toNat * 1)) p0_s.a) (p0_s.len - (p2_j).toNat) (p0_s.cap - (p2_j).toNat)) h0 fun x1 h2 =>
 0 ≤ ((p0_s.len : Nat) : Int) ∧ ((p0_s.len : Nat) : Int) ≤ ((x1.cap : Nat) : Int) ∧ 0 ≤ ((x1.len : Nat) : Int) ∧ ((x1.len : Nat) : Int) ≤ ((p0_s.len : Nat) : Int) ∧
 clearVC Go.Proofs.Tryd.prog 22 (Value.slice (if x1.cap = (((x1.len : Nat) : Int)).toNat then x1.a else Option.map (fun z => Addr.add z ((((x1.len : Nat) : Int)).toNat * 1)) x1.a) ((((p0_s.len : Nat) : Int)).toNat - (((x1.len : Nat) : Int)).toNat) (x1.cap - (((x1.len : Nat) : Int)).toNat)) h2 fun h3 =>
 VRet h3 (Value.slice x1.a x1.len x1.cap) post)

def f38_hint : Hint := (.node .leaf (.node .leaf (.node .leaf (.node .leaf (.node (.tail 6) .leaf)))))

theorem f38_eq (p0_s : SV) (p1_i : Int) (p2_j : Int) (h0 : H) (post : Value → H → Prop) : exec Tryd.prog (bodyOf Tryd.f38) f38_hint (retQ Tryd.prog Tryd.f38 post) (F0 [(Value.slice p0_s.a p0_s.len p0_s.cap), (Value.int .i64 p1_i), (Value.int .i64 p2_j)]) h0 = f38_sem p0_s p1_i p2_j h0 post := by kernel_rfl

set_option maxRecDepth 20000 in
theorem f38_call (p0_s : SV) (p1_i : Int) (p2_j : Int) (h0 : H) (post : Value → H → Prop) (hx : f38_sem p0_s p1_i p2_j h0 post) : SemCall Tryd.prog 38 (List.toArray [(Value.slice p0_s.a p0_s.len p0_s.cap), (Value.int .i64 p1_i), (Value.int .i64 p2_j)]) h0 post :=
 sem_of_exec (g := f38_hint) mixed Tryd.func38 (bodyOf_eq (by kernel_rfl)) (by kernel_rfl) ((f38_eq p0_s p1_i p2_j h0 post).mpr hx)

/- slices.Contains[[]int,int] -/
def f39_sem (p0_s : SV) (p1_v : Int) (h0 : H) (post : Value → H → Prop) : Prop :=
 SemCall Go.Proofs.Tryd.prog 55 (List.toArray [(Value.slice p0_s.a p0_s.len p0_s.cap), (Value.int .i64 p1_v)]) h0 fun v1 h2 =>
 ∃ x3 : Int, v1 = (Value.int .i64 x3) ∧
 VRet h2 (Value.bool (decide (x3 ≥ (0 : Int)))) post

def f39_hint : Hint := .leaf

theorem f39_eq (p0_s : SV) (p1_v : Int) (h0 : H) (post : Value → H → Prop) : exec Tryd.prog (bodyOf Tryd.f39) f39_hint (retQ Tryd.prog Tryd.f39 post) (F0 [(Value.slice p0_s.a p0_s.len p0_s.cap), (Value.int .i64 p1_v)]) h0 = f39_sem p0_s p1_v h0 post := by kernel_rfl

set_option maxRecDepth 20000 in
theorem f39_call (p0_s : SV) (p1_v : Int) (h0 : H) (post : Value → H → Prop) (hx : f39_sem p0_s p1_v h0 post) : SemCall Tryd.prog 39 (List.toArray [(Value.slice p0_s.a p0_s.len p0_s.cap), (Value.int .i64 p1_v)]) h0 post :=
 sem_of_exec (g := f39_hint) mixed Tryd.func39 (bodyOf_eq (by kernel_rfl)) (by kernel_rfl) ((f39_eq p0_s p1_v h0 post).mpr hx)

/- slices.Clone[[]int,int] -/
def f40_sem (p0_s : SV) (h0 : H) (post : Value → H → Prop) : Prop :=
 VIf (Option.isNone p0_s.a) (
 VRet h0 (Value.slice none 0 0) post) (
 H.new h0 [] fun r1 h2 =>
 appVC Go.Proofs.Tryd.prog 22 (Value.slice (some (Addr.mk r1 0 none)) 0 0) (Value.slice p0_s.a p0_s.len p0_s.cap) h2 fun x3 h4 =>
 VRet h4 (Value.slice x3.a x3.len x3.cap) post)

def f40_hint : Hint := .leaf

theorem f40_eq (p0_s : SV) (h0 : H) (post : Value → H → Prop) : exec Tryd.prog (bodyOf Tryd.f40) f40_hint (retQ Tryd.prog Tryd.f40 post) (F0 [(Value.slice p0_s.a p0_s.len p0_s.cap)]) h0 = f40_sem p0_s h0 post := by kernel_rfl

set_option maxRecDepth 20000 in
theorem f40_call (p0_s : SV) (h0 : H) (post : Value → H → Prop) (hx : f40_sem p0_s h0 post) : SemCall Tryd.prog 40 (List.toArray [(Value.slice p0_s.a p0_s.len p0_s.cap)]) h0 post :=
 sem_of_exec (g := f40_hint) mixed Tryd.func40 (bodyOf_eq (by kernel_rfl)) (by kernel_rfl) ((f40_eq p0_s h0 post).mpr hx)

/- latchgarth/latchgarthref4.set -/
def f41_sem (p0_l : SV) (p1_i : Int) (p2_n : Int) (h0 : H) (post : Value → H → Prop) : Prop :=
 appVC Go.Proofs.Tryd.prog 22 (Value.slice none 0 0) (Value.slice p0_l.a p0_l.len p0_l.cap) h0 fun x1 h2 =>
 ∃ b3 : Addr, x1.a = some b3 ∧ 0 ≤ p1_i ∧ p1_i < ((x1.len : Nat) : Int) ∧
 H.wr h2 (Addr.add b3 ((p1_i).toNat * 1)) ([(Value.int .i64 p2_n)]) fun h4 =>
 VRet h4 (Value.slice x1.a x1.len x1.cap) post

def f41_hint : Hint := .leaf

theorem f41_eq (p0_l : SV) (p1_i : Int) (p2_n : Int) (h0 : H) (post : Value → H → Prop) : exec Tryd.prog (bodyOf Tryd.f41) f41_hint (retQ Tryd.prog Tryd.f41 post) (F0 [(Value.slice p0_l.a p0_l.len p0_l.cap), (Value.int .i64 p1_i), (Value.int .i64 p2_n)]) h0 = f41_sem p0_l p1_i p2_n h0 post := by kernel_rfl

set_option maxRecDepth 20000 in
theorem f41_call (p0_l : SV) (p1_i : Int) (p2_n : Int) (h0 : H) (post : Value → H → Prop) (hx : f41_sem p0_l p1_i p2_n h0 post) : SemCall Tryd.prog 41 (List.toArray [(Value.slice p0_l.a p0_l.len p0_l.cap), (Value.int .i64 p1_i), (Value.int .i64 p2_n)]) h0 post :=
 sem_of_exec (g := f41_hint) mixed Tryd.func41 (bodyOf_eq (by kernel_rfl)) (by kernel_rfl) ((f41_eq p0_l p1_i p2_n h0 post).mpr hx)

/- (*latchgarth/pmem.Mem).is -/
def f42_sem (p0_m : Option Addr) (p1_i : Int) (h0 : H) (post : Value → H → Prop) : Prop :=
 ∃ a1 : Addr, p0_m = some a1 ∧
 ∃ x2 : SV, H.rd h0 (Addr.add (Addr.add a1 0) 0) (Value.slice x2.a x2.len x2.cap) ∧
 In64 (((x2.len : Nat) : Int) - (1 : Int)) ∧
 SemCall Go.Proofs.Tryd.prog 36 (List.toArray [(Value.int .i64 p1_i), (Value.int .i64 0), (Value.int .i64 (((x2.len : Nat) : Int) - (1 : Int)))]) h0 fun v3 h4 =>
 ∃ x5 : Bool, v3 = (Value.bool x5) ∧
 VRet h4 (Value.bool x5) post

def f42_hint : Hint := .leaf

theorem f42_eq (p0_m : Option Addr) (p1_i : Int) (h0 : H) (post : Value → H → Prop) : exec Tryd.prog (bodyOf Tryd.f42) f42_hint (retQ Tryd.prog Tryd.f42 post) (F0 [(Value.pointer p0_m), (Value.int .i64 p1_i)]) h0 = f42_sem p0_m p1_i h0 post := by kernel_rfl

set_option maxRecDepth 20000 in
theorem f42_call (p0_m : Option Addr) (p1_i : Int) (h0 : H) (post : Value → H → Prop) (hx : f42_sem p0_m p1_i h0 post) : SemCall Tryd.prog 42 (List.toArray [(Value.pointer p0_m), (Value.int .i64 p1_i)]) h0 post :=
 sem_of_exec (g := f42_hint) mixed Tryd.func42 (bodyOf_eq (by kernel_rfl)) (by kernel_rfl) ((f42_eq p0_m p1_i h0 post).mpr hx)

/- latchgarth/latchgarthref1.Bit -/
def f43_L1 (p1_i : Int) (R1 : Int → H → Prop) (I2 : Nat → Int → Int → H → Prop) (n3 : Nat) (x6_set : Int) (x7_k : Int) (h8 : H) : Prop :=
 ∃ R9 : Bool → H → Prop, (
 VIf (decide (x7_k < p1_i)) (
 (∃ h10, Gh h8 h10 ∧ R9 (x6_set != (0 : Int)) h10)) (
 (∃ h11, Gh h8 h11 ∧ R9 false h11))) ∧
 ∀ (_ : F) (x12 : Bool) (h13 : H), R9 x12 h13 →
 VIf x12 (
 (2 : Int) ≠ 0 ∧ In64 (Int.tdiv x6_set (2 : Int)) ∧
 In64 (x7_k + (1 : Int)) ∧
 ∃ m4, m4 < n3 ∧ (∃ h14, Gh h13 h14 ∧ I2 m4 (Int.tdiv x6_set (2 : Int)) (x7_k + (1 : Int)) h14)) (
 (∃ h15, Gh h13 h15 ∧ R1 x6_set h15))

def f43_sem (p0_set : Int) (p1_i : Int) (h0 : H) (post : Value → H → Prop) : Prop :=
 ∃ R1 : Int → H → Prop, (
 ∃ I2 : Nat → Int → Int → H → Prop, (∃ n3, (∃ h5, Gh h0 h5 ∧ I2 n3 p0_set (0 : Int) h5)) ∧
 ∀ (n3 : Nat) (_ : F) (x6_set : Int) (x7_k : Int) (h8 : H), I2 n3 x6_set x7_k h8 →
 f43_L1 p1_i R1 I2 n3 x6_set x7_k h8) ∧
 ∀ (_ : F) (x16_set : Int) (h17 : H), R1 x16_set h17 →
 (2 : Int) ≠ 0 ∧
 VRet h17 (Value.bool ((Int.tmod x16_set (2 : Int)) == (1 : Int))) post

def f43_hint : Hint := (.node .leaf (.node (.node .leaf (.join [(0, .int)] (.node (.loop [(0, .int), (5, .int)] (.node (.node (.join [(12, .bool)] .leaf) .leaf) .leaf)) .leaf))) .leaf))

theorem f43_eq (p0_set : Int) (p1_i : Int) (h0 : H) (post : Value → H → Prop) : exec Tryd.prog (bodyOf Tryd.f43) f43_hint (retQ Tryd.prog Tryd.f43 post) (F0 [(Value.int .i64 p0_set), (Value.int .i64 p1_i)]) h0 = f43_sem p0_set p1_i h0 post := by kernel_rfl

set_option maxRecDepth 20000 in
theorem f43_call (p0_set : Int) (p1_i : Int) (h0 : H) (post : Value → H → Prop) (hx : f43_sem p0_set p1_i h0 post) : SemCall Tryd.prog 43 (List.toArray [(Value.int .i64 p0_set), (Value.int .i64 p1_i)]) h0 post :=
 sem_of_exec (g := f43_hint) mixed Tryd.func43 (bodyOf_eq (by kernel_rfl)) (by kernel_rfl) ((f43_eq p0_set p1_i h0 post).mpr hx)

/- latchgarth/core.Mask -/
def f44_sem (p0_set : Int) (p1_n : Int) (h0 : H) (post : Value → H → Prop) : Prop :=
 ∃ R1 : Bool → H → Prop, (
 VIf (decide (p0_set ≥ (0 : Int))) (
 0 ≤ p1_n ∧ p1_n ≤ 63 ∧ In64 ((1 : Int) * 2 ^ (p1_n).toNat) ∧
 (∃ h2, Gh h0 h2 ∧ R1 (decide (p0_set < ((1 : Int) * 2 ^ (p1_n).toNat))) h2)) (
 (∃ h3, Gh h0 h3 ∧ R1 false h3))) ∧
 ∀ (_ : F) (x4 : Bool) (h5 : H), R1 x4 h5 →
 VRet h5 (Value.bool x4) post

def f44_hint : Hint := (.node .leaf (.node (.join [(4, .bool)] .leaf) .leaf))

theorem f44_eq (p0_set : Int) (p1_n : Int) (h0 : H) (post : Value → H → Prop) : exec Tryd.prog (bodyOf Tryd.f44) f44_hint (retQ Tryd.prog Tryd.f44 post) (F0 [(Value.int .i64 p0_set), (Value.int .i64 p1_n)]) h0 = f44_sem p0_set p1_n h0 post := by kernel_rfl

set_option maxRecDepth 20000 in
theorem f44_call (p0_set : Int) (p1_n : Int) (h0 : H) (post : Value → H → Prop) (hx : f44_sem p0_set p1_n h0 post) : SemCall Tryd.prog 44 (List.toArray [(Value.int .i64 p0_set), (Value.int .i64 p1_n)]) h0 post :=
 sem_of_exec (g := f44_hint) mixed Tryd.func44 (bodyOf_eq (by kernel_rfl)) (by kernel_rfl) ((f44_eq p0_set p1_n h0 post).mpr hx)

/- latchgarth/core.Has -/
def f45_sem (p0_set : Int) (p1_i : Int) (h0 : H) (post : Value → H → Prop) : Prop :=
 0 ≤ p1_i ∧ p1_i ≤ 63 ∧
 VRet h0 (Value.bool ((bitsV .and (Int.fdiv p0_set (2 ^ (p1_i).toNat)) (1 : Int)) == (1 : Int))) post

def f45_hint : Hint := .leaf

theorem f45_eq (p0_set : Int) (p1_i : Int) (h0 : H) (post : Value → H → Prop) : exec Tryd.prog (bodyOf Tryd.f45) f45_hint (retQ Tryd.prog Tryd.f45 post) (F0 [(Value.int .i64 p0_set), (Value.int .i64 p1_i)]) h0 = f45_sem p0_set p1_i h0 post := by kernel_rfl

set_option maxRecDepth 20000 in
theorem f45_call (p0_set : Int) (p1_i : Int) (h0 : H) (post : Value → H → Prop) (hx : f45_sem p0_set p1_i h0 post) : SemCall Tryd.prog 45 (List.toArray [(Value.int .i64 p0_set), (Value.int .i64 p1_i)]) h0 post :=
 sem_of_exec (g := f45_hint) mixed Tryd.func45 (bodyOf_eq (by kernel_rfl)) (by kernel_rfl) ((f45_eq p0_set p1_i h0 post).mpr hx)

/- slices.Index[[]int,int] -/
def f55_L1 (p0_s : SV) (p1_v : Int) (post : Value → H → Prop) (R1 : H → Prop) (I2 : Nat → Int → H → Prop) (n3 : Nat) (x6 : Int) (h7 : H) : Prop :=
 VIf (decide (x6 < ((p0_s.len : Nat) : Int))) (
 ∃ b8 : Addr, p0_s.a = some b8 ∧ 0 ≤ x6 ∧ x6 < ((p0_s.len : Nat) : Int) ∧
 ∃ x9 : Int, H.rd h7 (Addr.add (Addr.add b8 ((x6).toNat * 1)) 0) (Value.int .i64 x9) ∧
 VIf (p1_v == x9) (
 VRet h7 (Value.int .i64 x6) post) (
 In64 (x6 + (1 : Int)) ∧
 ∃ m4, m4 < n3 ∧ (∃ h10, Gh h7 h10 ∧ I2 m4 (x6 + (1 : Int)) h10))) (
 (∃ h11, Gh h7 h11 ∧ R1 h11))

def f55_sem (p0_s : SV) (p1_v : Int) (h0 : H) (post : Value → H → Prop) : Prop :=
 ∃ R1 : H → Prop, (
 ∃ I2 : Nat → Int → H → Prop, (∃ n3, (∃ h5, Gh h0 h5 ∧ I2 n3 (0 : Int) h5)) ∧
 ∀ (n3 : Nat) (_ : F) (x6 : Int) (h7 : H), I2 n3 x6 h7 →
 f55_L1 p0_s p1_v post R1 I2 n3 x6 h7) ∧
 ∀ (_ : F) (h12 : H), R1 h12 →
 VRet h12 (Value.int .i64 (-1 : Int)) post

def f55_hint : Hint := (.node .leaf (.node (.node .leaf (.join [] (.node (.loop [(8, .int)] .leaf) .leaf))) .leaf))

theorem f55_eq (p0_s : SV) (p1_v : Int) (h0 : H) (post : Value → H → Prop) : exec Tryd.prog (bodyOf Tryd.f55) f55_hint (retQ Tryd.prog Tryd.f55 post) (F0 [(Value.slice p0_s.a p0_s.len p0_s.cap), (Value.int .i64 p1_v)]) h0 = f55_sem p0_s p1_v h0 post := by kernel_rfl

set_option maxRecDepth 20000 in
theorem f55_call (p0_s : SV) (p1_v : Int) (h0 : H) (post : Value → H → Prop) (hx : f55_sem p0_s p1_v h0 post) : SemCall Tryd.prog 55 (List.toArray [(Value.slice p0_s.a p0_s.len p0_s.cap), (Value.int .i64 p1_v)]) h0 post :=
 sem_of_exec (g := f55_hint) mixed Tryd.func55 (bodyOf_eq (by kernel_rfl)) (by kernel_rfl) ((f55_eq p0_s p1_v h0 post).mpr hx)

end Go.Proofs.YtkokdeenniejjaaDoor
