import Derived.Test.YtkokdeenniejjaaDoorEngG
import Derived.Test.YtkokdeenniejjaaDoorRows
namespace Go.Proofs.YtkokdeenniejjaaDoor
open Go.Eng
theorem mixed : Tryd.prog.follows .mixedOrders = true := by kernel_rfl
/- latchgarth/latchgarthlaw4.RwPlays -/
def f5_J1 (post : Value → H → Prop) (R26 : H → Prop) (x130_has : Bool) (x131_e : Int) (x155_is : Bool) (x156_err : Option (TypeId × Value)) (h157 : H) : Prop :=
 ∃ R158 : Bool → H → Prop, (
 SemCall Go.Proofs.Tryd.prog 8 (List.toArray [(errV x156_err), (Value.int .i64 x131_e)]) h157 fun v159 h160 =>
 ∃ x161 : Bool, v159 = (Value.bool x161) ∧
 VIf (!x161) (
 (∃ h162, Gh h160 h162 ∧ R158 true h162)) (
 (∃ h163, Gh h160 h163 ∧ R158 (!(x155_is == x130_has)) h163))) ∧
 ∀ (_ : F) (x164 : Bool) (h165 : H), R158 x164 h165 →
 VIf x164 (
 VRet h165 (Value.bool false) post) (
 (∃ h166, Gh h165 h166 ∧ R26 h166))

def f5_J2 (post : Value → H → Prop) (x3 : Option Addr) (r8 : Nat) (x25 : SV) (R26 : H → Prop) (x129_y : Addr) (x130_has : Bool) (x131_e : Int) (h132 : H) : Prop :=
 ∃ x133 : SV, H.rd h132 (Addr.add x129_y 0) (Value.slice x133.a x133.len x133.cap) ∧
 ∃ x134 : SV, H.rd h132 (Addr.add x129_y 1) (Value.slice x134.a x134.len x134.cap) ∧
 ([(Value.slice x133.a x133.len x133.cap), (Value.slice x134.a x134.len x134.cap)]).length = 2 ∧ (Program.underlying Go.Proofs.Tryd.prog 56).isSome = true ∧
 H.wr h132 (Addr.mk r8 0 none) ([(Value.slice x133.a x133.len x133.cap), (Value.slice x134.a x134.len x134.cap)]) fun h135 =>
 ∃ R136 : Bool → Option (TypeId × Value) → H → Prop, (
 ∃ b137 : Addr, x25.a = some b137 ∧ 0 ≤ (0 : Int) ∧ (0 : Int) < ((x25.len : Nat) : Int) ∧
 ∃ b138 : Addr, x25.a = some b138 ∧ 0 ≤ (1 : Int) ∧ (1 : Int) < ((x25.len : Nat) : Int) ∧
 (
 ∃ x139 : Int, H.rd h135 (Addr.add (Addr.add b137 (((0 : Int)).toNat * 1)) 0) (Value.int .i64 x139) ∧
 ∃ x140 : Int, H.rd h135 (Addr.add (Addr.add b138 (((1 : Int)).toNat * 1)) 0) (Value.int .i64 x140) ∧
 SemCall Go.Proofs.Tryd.prog 30 (List.toArray [(Value.pointer x3), (Value.int .i64 x139), (Value.bool (x140 == (1 : Int)))]) h135 fun v141 h142 =>
 ∃ x143 : Bool, ∃ x144 : Option (TypeId × Value), v141 = (Value.tuple (List.toArray [(Value.bool x143), (errV x144)])) ∧
 (∃ o145, (errV x144) = errV o145 ∧ ∃ h146, Gh h142 h146 ∧ R136 x143 o145 h146)) ∧
 (
 ∃ x147 : Int, H.rd h135 (Addr.add (Addr.add b138 (((1 : Int)).toNat * 1)) 0) (Value.int .i64 x147) ∧
 ∃ x148 : Int, H.rd h135 (Addr.add (Addr.add b137 (((0 : Int)).toNat * 1)) 0) (Value.int .i64 x148) ∧
 SemCall Go.Proofs.Tryd.prog 30 (List.toArray [(Value.pointer x3), (Value.int .i64 x148), (Value.bool (x147 == (1 : Int)))]) h135 fun v149 h150 =>
 ∃ x151 : Bool, ∃ x152 : Option (TypeId × Value), v149 = (Value.tuple (List.toArray [(Value.bool x151), (errV x152)])) ∧
 (∃ o153, (errV x152) = errV o153 ∧ ∃ h154, Gh h150 h154 ∧ R136 x151 o153 h154))) ∧
 ∀ (_ : F) (x155_is : Bool) (x156_err : Option (TypeId × Value)) (h157 : H), R136 x155_is x156_err h157 →
 f5_J1 post R26 x130_has x131_e x155_is x156_err h157

def f5_J3 (post : Value → H → Prop) (x3 : Option Addr) (r8 : Nat) (x25 : SV) (R26 : H → Prop) (x32_w : Int) (h33 : H) : Prop :=
 ∃ R34 : Addr → Bool → Int → H → Prop, (
 ∃ b35 : Addr, x25.a = some b35 ∧ 0 ≤ (0 : Int) ∧ (0 : Int) < ((x25.len : Nat) : Int) ∧
 (
 ∃ x36 : SV, H.rd h33 (Addr.add (Addr.mk r8 0 none) 0) (Value.slice x36.a x36.len x36.cap) ∧
 ∃ x37 : SV, H.rd h33 (Addr.add (Addr.mk r8 0 none) 1) (Value.slice x37.a x37.len x37.cap) ∧
 (
 ∃ x38 : Int, H.rd h33 (Addr.add (Addr.add b35 (((0 : Int)).toNat * 1)) 0) (Value.int .i64 x38) ∧
 (
 SemCall Go.Proofs.Tryd.prog 29 (List.toArray [(Value.agg (List.toArray [(Value.slice x36.a x36.len x36.cap), (Value.slice x37.a x37.len x37.cap)])), (Value.int .i64 x38), (Value.int .i64 x32_w)]) h33 fun v39 h40 =>
 ∃ x41 : SV, ∃ x42 : SV, ∃ x43 : Bool, ∃ x44 : Int, v39 = (Value.tuple (List.toArray [(Value.agg (List.toArray [(Value.slice x41.a x41.len x41.cap), (Value.slice x42.a x42.len x42.cap)])), (Value.bool x43), (Value.int .i64 x44)])) ∧
 H.new h40 [(Value.slice none 0 0), (Value.slice none 0 0)] fun r45 h46 =>
 ([(Value.slice x41.a x41.len x41.cap), (Value.slice x42.a x42.len x42.cap)]).length = 2 ∧ (Program.underlying Go.Proofs.Tryd.prog 56).isSome = true ∧
 H.wr h46 (Addr.mk r45 0 none) ([(Value.slice x41.a x41.len x41.cap), (Value.slice x42.a x42.len x42.cap)]) fun h47 =>
 (∃ h48, Gh h47 h48 ∧ R34 (Addr.mk r45 0 none) x43 x44 h48)) ∧
 (
 H.new h33 [(Value.slice none 0 0), (Value.slice none 0 0)] fun r49 h50 =>
 SemCall Go.Proofs.Tryd.prog 29 (List.toArray [(Value.agg (List.toArray [(Value.slice x36.a x36.len x36.cap), (Value.slice x37.a x37.len x37.cap)])), (Value.int .i64 x38), (Value.int .i64 x32_w)]) h50 fun v51 h52 =>
 ∃ x53 : SV, ∃ x54 : SV, ∃ x55 : Bool, ∃ x56 : Int, v51 = (Value.tuple (List.toArray [(Value.agg (List.toArray [(Value.slice x53.a x53.len x53.cap), (Value.slice x54.a x54.len x54.cap)])), (Value.bool x55), (Value.int .i64 x56)])) ∧
 ([(Value.slice x53.a x53.len x53.cap), (Value.slice x54.a x54.len x54.cap)]).length = 2 ∧ (Program.underlying Go.Proofs.Tryd.prog 56).isSome = true ∧
 H.wr h52 (Addr.mk r49 0 none) ([(Value.slice x53.a x53.len x53.cap), (Value.slice x54.a x54.len x54.cap)]) fun h57 =>
 (∃ h58, Gh h57 h58 ∧ R34 (Addr.mk r49 0 none) x55 x56 h58))) ∧
 (
 H.new h33 [(Value.slice none 0 0), (Value.slice none 0 0)] fun r59 h60 =>
 ∃ x61 : Int, H.rd h60 (Addr.add (Addr.add b35 (((0 : Int)).toNat * 1)) 0) (Value.int .i64 x61) ∧
 SemCall Go.Proofs.Tryd.prog 29 (List.toArray [(Value.agg (List.toArray [(Value.slice x36.a x36.len x36.cap), (Value.slice x37.a x37.len x37.cap)])), (Value.int .i64 x61), (Value.int .i64 x32_w)]) h60 fun v62 h63 =>
 ∃ x64 : SV, ∃ x65 : SV, ∃ x66 : Bool, ∃ x67 : Int, v62 = (Value.tuple (List.toArray [(Value.agg (List.toArray [(Value.slice x64.a x64.len x64.cap), (Value.slice x65.a x65.len x65.cap)])), (Value.bool x66), (Value.int .i64 x67)])) ∧
 ([(Value.slice x64.a x64.len x64.cap), (Value.slice x65.a x65.len x65.cap)]).length = 2 ∧ (Program.underlying Go.Proofs.Tryd.prog 56).isSome = true ∧
 H.wr h63 (Addr.mk r59 0 none) ([(Value.slice x64.a x64.len x64.cap), (Value.slice x65.a x65.len x65.cap)]) fun h68 =>
 (∃ h69, Gh h68 h69 ∧ R34 (Addr.mk r59 0 none) x66 x67 h69))) ∧
 (
 (
 ∃ x70 : Int, H.rd h33 (Addr.add (Addr.add b35 (((0 : Int)).toNat * 1)) 0) (Value.int .i64 x70) ∧
 (
 ∃ x71 : SV, H.rd h33 (Addr.add (Addr.mk r8 0 none) 0) (Value.slice x71.a x71.len x71.cap) ∧
 ∃ x72 : SV, H.rd h33 (Addr.add (Addr.mk r8 0 none) 1) (Value.slice x72.a x72.len x72.cap) ∧
 (
 SemCall Go.Proofs.Tryd.prog 29 (List.toArray [(Value.agg (List.toArray [(Value.slice x71.a x71.len x71.cap), (Value.slice x72.a x72.len x72.cap)])), (Value.int .i64 x70), (Value.int .i64 x32_w)]) h33 fun v73 h74 =>
 ∃ x75 : SV, ∃ x76 : SV, ∃ x77 : Bool, ∃ x78 : Int, v73 = (Value.tuple (List.toArray [(Value.agg (List.toArray [(Value.slice x75.a x75.len x75.cap), (Value.slice x76.a x76.len x76.cap)])), (Value.bool x77), (Value.int .i64 x78)])) ∧
 H.new h74 [(Value.slice none 0 0), (Value.slice none 0 0)] fun r79 h80 =>
 ([(Value.slice x75.a x75.len x75.cap), (Value.slice x76.a x76.len x76.cap)]).length = 2 ∧ (Program.underlying Go.Proofs.Tryd.prog 56).isSome = true ∧
 H.wr h80 (Addr.mk r79 0 none) ([(Value.slice x75.a x75.len x75.cap), (Value.slice x76.a x76.len x76.cap)]) fun h81 =>
 (∃ h82, Gh h81 h82 ∧ R34 (Addr.mk r79 0 none) x77 x78 h82)) ∧
 (
 H.new h33 [(Value.slice none 0 0), (Value.slice none 0 0)] fun r83 h84 =>
 SemCall Go.Proofs.Tryd.prog 29 (List.toArray [(Value.agg (List.toArray [(Value.slice x71.a x71.len x71.cap), (Value.slice x72.a x72.len x72.cap)])), (Value.int .i64 x70), (Value.int .i64 x32_w)]) h84 fun v85 h86 =>
 ∃ x87 : SV, ∃ x88 : SV, ∃ x89 : Bool, ∃ x90 : Int, v85 = (Value.tuple (List.toArray [(Value.agg (List.toArray [(Value.slice x87.a x87.len x87.cap), (Value.slice x88.a x88.len x88.cap)])), (Value.bool x89), (Value.int .i64 x90)])) ∧
 ([(Value.slice x87.a x87.len x87.cap), (Value.slice x88.a x88.len x88.cap)]).length = 2 ∧ (Program.underlying Go.Proofs.Tryd.prog 56).isSome = true ∧
 H.wr h86 (Addr.mk r83 0 none) ([(Value.slice x87.a x87.len x87.cap), (Value.slice x88.a x88.len x88.cap)]) fun h91 =>
 (∃ h92, Gh h91 h92 ∧ R34 (Addr.mk r83 0 none) x89 x90 h92))) ∧
 (
 H.new h33 [(Value.slice none 0 0), (Value.slice none 0 0)] fun r93 h94 =>
 ∃ x95 : SV, H.rd h94 (Addr.add (Addr.mk r8 0 none) 0) (Value.slice x95.a x95.len x95.cap) ∧
 ∃ x96 : SV, H.rd h94 (Addr.add (Addr.mk r8 0 none) 1) (Value.slice x96.a x96.len x96.cap) ∧
 SemCall Go.Proofs.Tryd.prog 29 (List.toArray [(Value.agg (List.toArray [(Value.slice x95.a x95.len x95.cap), (Value.slice x96.a x96.len x96.cap)])), (Value.int .i64 x70), (Value.int .i64 x32_w)]) h94 fun v97 h98 =>
 ∃ x99 : SV, ∃ x100 : SV, ∃ x101 : Bool, ∃ x102 : Int, v97 = (Value.tuple (List.toArray [(Value.agg (List.toArray [(Value.slice x99.a x99.len x99.cap), (Value.slice x100.a x100.len x100.cap)])), (Value.bool x101), (Value.int .i64 x102)])) ∧
 ([(Value.slice x99.a x99.len x99.cap), (Value.slice x100.a x100.len x100.cap)]).length = 2 ∧ (Program.underlying Go.Proofs.Tryd.prog 56).isSome = true ∧
 H.wr h98 (Addr.mk r93 0 none) ([(Value.slice x99.a x99.len x99.cap), (Value.slice x100.a x100.len x100.cap)]) fun h103 =>
 (∃ h104, Gh h103 h104 ∧ R34 (Addr.mk r93 0 none) x101 x102 h104))) ∧
 (
 H.new h33 [(Value.slice none 0 0), (Value.slice none 0 0)] fun r105 h106 =>
 (
 ∃ x107 : SV, H.rd h106 (Addr.add (Addr.mk r8 0 none) 0) (Value.slice x107.a x107.len x107.cap) ∧
 ∃ x108 : SV, H.rd h106 (Addr.add (Addr.mk r8 0 none) 1) (Value.slice x108.a x108.len x108.cap) ∧
 ∃ x109 : Int, H.rd h106 (Addr.add (Addr.add b35 (((0 : Int)).toNat * 1)) 0) (Value.int .i64 x109) ∧
 SemCall Go.Proofs.Tryd.prog 29 (List.toArray [(Value.agg (List.toArray [(Value.slice x107.a x107.len x107.cap), (Value.slice x108.a x108.len x108.cap)])), (Value.int .i64 x109), (Value.int .i64 x32_w)]) h106 fun v110 h111 =>
 ∃ x112 : SV, ∃ x113 : SV, ∃ x114 : Bool, ∃ x115 : Int, v110 = (Value.tuple (List.toArray [(Value.agg (List.toArray [(Value.slice x112.a x112.len x112.cap), (Value.slice x113.a x113.len x113.cap)])), (Value.bool x114), (Value.int .i64 x115)])) ∧
 ([(Value.slice x112.a x112.len x112.cap), (Value.slice x113.a x113.len x113.cap)]).length = 2 ∧ (Program.underlying Go.Proofs.Tryd.prog 56).isSome = true ∧
 H.wr h111 (Addr.mk r105 0 none) ([(Value.slice x112.a x112.len x112.cap), (Value.slice x113.a x113.len x113.cap)]) fun h116 =>
 (∃ h117, Gh h116 h117 ∧ R34 (Addr.mk r105 0 none) x114 x115 h117)) ∧
 (
 ∃ x118 : Int, H.rd h106 (Addr.add (Addr.add b35 (((0 : Int)).toNat * 1)) 0) (Value.int .i64 x118) ∧
 ∃ x119 : SV, H.rd h106 (Addr.add (Addr.mk r8 0 none) 0) (Value.slice x119.a x119.len x119.cap) ∧
 ∃ x120 : SV, H.rd h106 (Addr.add (Addr.mk r8 0 none) 1) (Value.slice x120.a x120.len x120.cap) ∧
 SemCall Go.Proofs.Tryd.prog 29 (List.toArray [(Value.agg (List.toArray [(Value.slice x119.a x119.len x119.cap), (Value.slice x120.a x120.len x120.cap)])), (Value.int .i64 x118), (Value.int .i64 x32_w)]) h106 fun v121 h122 =>
 ∃ x123 : SV, ∃ x124 : SV, ∃ x125 : Bool, ∃ x126 : Int, v121 = (Value.tuple (List.toArray [(Value.agg (List.toArray [(Value.slice x123.a x123.len x123.cap), (Value.slice x124.a x124.len x124.cap)])), (Value.bool x125), (Value.int .i64 x126)])) ∧
 ([(Value.slice x123.a x123.len x123.cap), (Value.slice x124.a x124.len x124.cap)]).length = 2 ∧ (Program.underlying Go.Proofs.Tryd.prog 56).isSome = true ∧
 H.wr h122 (Addr.mk r105 0 none) ([(Value.slice x123.a x123.len x123.cap), (Value.slice x124.a x124.len x124.cap)]) fun h127 =>
 (∃ h128, Gh h127 h128 ∧ R34 (Addr.mk r105 0 none) x125 x126 h128))))) ∧
 ∀ (_ : F) (x129_y : Addr) (x130_has : Bool) (x131_e : Int) (h132 : H), R34 x129_y x130_has x131_e h132 →
 f5_J2 post x3 r8 x25 R26 x129_y x130_has x131_e h132

def f5_J4 (post : Value → H → Prop) (x3 : Option Addr) (r8 : Nat) (x25 : SV) (R169 : H → Prop) (x265_y : Addr) (x266_who : SV) (x267_e : Int) (h268 : H) : Prop :=
 ∃ x269 : SV, H.rd h268 (Addr.add x265_y 0) (Value.slice x269.a x269.len x269.cap) ∧
 ∃ x270 : SV, H.rd h268 (Addr.add x265_y 1) (Value.slice x270.a x270.len x270.cap) ∧
 ([(Value.slice x269.a x269.len x269.cap), (Value.slice x270.a x270.len x270.cap)]).length = 2 ∧ (Program.underlying Go.Proofs.Tryd.prog 56).isSome = true ∧
 H.wr h268 (Addr.mk r8 0 none) ([(Value.slice x269.a x269.len x269.cap), (Value.slice x270.a x270.len x270.cap)]) fun h271 =>
 ∃ b272 : Addr, x25.a = some b272 ∧ 0 ≤ (0 : Int) ∧ (0 : Int) < ((x25.len : Nat) : Int) ∧
 ∃ x273 : Int, H.rd h271 (Addr.add (Addr.add b272 (((0 : Int)).toNat * 1)) 0) (Value.int .i64 x273) ∧
 SemCall Go.Proofs.Tryd.prog 32 (List.toArray [(Value.pointer x3), (Value.int .i64 x273)]) h271 fun v274 h275 =>
 ∃ x276 : SV, ∃ x277 : Option (TypeId × Value), v274 = (Value.tuple (List.toArray [(Value.slice x276.a x276.len x276.cap), (errV x277)])) ∧
 ∃ R278 : Bool → H → Prop, (
 SemCall Go.Proofs.Tryd.prog 8 (List.toArray [(errV x277), (Value.int .i64 x267_e)]) h275 fun v279 h280 =>
 ∃ x281 : Bool, v279 = (Value.bool x281) ∧
 VIf (!x281) (
 (∃ h282, Gh h280 h282 ∧ R278 true h282)) (
 SemCall Go.Proofs.Tryd.prog 12 (List.toArray [(Value.slice x276.a x276.len x276.cap), (Value.slice x266_who.a x266_who.len x266_who.cap)]) h280 fun v283 h284 =>
 ∃ x285 : Bool, v283 = (Value.bool x285) ∧
 (∃ h286, Gh h284 h286 ∧ R278 (!x285) h286))) ∧
 ∀ (_ : F) (x287 : Bool) (h288 : H), R278 x287 h288 →
 VIf x287 (
 VRet h288 (Value.bool false) post) (
 (∃ h289, Gh h288 h289 ∧ R169 h289))

def f5_J5 (r8 : Nat) (I293 : Nat → Int → Int → Int → Int → H → Prop) (n294 : Nat) (x298_writes : Int) (x299_p : Int) (x300_k : Int) (x308_reads : Int) (h309 : H) : Prop :=
 ∃ x310 : SV, H.rd h309 (Addr.add (Addr.add (Addr.mk r8 0 none) 0) 0) (Value.slice x310.a x310.len x310.cap) ∧
 ∃ b311 : Addr, x310.a = some b311 ∧ 0 ≤ x300_k ∧ x300_k < ((x310.len : Nat) : Int) ∧
 ∃ x312 : Int, H.rd h309 (Addr.add (Addr.add b311 ((x300_k).toNat * 1)) 0) (Value.int .i64 x312) ∧
 ∃ R313 : Int → H → Prop, (
 VIf (x312 == (2 : Int)) (
 (∃ h314, Gh h309 h314 ∧ R313 x300_k h314)) (
 (∃ h315, Gh h309 h315 ∧ R313 x298_writes h315))) ∧
 ∀ (_ : F) (x316_writes : Int) (h317 : H), R313 x316_writes h317 →
 In64 (x299_p * (2 : Int)) ∧
 In64 (x300_k + (1 : Int)) ∧
 ∃ m295, m295 < n294 ∧ (∃ h318, Gh h317 h318 ∧ I293 m295 x308_reads x316_writes (x299_p * (2 : Int)) (x300_k + (1 : Int)) h318)

def f5_L6 (r8 : Nat) (R292 : Int → Int → H → Prop) (I293 : Nat → Int → Int → Int → Int → H → Prop) (n294 : Nat) (x297_reads : Int) (x298_writes : Int) (x299_p : Int) (x300_k : Int) (h301 : H) : Prop :=
 VIf (decide (x300_k < (8 : Int))) (
 ∃ x302 : SV, H.rd h301 (Addr.add (Addr.add (Addr.mk r8 0 none) 0) 0) (Value.slice x302.a x302.len x302.cap) ∧
 ∃ b303 : Addr, x302.a = some b303 ∧ 0 ≤ x300_k ∧ x300_k < ((x302.len : Nat) : Int) ∧
 ∃ x304 : Int, H.rd h301 (Addr.add (Addr.add b303 ((x300_k).toNat * 1)) 0) (Value.int .i64 x304) ∧
 ∃ R305 : Int → H → Prop, (
 VIf (x304 == (1 : Int)) (
 In64 (x297_reads + x299_p) ∧
 (∃ h306, Gh h301 h306 ∧ R305 (x297_reads + x299_p) h306)) (
 (∃ h307, Gh h301 h307 ∧ R305 x297_reads h307))) ∧
 ∀ (_ : F) (x308_reads : Int) (h309 : H), R305 x308_reads h309 →
 f5_J5 r8 I293 n294 x298_writes x299_p x300_k x308_reads h309) (
 (∃ h319, Gh h301 h319 ∧ R292 x297_reads x298_writes h319))

def f5_L7 (r8 : Nat) (R323 : SV → H → Prop) (I324 : Nat → SV → Int → H → Prop) (n325 : Nat) (x328_waits : SV) (x329_k : Int) (h330 : H) : Prop :=
 ∃ x331 : SV, H.rd h330 (Addr.add (Addr.add (Addr.mk r8 0 none) 1) 0) (Value.slice x331.a x331.len x331.cap) ∧
 VIf (decide (x329_k < ((x331.len : Nat) : Int))) (
 ∃ x332 : SV, H.rd h330 (Addr.add (Addr.add (Addr.mk r8 0 none) 1) 0) (Value.slice x332.a x332.len x332.cap) ∧
 ∃ b333 : Addr, x332.a = some b333 ∧ 0 ≤ x329_k ∧ x329_k < ((x332.len : Nat) : Int) ∧
 ∃ x334 : SV, H.rd h330 (Addr.add (Addr.add b333 ((x329_k).toNat * 1)) 0) (Value.slice x334.a x334.len x334.cap) ∧
 ∃ b335 : Addr, x334.a = some b335 ∧ 0 ≤ (0 : Int) ∧ (0 : Int) < ((x334.len : Nat) : Int) ∧
 ∃ x336 : Int, H.rd h330 (Addr.add (Addr.add b335 (((0 : Int)).toNat * 1)) 0) (Value.int .i64 x336) ∧
 H.new h330 [(Value.int .i64 x336)] fun r337 h338 =>
 appVC Go.Proofs.Tryd.prog 22 (Value.slice x328_waits.a x328_waits.len x328_waits.cap) (Value.slice (some (Addr.mk r337 0 none)) 1 1) h338 fun x339 h340 =>
 In64 (x329_k + (1 : Int)) ∧
 ∃ m326, m326 < n325 ∧ (∃ h341, Gh h340 h341 ∧ I324 m326 x339 (x329_k + (1 : Int)) h341)) (
 (∃ h342, Gh h330 h342 ∧ R323 x328_waits h342))

def f5_J8 (post : Value → H → Prop) (x3 : Option Addr) (R23 : H → Prop) (x320_reads : Int) (x321_writes : Int) (x343_waits : SV) (h344 : H) : Prop :=
 ∃ R345 : Bool → H → Prop, (
 SemCall Go.Proofs.Tryd.prog 33 (List.toArray [(Value.pointer x3)]) h344 fun v346 h347 =>
 ∃ x348 : Int, v346 = (Value.int .i64 x348) ∧
 VIf (x348 != x320_reads) (
 (∃ h349, Gh h347 h349 ∧ R345 true h349)) (
 SemCall Go.Proofs.Tryd.prog 34 (List.toArray [(Value.pointer x3)]) h347 fun v350 h351 =>
 ∃ x352 : Int, v350 = (Value.int .i64 x352) ∧
 VIf (x352 != x321_writes) (
 (∃ h353, Gh h351 h353 ∧ R345 true h353)) (
 SemCall Go.Proofs.Tryd.prog 35 (List.toArray [(Value.pointer x3)]) h351 fun v354 h355 =>
 ∃ x356 : SV, v354 = (Value.slice x356.a x356.len x356.cap) ∧
 SemCall Go.Proofs.Tryd.prog 12 (List.toArray [(Value.slice x356.a x356.len x356.cap), (Value.slice x343_waits.a x343_waits.len x343_waits.cap)]) h355 fun v357 h358 =>
 ∃ x359 : Bool, v357 = (Value.bool x359) ∧
 (∃ h360, Gh h358 h360 ∧ R345 (!x359) h360)))) ∧
 ∀ (_ : F) (x361 : Bool) (h362 : H), R345 x361 h362 →
 VIf x361 (
 VRet h362 (Value.bool false) post) (
 (∃ h363, Gh h362 h363 ∧ R23 h363))

def f5_J9 (post : Value → H → Prop) (x3 : Option Addr) (r8 : Nat) (R23 : H → Prop) (h291 : H) : Prop :=
 ∃ R292 : Int → Int → H → Prop, (
 ∃ I293 : Nat → Int → Int → Int → Int → H → Prop, (∃ n294, (∃ h296, Gh h291 h296 ∧ I293 n294 (0 : Int) (-1 : Int) (1 : Int) (0 : Int) h296)) ∧
 ∀ (n294 : Nat) (_ : F) (x297_reads : Int) (x298_writes : Int) (x299_p : Int) (x300_k : Int) (h301 : H), I293 n294 x297_reads x298_writes x299_p x300_k h301 →
 f5_L6 r8 R292 I293 n294 x297_reads x298_writes x299_p x300_k h301) ∧
 ∀ (_ : F) (x320_reads : Int) (x321_writes : Int) (h322 : H), R292 x320_reads x321_writes h322 →
 ∃ R323 : SV → H → Prop, (
 ∃ I324 : Nat → SV → Int → H → Prop, (∃ n325, (∃ h327, Gh h322 h327 ∧ I324 n325 (SV.mk none 0 0) (0 : Int) h327)) ∧
 ∀ (n325 : Nat) (_ : F) (x328_waits : SV) (x329_k : Int) (h330 : H), I324 n325 x328_waits x329_k h330 →
 f5_L7 r8 R323 I324 n325 x328_waits x329_k h330) ∧
 ∀ (_ : F) (x343_waits : SV) (h344 : H), R323 x343_waits h344 →
 f5_J8 post x3 R23 x320_reads x321_writes x343_waits h344

def f5_J10 (post : Value → H → Prop) (x3 : Option Addr) (r8 : Nat) (R23 : H → Prop) (x25 : SV) (h168 : H) : Prop :=
 ∃ R169 : H → Prop, (
 VIf (((x25.len : Nat) : Int) == (1 : Int)) (
 ∃ R170 : Addr → SV → Int → H → Prop, (
 ∃ b171 : Addr, x25.a = some b171 ∧ 0 ≤ (0 : Int) ∧ (0 : Int) < ((x25.len : Nat) : Int) ∧
 (
 ∃ x172 : SV, H.rd h168 (Addr.add (Addr.mk r8 0 none) 0) (Value.slice x172.a x172.len x172.cap) ∧
 ∃ x173 : SV, H.rd h168 (Addr.add (Addr.mk r8 0 none) 1) (Value.slice x173.a x173.len x173.cap) ∧
 (
 ∃ x174 : Int, H.rd h168 (Addr.add (Addr.add b171 (((0 : Int)).toNat * 1)) 0) (Value.int .i64 x174) ∧
 (
 SemCall Go.Proofs.Tryd.prog 31 (List.toArray [(Value.agg (List.toArray [(Value.slice x172.a x172.len x172.cap), (Value.slice x173.a x173.len x173.cap)])), (Value.int .i64 x174)]) h168 fun v175 h176 =>
 ∃ x177 : SV, ∃ x178 : SV, ∃ x179 : SV, ∃ x180 : Int, v175 = (Value.tuple (List.toArray [(Value.agg (List.toArray [(Value.slice x177.a x177.len x177.cap), (Value.slice x178.a x178.len x178.cap)])), (Value.slice x179.a x179.len x179.cap), (Value.int .i64 x180)])) ∧
 H.new h176 [(Value.slice none 0 0), (Value.slice none 0 0)] fun r181 h182 =>
 ([(Value.slice x177.a x177.len x177.cap), (Value.slice x178.a x178.len x178.cap)]).length = 2 ∧ (Program.underlying Go.Proofs.Tryd.prog 56).isSome = true ∧
 H.wr h182 (Addr.mk r181 0 none) ([(Value.slice x177.a x177.len x177.cap), (Value.slice x178.a x178.len x178.cap)]) fun h183 =>
 (∃ h184, Gh h183 h184 ∧ R170 (Addr.mk r181 0 none) x179 x180 h184)) ∧
 (
 H.new h168 [(Value.slice none 0 0), (Value.slice none 0 0)] fun r185 h186 =>
 SemCall Go.Proofs.Tryd.prog 31 (List.toArray [(Value.agg (List.toArray [(Value.slice x172.a x172.len x172.cap), (Value.slice x173.a x173.len x173.cap)])), (Value.int .i64 x174)]) h186 fun v187 h188 =>
 ∃ x189 : SV, ∃ x190 : SV, ∃ x191 : SV, ∃ x192 : Int, v187 = (Value.tuple (List.toArray [(Value.agg (List.toArray [(Value.slice x189.a x189.len x189.cap), (Value.slice x190.a x190.len x190.cap)])), (Value.slice x191.a x191.len x191.cap), (Value.int .i64 x192)])) ∧
 ([(Value.slice x189.a x189.len x189.cap), (Value.slice x190.a x190.len x190.cap)]).length = 2 ∧ (Program.underlying Go.Proofs.Tryd.prog 56).isSome = true ∧
 H.wr h188 (Addr.mk r185 0 none) ([(Value.slice x189.a x189.len x189.cap), (Value.slice x190.a x190.len x190.cap)]) fun h193 =>
 (∃ h194, Gh h193 h194 ∧ R170 (Addr.mk r185 0 none) x191 x192 h194))) ∧
 (
 H.new h168 [(Value.slice none 0 0), (Value.slice none 0 0)] fun r195 h196 =>
 ∃ x197 : Int, H.rd h196 (Addr.add (Addr.add b171 (((0 : Int)).toNat * 1)) 0) (Value.int .i64 x197) ∧
 SemCall Go.Proofs.Tryd.prog 31 (List.toArray [(Value.agg (List.toArray [(Value.slice x172.a x172.len x172.cap), (Value.slice x173.a x173.len x173.cap)])), (Value.int .i64 x197)]) h196 fun v198 h199 =>
 ∃ x200 : SV, ∃ x201 : SV, ∃ x202 : SV, ∃ x203 : Int, v198 = (Value.tuple (List.toArray [(Value.agg (List.toArray [(Value.slice x200.a x200.len x200.cap), (Value.slice x201.a x201.len x201.cap)])), (Value.slice x202.a x202.len x202.cap), (Value.int .i64 x203)])) ∧
 ([(Value.slice x200.a x200.len x200.cap), (Value.slice x201.a x201.len x201.cap)]).length = 2 ∧ (Program.underlying Go.Proofs.Tryd.prog 56).isSome = true ∧
 H.wr h199 (Addr.mk r195 0 none) ([(Value.slice x200.a x200.len x200.cap), (Value.slice x201.a x201.len x201.cap)]) fun h204 =>
 (∃ h205, Gh h204 h205 ∧ R170 (Addr.mk r195 0 none) x202 x203 h205))) ∧
 (
 (
 ∃ x206 : Int, H.rd h168 (Addr.add (Addr.add b171 (((0 : Int)).toNat * 1)) 0) (Value.int .i64 x206) ∧
 (
 ∃ x207 : SV, H.rd h168 (Addr.add (Addr.mk r8 0 none) 0) (Value.slice x207.a x207.len x207.cap) ∧
 ∃ x208 : SV, H.rd h168 (Addr.add (Addr.mk r8 0 none) 1) (Value.slice x208.a x208.len x208.cap) ∧
 (
 SemCall Go.Proofs.Tryd.prog 31 (List.toArray [(Value.agg (List.toArray [(Value.slice x207.a x207.len x207.cap), (Value.slice x208.a x208.len x208.cap)])), (Value.int .i64 x206)]) h168 fun v209 h210 =>
 ∃ x211 : SV, ∃ x212 : SV, ∃ x213 : SV, ∃ x214 : Int, v209 = (Value.tuple (List.toArray [(Value.agg (List.toArray [(Value.slice x211.a x211.len x211.cap), (Value.slice x212.a x212.len x212.cap)])), (Value.slice x213.a x213.len x213.cap), (Value.int .i64 x214)])) ∧
 H.new h210 [(Value.slice none 0 0), (Value.slice none 0 0)] fun r215 h216 =>
 ([(Value.slice x211.a x211.len x211.cap), (Value.slice x212.a x212.len x212.cap)]).length = 2 ∧ (Program.underlying Go.Proofs.Tryd.prog 56).isSome = true ∧
 H.wr h216 (Addr.mk r215 0 none) ([(Value.slice x211.a x211.len x211.cap), (Value.slice x212.a x212.len x212.cap)]) fun h217 =>
 (∃ h218, Gh h217 h218 ∧ R170 (Addr.mk r215 0 none) x213 x214 h218)) ∧
 (
 H.new h168 [(Value.slice none 0 0), (Value.slice none 0 0)] fun r219 h220 =>
 SemCall Go.Proofs.Tryd.prog 31 (List.toArray [(Value.agg (List.toArray [(Value.slice x207.a x207.len x207.cap), (Value.slice x208.a x208.len x208.cap)])), (Value.int .i64 x206)]) h220 fun v221 h222 =>
 ∃ x223 : SV, ∃ x224 : SV, ∃ x225 : SV, ∃ x226 : Int, v221 = (Value.tuple (List.toArray [(Value.agg (List.toArray [(Value.slice x223.a x223.len x223.cap), (Value.slice x224.a x224.len x224.cap)])), (Value.slice x225.a x225.len x225.cap), (Value.int .i64 x226)])) ∧
 ([(Value.slice x223.a x223.len x223.cap), (Value.slice x224.a x224.len x224.cap)]).length = 2 ∧ (Program.underlying Go.Proofs.Tryd.prog 56).isSome = true ∧
 H.wr h222 (Addr.mk r219 0 none) ([(Value.slice x223.a x223.len x223.cap), (Value.slice x224.a x224.len x224.cap)]) fun h227 =>
 (∃ h228, Gh h227 h228 ∧ R170 (Addr.mk r219 0 none) x225 x226 h228))) ∧
 (
 H.new h168 [(Value.slice none 0 0), (Value.slice none 0 0)] fun r229 h230 =>
 ∃ x231 : SV, H.rd h230 (Addr.add (Addr.mk r8 0 none) 0) (Value.slice x231.a x231.len x231.cap) ∧
 ∃ x232 : SV, H.rd h230 (Addr.add (Addr.mk r8 0 none) 1) (Value.slice x232.a x232.len x232.cap) ∧
 SemCall Go.Proofs.Tryd.prog 31 (List.toArray [(Value.agg (List.toArray [(Value.slice x231.a x231.len x231.cap), (Value.slice x232.a x232.len x232.cap)])), (Value.int .i64 x206)]) h230 fun v233 h234 =>
 ∃ x235 : SV, ∃ x236 : SV, ∃ x237 : SV, ∃ x238 : Int, v233 = (Value.tuple (List.toArray [(Value.agg (List.toArray [(Value.slice x235.a x235.len x235.cap), (Value.slice x236.a x236.len x236.cap)])), (Value.slice x237.a x237.len x237.cap), (Value.int .i64 x238)])) ∧
 ([(Value.slice x235.a x235.len x235.cap), (Value.slice x236.a x236.len x236.cap)]).length = 2 ∧ (Program.underlying Go.Proofs.Tryd.prog 56).isSome = true ∧
 H.wr h234 (Addr.mk r229 0 none) ([(Value.slice x235.a x235.len x235.cap), (Value.slice x236.a x236.len x236.cap)]) fun h239 =>
 (∃ h240, Gh h239 h240 ∧ R170 (Addr.mk r229 0 none) x237 x238 h240))) ∧
 (
 H.new h168 [(Value.slice none 0 0), (Value.slice none 0 0)] fun r241 h242 =>
 (
 ∃ x243 : SV, H.rd h242 (Addr.add (Addr.mk r8 0 none) 0) (Value.slice x243.a x243.len x243.cap) ∧
 ∃ x244 : SV, H.rd h242 (Addr.add (Addr.mk r8 0 none) 1) (Value.slice x244.a x244.len x244.cap) ∧
 ∃ x245 : Int, H.rd h242 (Addr.add (Addr.add b171 (((0 : Int)).toNat * 1)) 0) (Value.int .i64 x245) ∧
 SemCall Go.Proofs.Tryd.prog 31 (List.toArray [(Value.agg (List.toArray [(Value.slice x243.a x243.len x243.cap), (Value.slice x244.a x244.len x244.cap)])), (Value.int .i64 x245)]) h242 fun v246 h247 =>
 ∃ x248 : SV, ∃ x249 : SV, ∃ x250 : SV, ∃ x251 : Int, v246 = (Value.tuple (List.toArray [(Value.agg (List.toArray [(Value.slice x248.a x248.len x248.cap), (Value.slice x249.a x249.len x249.cap)])), (Value.slice x250.a x250.len x250.cap), (Value.int .i64 x251)])) ∧
 ([(Value.slice x248.a x248.len x248.cap), (Value.slice x249.a x249.len x249.cap)]).length = 2 ∧ (Program.underlying Go.Proofs.Tryd.prog 56).isSome = true ∧
 H.wr h247 (Addr.mk r241 0 none) ([(Value.slice x248.a x248.len x248.cap), (Value.slice x249.a x249.len x249.cap)]) fun h252 =>
 (∃ h253, Gh h252 h253 ∧ R170 (Addr.mk r241 0 none) x250 x251 h253)) ∧
 (
 ∃ x254 : Int, H.rd h242 (Addr.add (Addr.add b171 (((0 : Int)).toNat * 1)) 0) (Value.int .i64 x254) ∧
 ∃ x255 : SV, H.rd h242 (Addr.add (Addr.mk r8 0 none) 0) (Value.slice x255.a x255.len x255.cap) ∧
 ∃ x256 : SV, H.rd h242 (Addr.add (Addr.mk r8 0 none) 1) (Value.slice x256.a x256.len x256.cap) ∧
 SemCall Go.Proofs.Tryd.prog 31 (List.toArray [(Value.agg (List.toArray [(Value.slice x255.a x255.len x255.cap), (Value.slice x256.a x256.len x256.cap)])), (Value.int .i64 x254)]) h242 fun v257 h258 =>
 ∃ x259 : SV, ∃ x260 : SV, ∃ x261 : SV, ∃ x262 : Int, v257 = (Value.tuple (List.toArray [(Value.agg (List.toArray [(Value.slice x259.a x259.len x259.cap), (Value.slice x260.a x260.len x260.cap)])), (Value.slice x261.a x261.len x261.cap), (Value.int .i64 x262)])) ∧
 ([(Value.slice x259.a x259.len x259.cap), (Value.slice x260.a x260.len x260.cap)]).length = 2 ∧ (Program.underlying Go.Proofs.Tryd.prog 56).isSome = true ∧
 H.wr h258 (Addr.mk r241 0 none) ([(Value.slice x259.a x259.len x259.cap), (Value.slice x260.a x260.len x260.cap)]) fun h263 =>
 (∃ h264, Gh h263 h264 ∧ R170 (Addr.mk r241 0 none) x261 x262 h264))))) ∧
 ∀ (_ : F) (x265_y : Addr) (x266_who : SV) (x267_e : Int) (h268 : H), R170 x265_y x266_who x267_e h268 →
 f5_J4 post x3 r8 x25 R169 x265_y x266_who x267_e h268) (
 (∃ h290, Gh h168 h290 ∧ R169 h290))) ∧
 ∀ (_ : F) (h291 : H), R169 h291 →
 f5_J9 post x3 r8 R23 h291

def f5_J11 (p0_steps : SV) (post : Value → H → Prop) (x3 : Option Addr) (r8 : Nat) (R11 : H → Prop) (I12 : Nat → Int → H → Prop) (n13 : Nat) (x16_i : Int) (x21 : Bool) (h22 : H) : Prop :=
 VIf x21 (
 ∃ R23 : H → Prop, (
 ∃ b24 : Addr, p0_steps.a = some b24 ∧ 0 ≤ x16_i ∧ x16_i < ((p0_steps.len : Nat) : Int) ∧
 ∃ x25 : SV, H.rd h22 (Addr.add (Addr.add b24 ((x16_i).toNat * 1)) 0) (Value.slice x25.a x25.len x25.cap) ∧
 ∃ R26 : H → Prop, (
 VIf (((x25.len : Nat) : Int) == (2 : Int)) (
 ∃ b27 : Addr, x25.a = some b27 ∧ 0 ≤ (1 : Int) ∧ (1 : Int) < ((x25.len : Nat) : Int) ∧
 ∃ x28 : Int, H.rd h22 (Addr.add (Addr.add b27 (((1 : Int)).toNat * 1)) 0) (Value.int .i64 x28) ∧
 ∃ R29 : Int → H → Prop, (
 VIf (x28 == (1 : Int)) (
 (∃ h30, Gh h22 h30 ∧ R29 (1 : Int) h30)) (
 (∃ h31, Gh h22 h31 ∧ R29 (0 : Int) h31))) ∧
 ∀ (_ : F) (x32_w : Int) (h33 : H), R29 x32_w h33 →
 f5_J3 post x3 r8 x25 R26 x32_w h33) (
 (∃ h167, Gh h22 h167 ∧ R26 h167))) ∧
 ∀ (_ : F) (h168 : H), R26 h168 →
 f5_J10 post x3 r8 R23 x25 h168) ∧
 ∀ (_ : F) (h364 : H), R23 h364 →
 In64 (x16_i + (1 : Int)) ∧
 ∃ m14, m14 < n13 ∧ (∃ h365, Gh h364 h365 ∧ I12 m14 (x16_i + (1 : Int)) h365)) (
 (∃ h366, Gh h22 h366 ∧ R11 h366))

def f5_L12 (p0_steps : SV) (post : Value → H → Prop) (x3 : Option Addr) (r8 : Nat) (R11 : H → Prop) (I12 : Nat → Int → H → Prop) (n13 : Nat) (x16_i : Int) (h17 : H) : Prop :=
 ∃ R18 : Bool → H → Prop, (
 VIf (decide (x16_i < ((p0_steps.len : Nat) : Int))) (
 (∃ h19, Gh h17 h19 ∧ R18 (decide (x16_i < (100 : Int))) h19)) (
 (∃ h20, Gh h17 h20 ∧ R18 false h20))) ∧
 ∀ (_ : F) (x21 : Bool) (h22 : H), R18 x21 h22 →
 f5_J11 p0_steps post x3 r8 R11 I12 n13 x16_i x21 h22

def f5_sem (p0_steps : SV) (h0 : H) (post : Value → H → Prop) : Prop :=
 SemCall Go.Proofs.Tryd.prog 27 (List.toArray []) h0 fun v1 h2 =>
 ∃ x3 : Option Addr, v1 = (Value.pointer x3) ∧
 SemCall Go.Proofs.Tryd.prog 28 (List.toArray []) h2 fun v4 h5 =>
 ∃ x6 : SV, ∃ x7 : SV, v4 = (Value.agg (List.toArray [(Value.slice x6.a x6.len x6.cap), (Value.slice x7.a x7.len x7.cap)])) ∧
 H.new h5 [(Value.slice none 0 0), (Value.slice none 0 0)] fun r8 h9 =>
 ([(Value.slice x6.a x6.len x6.cap), (Value.slice x7.a x7.len x7.cap)]).length = 2 ∧ (Program.underlying Go.Proofs.Tryd.prog 56).isSome = true ∧
 H.wr h9 (Addr.mk r8 0 none) ([(Value.slice x6.a x6.len x6.cap), (Value.slice x7.a x7.len x7.cap)]) fun h10 =>
 ∃ R11 : H → Prop, (
 ∃ I12 : Nat → Int → H → Prop, (∃ n13, (∃ h15, Gh h10 h15 ∧ I12 n13 (0 : Int) h15)) ∧
 ∀ (n13 : Nat) (_ : F) (x16_i : Int) (h17 : H), I12 n13 x16_i h17 →
 f5_L12 p0_steps post x3 r8 R11 I12 n13 x16_i h17) ∧
 ∀ (_ : F) (h367 : H), R11 h367 →
 VRet h367 (Value.bool true) post

def f5_hint : Hint := (.node .leaf (.node .leaf (.node .leaf (.node (.node .leaf (.join [] (.node (.loop [(5, .int)] (.node (.node (.join [(33, .bool)] .leaf) .leaf) (.node (.join [] (.node (.node .leaf (.node (.node .leaf (.join [] (.node (.node .leaf (.node (.node .leaf (.join [(7, .int)] .leaf)) (.node (.join [(8, .addr), (9, .bool), (10, .int)] .any2) (.node .leaf (.node (.join [(11, .bool), (12, .err)] .any2) (.node (.join [(78, .bool)] .leaf) .leaf)))))) .leaf))) (.node (.node .leaf (.join [] (.node (.node (.join [(13, .addr), (14, .sl), (15, .int)] .any2) (.node .leaf (.node .leaf (.node (.join [(109, .bool)] .leaf) .leaf)))) .leaf))) (.node .leaf (.node .leaf (.node .leaf (.node (.node .leaf (.join [(18, .int), (19, .int)] (.node (.loop [(18, .int), (19, .int), (20, .int), (21, .int)] (.node .leaf (.node (.node (.node (.node .leaf (.join [(18, .int)] .leaf)) (.node (.node .leaf (.join [(19, .int)] .leaf)) .leaf)) .leaf) .leaf))) .leaf))) (.node .leaf (.node (.node .leaf (.join [(22, .sl)] (.node (.loop [(22, .sl), (23, .int)] .leaf) .leaf))) (.node (.join [(165, .bool)] .leaf) .leaf)))))))))) .leaf)) .leaf))) .leaf))) .leaf))))

theorem f5_eq (p0_steps : SV) (h0 : H) (post : Value → H → Prop) : exec Tryd.prog (bodyOf Tryd.f5) f5_hint (retQ Tryd.prog Tryd.f5 post) (F0 [(Value.slice p0_steps.a p0_steps.len p0_steps.cap)]) h0 = f5_sem p0_steps h0 post := by kernel_rfl

set_option maxRecDepth 20000 in
theorem f5_call (p0_steps : SV) (h0 : H) (post : Value → H → Prop) (hx : f5_sem p0_steps h0 post) : SemCall Tryd.prog 5 (List.toArray [(Value.slice p0_steps.a p0_steps.len p0_steps.cap)]) h0 post :=
 sem_of_exec (g := f5_hint) mixed Tryd.func5 (bodyOf_eq (by kernel_rfl)) (by kernel_rfl) ((f5_eq p0_steps h0 post).mpr hx)

/- latchgarth/latchgarthlaw4.in -/
def f7_sem (p0_n : Int) (p1_low : Int) (p2_high : Int) (h0 : H) (post : Value → H → Prop) : Prop :=
 ∃ R1 : Bool → H → Prop, (
 VIf (decide (p0_n ≥ p1_low)) (
 (∃ h2, Gh h0 h2 ∧ R1 (decide (p0_n ≤ p2_high)) h2)) (
 (∃ h3, Gh h0 h3 ∧ R1 false h3))) ∧
 ∀ (_ : F) (x4 : Bool) (h5 : H), R1 x4 h5 →
 VRet h5 (Value.bool x4) post

def f7_hint : Hint := (.node .leaf (.node (.join [(6, .bool)] .leaf) .leaf))

theorem f7_eq (p0_n : Int) (p1_low : Int) (p2_high : Int) (h0 : H) (post : Value → H → Prop) : exec Tryd.prog (bodyOf Tryd.f7) f7_hint (retQ Tryd.prog Tryd.f7 post) (F0 [(Value.int .i64 p0_n), (Value.int .i64 p1_low), (Value.int .i64 p2_high)]) h0 = f7_sem p0_n p1_low p2_high h0 post := by kernel_rfl

set_option maxRecDepth 20000 in
theorem f7_call (p0_n : Int) (p1_low : Int) (p2_high : Int) (h0 : H) (post : Value → H → Prop) (hx : f7_sem p0_n p1_low p2_high h0 post) : SemCall Tryd.prog 7 (List.toArray [(Value.int .i64 p0_n), (Value.int .i64 p1_low), (Value.int .i64 p2_high)]) h0 post :=
 sem_of_exec (g := f7_hint) mixed Tryd.func7 (bodyOf_eq (by kernel_rfl)) (by kernel_rfl) ((f7_eq p0_n p1_low p2_high h0 post).mpr hx)

/- latchgarth/latchgarthsame.Error -/
def f8_sem (p0_err : Option (TypeId × Value)) (p1_e : Int) (h0 : H) (post : Value → H → Prop) : Prop :=
 SemCall Go.Proofs.Tryd.prog 37 (List.toArray [(errV p0_err)]) h0 fun v1 h2 =>
 ∃ x3 : Int, v1 = (Value.int .i64 x3) ∧
 VRet h2 (Value.bool (x3 == p1_e)) post

def f8_hint : Hint := .leaf

theorem f8_eq (p0_err : Option (TypeId × Value)) (p1_e : Int) (h0 : H) (post : Value → H → Prop) : exec Tryd.prog (bodyOf Tryd.f8) f8_hint (retQ Tryd.prog Tryd.f8 post) (F0 [(errV p0_err), (Value.int .i64 p1_e)]) h0 = f8_sem p0_err p1_e h0 post := by kernel_rfl

set_option maxRecDepth 20000 in
theorem f8_call (p0_err : Option (TypeId × Value)) (p1_e : Int) (h0 : H) (post : Value → H → Prop) (hx : f8_sem p0_err p1_e h0 post) : SemCall Tryd.prog 8 (List.toArray [(errV p0_err), (Value.int .i64 p1_e)]) h0 post :=
 sem_of_exec (g := f8_hint) mixed Tryd.func8 (bodyOf_eq (by kernel_rfl)) (by kernel_rfl) ((f8_eq p0_err p1_e h0 post).mpr hx)

/- latchgarth/latchgarthsame.Ints -/
def f12_L1 (p0_a : SV) (p1_b : SV) (post : Value → H → Prop) (R1 : H → Prop) (I2 : Nat → Int → H → Prop) (n3 : Nat) (x6_i : Int) (h7 : H) : Prop :=
 VIf (decide (x6_i < ((p0_a.len : Nat) : Int))) (
 ∃ b8 : Addr, p0_a.a = some b8 ∧ 0 ≤ x6_i ∧ x6_i < ((p0_a.len : Nat) : Int) ∧
 ∃ x9 : Int, H.rd h7 (Addr.add (Addr.add b8 ((x6_i).toNat * 1)) 0) (Value.int .i64 x9) ∧
 ∃ b10 : Addr, p1_b.a = some b10 ∧ 0 ≤ x6_i ∧ x6_i < ((p1_b.len : Nat) : Int) ∧
 ∃ x11 : Int, H.rd h7 (Addr.add (Addr.add b10 ((x6_i).toNat * 1)) 0) (Value.int .i64 x11) ∧
 VIf (x9 != x11) (
 VRet h7 (Value.bool false) post) (
 In64 (x6_i + (1 : Int)) ∧
 ∃ m4, m4 < n3 ∧ (∃ h12, Gh h7 h12 ∧ I2 m4 (x6_i + (1 : Int)) h12))) (
 (∃ h13, Gh h7 h13 ∧ R1 h13))

def f12_sem (p0_a : SV) (p1_b : SV) (h0 : H) (post : Value → H → Prop) : Prop :=
 VIf (((p0_a.len : Nat) : Int) != ((p1_b.len : Nat) : Int)) (
 VRet h0 (Value.bool false) post) (
 ∃ R1 : H → Prop, (
 ∃ I2 : Nat → Int → H → Prop, (∃ n3, (∃ h5, Gh h0 h5 ∧ I2 n3 (0 : Int) h5)) ∧
 ∀ (n3 : Nat) (_ : F) (x6_i : Int) (h7 : H), I2 n3 x6_i h7 →
 f12_L1 p0_a p1_b post R1 I2 n3 x6_i h7) ∧
 ∀ (_ : F) (h14 : H), R1 h14 →
 VRet h14 (Value.bool true) post)

def f12_hint : Hint := (.node .leaf (.node .leaf (.node (.node .leaf (.join [] (.node (.loop [(5, .int)] .leaf) .leaf))) .leaf)))

theorem f12_eq (p0_a : SV) (p1_b : SV) (h0 : H) (post : Value → H → Prop) : exec Tryd.prog (bodyOf Tryd.f12) f12_hint (retQ Tryd.prog Tryd.f12 post) (F0 [(Value.slice p0_a.a p0_a.len p0_a.cap), (Value.slice p1_b.a p1_b.len p1_b.cap)]) h0 = f12_sem p0_a p1_b h0 post := by kernel_rfl

set_option maxRecDepth 20000 in
theorem f12_call (p0_a : SV) (p1_b : SV) (h0 : H) (post : Value → H → Prop) (hx : f12_sem p0_a p1_b h0 post) : SemCall Tryd.prog 12 (List.toArray [(Value.slice p0_a.a p0_a.len p0_a.cap), (Value.slice p1_b.a p1_b.len p1_b.cap)]) h0 post :=
 sem_of_exec (g := f12_hint) mixed Tryd.func12 (bodyOf_eq (by kernel_rfl)) (by kernel_rfl) ((f12_eq p0_a p1_b h0 post).mpr hx)

/- latchgarth/rw.New -/
def f27_sem (h0 : H) (post : Value → H → Prop) : Prop :=
 H.new h0 [(Value.int .i64 0), (Value.int .i64 0), (Value.slice none 0 0)] fun r1 h2 =>
 VRet h2 (Value.pointer (some (Addr.mk r1 0 none))) post

def f27_hint : Hint := .leaf

theorem f27_eq (h0 : H) (post : Value → H → Prop) : exec Tryd.prog (bodyOf Tryd.f27) f27_hint (retQ Tryd.prog Tryd.f27 post) (F0 []) h0 = f27_sem h0 post := by kernel_rfl

set_option maxRecDepth 20000 in
theorem f27_call (h0 : H) (post : Value → H → Prop) (hx : f27_sem h0 post) : SemCall Tryd.prog 27 (List.toArray []) h0 post :=
 sem_of_exec (g := f27_hint) mixed Tryd.func27 (bodyOf_eq (by kernel_rfl)) (by kernel_rfl) ((f27_eq h0 post).mpr hx)

/- latchgarth/latchgarthref4.NewLock -/
def f28_sem (h0 : H) (post : Value → H → Prop) : Prop :=
 H.new h0 [(Value.slice none 0 0), (Value.slice none 0 0)] fun r1 h2 =>
 0 ≤ (8 : Int) ∧ (8 : Int) ≤ (8 : Int) ∧ ((8 : Nat) : Int) * (8 : Int) ≤ 140737488355328 ∧ (8 : Int) ≤ 1000000000 ∧
 H.new h2 (repl ((8 : Int)).toNat [(Value.int .i64 0)]) fun r3 h4 =>
 ([(Value.slice (some (Addr.mk r3 0 none)) (((8 : Int)).toNat) (((8 : Int)).toNat)), (Value.slice none 0 0)]).length = 2 ∧ (Program.underlying Go.Proofs.Tryd.prog 56).isSome = true ∧
 H.wr h4 (Addr.mk r1 0 none) ([(Value.slice (some (Addr.mk r3 0 none)) (((8 : Int)).toNat) (((8 : Int)).toNat)), (Value.slice none 0 0)]) fun h5 =>
 ∃ x6 : SV, H.rd h5 (Addr.add (Addr.mk r1 0 none) 0) (Value.slice x6.a x6.len x6.cap) ∧
 ∃ x7 : SV, H.rd h5 (Addr.add (Addr.mk r1 0 none) 1) (Value.slice x7.a x7.len x7.cap) ∧
 VRet h5 (Value.agg (List.toArray [(Value.slice x6.a x6.len x6.cap), (Value.slice x7.a x7.len x7.cap)])) post

def f28_hint : Hint := .leaf

theorem f28_eq (h0 : H) (post : Value → H → Prop) : exec Tryd.prog (bodyOf Tryd.f28) f28_hint (retQ Tryd.prog Tryd.f28 post) (F0 []) h0 = f28_sem h0 post := by kernel_rfl

set_option maxRecDepth 20000 in
theorem f28_call (h0 : H) (post : Value → H → Prop) (hx : f28_sem h0 post) : SemCall Tryd.prog 28 (List.toArray []) h0 post :=
 sem_of_exec (g := f28_hint) mixed Tryd.func28 (bodyOf_eq (by kernel_rfl)) (by kernel_rfl) ((f28_eq h0 post).mpr hx)

/- latchgarth/latchgarthref4.AskLock -/
def f29_L1 (p1_who : Int) (r1 : Nat) (R16 : Bool → H → Prop) (I17 : Nat → Bool → Int → H → Prop) (n18 : Nat) (x21_busy : Bool) (x22_i : Int) (h23 : H) : Prop :=
 ∃ x24 : SV, H.rd h23 (Addr.add (Addr.add (Addr.mk r1 0 none) 1) 0) (Value.slice x24.a x24.len x24.cap) ∧
 VIf (decide (x22_i < ((x24.len : Nat) : Int))) (
 ∃ R25 : Bool → H → Prop, (
 VIf x21_busy (
 (∃ h26, Gh h23 h26 ∧ R25 true h26)) (
 ∃ x27 : SV, H.rd h23 (Addr.add (Addr.add (Addr.mk r1 0 none) 1) 0) (Value.slice x27.a x27.len x27.cap) ∧
 ∃ b28 : Addr, x27.a = some b28 ∧ 0 ≤ x22_i ∧ x22_i < ((x27.len : Nat) : Int) ∧
 ∃ x29 : SV, H.rd h23 (Addr.add (Addr.add b28 ((x22_i).toNat * 1)) 0) (Value.slice x29.a x29.len x29.cap) ∧
 ∃ b30 : Addr, x29.a = some b30 ∧ 0 ≤ (0 : Int) ∧ (0 : Int) < ((x29.len : Nat) : Int) ∧
 ∃ x31 : Int, H.rd h23 (Addr.add (Addr.add b30 (((0 : Int)).toNat * 1)) 0) (Value.int .i64 x31) ∧
 (∃ h32, Gh h23 h32 ∧ R25 (x31 == p1_who) h32))) ∧
 ∀ (_ : F) (x33_busy : Bool) (h34 : H), R25 x33_busy h34 →
 In64 (x22_i + (1 : Int)) ∧
 ∃ m19, m19 < n18 ∧ (∃ h35, Gh h34 h35 ∧ I17 m19 x33_busy (x22_i + (1 : Int)) h35)) (
 (∃ h36, Gh h23 h36 ∧ R16 x21_busy h36))

def f29_J2 (p1_who : Int) (p2_writes : Int) (post : Value → H → Prop) (r1 : Nat) (r3 : Nat) (x53 : Bool) (h54 : H) : Prop :=
 VIf x53 (
 ∃ x55 : SV, H.rd h54 (Addr.add (Addr.add (Addr.mk r1 0 none) 0) 0) (Value.slice x55.a x55.len x55.cap) ∧
 In64 ((1 : Int) + p2_writes) ∧
 SemCall Go.Proofs.Tryd.prog 41 (List.toArray [(Value.slice x55.a x55.len x55.cap), (Value.int .i64 p1_who), (Value.int .i64 ((1 : Int) + p2_writes))]) h54 fun v56 h57 =>
 ∃ x58 : SV, v56 = (Value.slice x58.a x58.len x58.cap) ∧
 H.wr h57 (Addr.add (Addr.mk r1 0 none) 0) ([(Value.slice x58.a x58.len x58.cap)]) fun h59 =>
 ∃ x60 : SV, H.rd h59 (Addr.add (Addr.mk r1 0 none) 0) (Value.slice x60.a x60.len x60.cap) ∧
 ∃ x61 : SV, H.rd h59 (Addr.add (Addr.mk r1 0 none) 1) (Value.slice x61.a x61.len x61.cap) ∧
 ([(Value.slice x60.a x60.len x60.cap), (Value.slice x61.a x61.len x61.cap)]).length = 2 ∧ (Program.underlying Go.Proofs.Tryd.prog 56).isSome = true ∧
 H.wr h59 (Addr.mk r3 0 none) ([(Value.slice x60.a x60.len x60.cap), (Value.slice x61.a x61.len x61.cap)]) fun h62 =>
 ∃ x63 : SV, H.rd h62 (Addr.add (Addr.mk r3 0 none) 0) (Value.slice x63.a x63.len x63.cap) ∧
 ∃ x64 : SV, H.rd h62 (Addr.add (Addr.mk r3 0 none) 1) (Value.slice x64.a x64.len x64.cap) ∧
 VRet h62 (Value.tuple (List.toArray [(Value.agg (List.toArray [(Value.slice x63.a x63.len x63.cap), (Value.slice x64.a x64.len x64.cap)])), (Value.bool true), (Value.int .i64 0)])) post) (
 ∃ x65 : SV, H.rd h54 (Addr.add (Addr.add (Addr.mk r1 0 none) 1) 0) (Value.slice x65.a x65.len x65.cap) ∧
 appVC Go.Proofs.Tryd.prog 38 (Value.slice none 0 0) (Value.slice x65.a x65.len x65.cap) h54 fun x66 h67 =>
 H.new h67 [(Value.int .i64 p1_who), (Value.int .i64 p2_writes)] fun r68 h69 =>
 H.new h69 [(Value.slice (some (Addr.mk r68 0 none)) 2 2)] fun r70 h71 =>
 appVC Go.Proofs.Tryd.prog 38 (Value.slice x66.a x66.len x66.cap) (Value.slice (some (Addr.mk r70 0 none)) 1 1) h71 fun x72 h73 =>
 H.wr h73 (Addr.add (Addr.mk r1 0 none) 1) ([(Value.slice x72.a x72.len x72.cap)]) fun h74 =>
 ∃ x75 : SV, H.rd h74 (Addr.add (Addr.mk r1 0 none) 0) (Value.slice x75.a x75.len x75.cap) ∧
 ∃ x76 : SV, H.rd h74 (Addr.add (Addr.mk r1 0 none) 1) (Value.slice x76.a x76.len x76.cap) ∧
 ([(Value.slice x75.a x75.len x75.cap), (Value.slice x76.a x76.len x76.cap)]).length = 2 ∧ (Program.underlying Go.Proofs.Tryd.prog 56).isSome = true ∧
 H.wr h74 (Addr.mk r3 0 none) ([(Value.slice x75.a x75.len x75.cap), (Value.slice x76.a x76.len x76.cap)]) fun h77 =>
 ∃ x78 : SV, H.rd h77 (Addr.add (Addr.mk r3 0 none) 0) (Value.slice x78.a x78.len x78.cap) ∧
 ∃ x79 : SV, H.rd h77 (Addr.add (Addr.mk r3 0 none) 1) (Value.slice x79.a x79.len x79.cap) ∧
 VRet h77 (Value.tuple (List.toArray [(Value.agg (List.toArray [(Value.slice x78.a x78.len x78.cap), (Value.slice x79.a x79.len x79.cap)])), (Value.bool false), (Value.int .i64 0)])) post)

def f29_J3 (p1_who : Int) (p2_writes : Int) (post : Value → H → Prop) (r1 : Nat) (r3 : Nat) (x37_busy : Bool) (h38 : H) : Prop :=
 VIf x37_busy (
 ∃ x39 : SV, H.rd h38 (Addr.add (Addr.mk r1 0 none) 0) (Value.slice x39.a x39.len x39.cap) ∧
 ∃ x40 : SV, H.rd h38 (Addr.add (Addr.mk r1 0 none) 1) (Value.slice x40.a x40.len x40.cap) ∧
 ([(Value.slice x39.a x39.len x39.cap), (Value.slice x40.a x40.len x40.cap)]).length = 2 ∧ (Program.underlying Go.Proofs.Tryd.prog 56).isSome = true ∧
 H.wr h38 (Addr.mk r3 0 none) ([(Value.slice x39.a x39.len x39.cap), (Value.slice x40.a x40.len x40.cap)]) fun h41 =>
 ∃ x42 : SV, H.rd h41 (Addr.add (Addr.mk r3 0 none) 0) (Value.slice x42.a x42.len x42.cap) ∧
 ∃ x43 : SV, H.rd h41 (Addr.add (Addr.mk r3 0 none) 1) (Value.slice x43.a x43.len x43.cap) ∧
 VRet h41 (Value.tuple (List.toArray [(Value.agg (List.toArray [(Value.slice x42.a x42.len x42.cap), (Value.slice x43.a x43.len x43.cap)])), (Value.bool false), (Value.int .i64 (7 : Int))])) post) (
 ∃ R44 : Bool → H → Prop, (
 ∃ x45 : SV, H.rd h38 (Addr.add (Addr.add (Addr.mk r1 0 none) 1) 0) (Value.slice x45.a x45.len x45.cap) ∧
 VIf (((x45.len : Nat) : Int) == (0 : Int)) (
 ∃ x46 : SV, H.rd h38 (Addr.add (Addr.mk r1 0 none) 0) (Value.slice x46.a x46.len x46.cap) ∧
 ∃ x47 : SV, H.rd h38 (Addr.add (Addr.mk r1 0 none) 1) (Value.slice x47.a x47.len x47.cap) ∧
 SemCall Go.Proofs.Tryd.prog 49 (List.toArray [(Value.agg (List.toArray [(Value.slice x46.a x46.len x46.cap), (Value.slice x47.a x47.len x47.cap)])), (Value.int .i64 p2_writes)]) h38 fun v48 h49 =>
 ∃ x50 : Bool, v48 = (Value.bool x50) ∧
 (∃ h51, Gh h49 h51 ∧ R44 x50 h51)) (
 (∃ h52, Gh h38 h52 ∧ R44 false h52))) ∧
 ∀ (_ : F) (x53 : Bool) (h54 : H), R44 x53 h54 →
 f29_J2 p1_who p2_writes post r1 r3 x53 h54)

def f29_sem (p0_0_l : SV) (p0_1_l : SV) (p1_who : Int) (p2_writes : Int) (h0 : H) (post : Value → H → Prop) : Prop :=
 H.new h0 [(Value.slice p0_0_l.a p0_0_l.len p0_0_l.cap), (Value.slice p0_1_l.a p0_1_l.len p0_1_l.cap)] fun r1 h2 =>
 H.new h2 [(Value.slice none 0 0), (Value.slice none 0 0)] fun r3 h4 =>
 SemCall Go.Proofs.Tryd.prog 48 (List.toArray [(Value.int .i64 p1_who), (Value.int .i64 0), (Value.int .i64 (7 : Int))]) h4 fun v5 h6 =>
 ∃ x7 : Bool, v5 = (Value.bool x7) ∧
 VIf (!x7) (
 ∃ x8 : SV, H.rd h6 (Addr.add (Addr.mk r1 0 none) 0) (Value.slice x8.a x8.len x8.cap) ∧
 ∃ x9 : SV, H.rd h6 (Addr.add (Addr.mk r1 0 none) 1) (Value.slice x9.a x9.len x9.cap) ∧
 ([(Value.slice x8.a x8.len x8.cap), (Value.slice x9.a x9.len x9.cap)]).length = 2 ∧ (Program.underlying Go.Proofs.Tryd.prog 56).isSome = true ∧
 H.wr h6 (Addr.mk r3 0 none) ([(Value.slice x8.a x8.len x8.cap), (Value.slice x9.a x9.len x9.cap)]) fun h10 =>
 ∃ x11 : SV, H.rd h10 (Addr.add (Addr.mk r3 0 none) 0) (Value.slice x11.a x11.len x11.cap) ∧
 ∃ x12 : SV, H.rd h10 (Addr.add (Addr.mk r3 0 none) 1) (Value.slice x12.a x12.len x12.cap) ∧
 VRet h10 (Value.tuple (List.toArray [(Value.agg (List.toArray [(Value.slice x11.a x11.len x11.cap), (Value.slice x12.a x12.len x12.cap)])), (Value.bool false), (Value.int .i64 (1 : Int))])) post) (
 ∃ x13 : SV, H.rd h6 (Addr.add (Addr.add (Addr.mk r1 0 none) 0) 0) (Value.slice x13.a x13.len x13.cap) ∧
 ∃ b14 : Addr, x13.a = some b14 ∧ 0 ≤ p1_who ∧ p1_who < ((x13.len : Nat) : Int) ∧
 ∃ x15 : Int, H.rd h6 (Addr.add (Addr.add b14 ((p1_who).toNat * 1)) 0) (Value.int .i64 x15) ∧
 ∃ R16 : Bool → H → Prop, (
 ∃ I17 : Nat → Bool → Int → H → Prop, (∃ n18, (∃ h20, Gh h6 h20 ∧ I17 n18 (x15 != (0 : Int)) (0 : Int) h20)) ∧
 ∀ (n18 : Nat) (_ : F) (x21_busy : Bool) (x22_i : Int) (h23 : H), I17 n18 x21_busy x22_i h23 →
 f29_L1 p1_who r1 R16 I17 n18 x21_busy x22_i h23) ∧
 ∀ (_ : F) (x37_busy : Bool) (h38 : H), R16 x37_busy h38 →
 f29_J3 p1_who p2_writes post r1 r3 x37_busy h38)

def f29_hint : Hint := (.node .leaf (.node .leaf (.node .leaf (.node (.node .leaf (.join [(9, .bool)] (.node (.loop [(9, .bool), (10, .int)] (.node .leaf (.node (.node (.join [(9, .bool)] .leaf) .leaf) .leaf))) .leaf))) (.node .leaf (.node (.node (.join [(51, .bool)] .leaf) .leaf) .leaf))))))

theorem f29_eq (p0_0_l : SV) (p0_1_l : SV) (p1_who : Int) (p2_writes : Int) (h0 : H) (post : Value → H → Prop) : exec Tryd.prog (bodyOf Tryd.f29) f29_hint (retQ Tryd.prog Tryd.f29 post) (F0 [(Value.agg (List.toArray [(Value.slice p0_0_l.a p0_0_l.len p0_0_l.cap), (Value.slice p0_1_l.a p0_1_l.len p0_1_l.cap)])), (Value.int .i64 p1_who), (Value.int .i64 p2_writes)]) h0 = f29_sem p0_0_l p0_1_l p1_who p2_writes h0 post := by kernel_rfl

set_option maxRecDepth 20000 in
theorem f29_call (p0_0_l : SV) (p0_1_l : SV) (p1_who : Int) (p2_writes : Int) (h0 : H) (post : Value → H → Prop) (hx : f29_sem p0_0_l p0_1_l p1_who p2_writes h0 post) : SemCall Tryd.prog 29 (List.toArray [(Value.agg (List.toArray [(Value.slice p0_0_l.a p0_0_l.len p0_0_l.cap), (Value.slice p0_1_l.a p0_1_l.len p0_1_l.cap)])), (Value.int .i64 p1_who), (Value.int .i64 p2_writes)]) h0 post :=
 sem_of_exec (g := f29_hint) mixed Tryd.func29 (bodyOf_eq (by kernel_rfl)) (by kernel_rfl) ((f29_eq p0_0_l p0_1_l p1_who p2_writes h0 post).mpr hx)

/- (*latchgarth/rw.Lock).Ask -/
def f30_J1 (p0_l : Option Addr) (post : Value → H → Prop) (r27 : Nat) (x40 : Bool) (h41 : H) : Prop :=
 VIf x40 (
 ∃ x42 : Int, H.rd h41 (Addr.add (Addr.mk r27 0 none) 0) (Value.int .i64 x42) ∧
 ∃ x43 : Bool, H.rd h41 (Addr.add (Addr.mk r27 0 none) 1) (Value.bool x43) ∧
 SemCall Go.Proofs.Tryd.prog 53 (List.toArray [(Value.pointer p0_l), (Value.agg (List.toArray [(Value.int .i64 x42), (Value.bool x43)]))]) h41 fun v44 h45 =>
 v44 = (Value.tuple (List.toArray [])) ∧
 VRet h45 (Value.tuple (List.toArray [(Value.bool true), Value.nilIface])) post) (
 ∃ a46 : Addr, p0_l = some a46 ∧
 (
 ∃ x47 : SV, H.rd h41 (Addr.add (Addr.add a46 2) 0) (Value.slice x47.a x47.len x47.cap) ∧
 ∃ x48 : Int, H.rd h41 (Addr.add (Addr.mk r27 0 none) 0) (Value.int .i64 x48) ∧
 ∃ x49 : Bool, H.rd h41 (Addr.add (Addr.mk r27 0 none) 1) (Value.bool x49) ∧
 H.new h41 [(Value.int .i64 x48), (Value.bool x49)] fun r50 h51 =>
 appVC Go.Proofs.Tryd.prog 82 (Value.slice x47.a x47.len x47.cap) (Value.slice (some (Addr.mk r50 0 none)) 1 1) h51 fun x52 h53 =>
 ∃ a54 : Addr, p0_l = some a54 ∧
 H.wr h53 (Addr.add a54 2) ([(Value.slice x52.a x52.len x52.cap)]) fun h55 =>
 VRet h55 (Value.tuple (List.toArray [(Value.bool false), Value.nilIface])) post) ∧
 (
 ∃ x56 : Int, H.rd h41 (Addr.add (Addr.mk r27 0 none) 0) (Value.int .i64 x56) ∧
 ∃ x57 : Bool, H.rd h41 (Addr.add (Addr.mk r27 0 none) 1) (Value.bool x57) ∧
 (
 ∃ x58 : SV, H.rd h41 (Addr.add (Addr.add a46 2) 0) (Value.slice x58.a x58.len x58.cap) ∧
 H.new h41 [(Value.int .i64 x56), (Value.bool x57)] fun r59 h60 =>
 appVC Go.Proofs.Tryd.prog 82 (Value.slice x58.a x58.len x58.cap) (Value.slice (some (Addr.mk r59 0 none)) 1 1) h60 fun x61 h62 =>
 ∃ a63 : Addr, p0_l = some a63 ∧
 H.wr h62 (Addr.add a63 2) ([(Value.slice x61.a x61.len x61.cap)]) fun h64 =>
 VRet h64 (Value.tuple (List.toArray [(Value.bool false), Value.nilIface])) post) ∧
 (
 H.new h41 [(Value.int .i64 x56), (Value.bool x57)] fun r65 h66 =>
 ∃ x67 : SV, H.rd h66 (Addr.add (Addr.add a46 2) 0) (Value.slice x67.a x67.len x67.cap) ∧
 appVC Go.Proofs.Tryd.prog 82 (Value.slice x67.a x67.len x67.cap) (Value.slice (some (Addr.mk r65 0 none)) 1 1) h66 fun x68 h69 =>
 ∃ a70 : Addr, p0_l = some a70 ∧
 H.wr h69 (Addr.add a70 2) ([(Value.slice x68.a x68.len x68.cap)]) fun h71 =>
 VRet h71 (Value.tuple (List.toArray [(Value.bool false), Value.nilIface])) post)))

def f30_J2 (p0_l : Option Addr) (p2_writes : Bool) (post : Value → H → Prop) (r1 : Nat) (x24 : Bool) (h25 : H) : Prop :=
 VIf x24 (
 VRet h25 (Value.tuple (List.toArray [(Value.bool false), (Value.iface 66 (Value.int .i64 (7 : Int)))])) post) (
 ∃ x26 : Int, H.rd h25 (Addr.add (Addr.mk r1 0 none) 0) (Value.int .i64 x26) ∧
 H.new h25 [(Value.int .i64 0), (Value.bool false)] fun r27 h28 =>
 ([(Value.int .i64 x26), (Value.bool p2_writes)]).length = 2 ∧ (Program.underlying Go.Proofs.Tryd.prog 88).isSome = true ∧
 H.wr h28 (Addr.mk r27 0 none) ([(Value.int .i64 x26), (Value.bool p2_writes)]) fun h29 =>
 ∃ R30 : Bool → H → Prop, (
 ∃ a31 : Addr, p0_l = some a31 ∧
 ∃ x32 : SV, H.rd h29 (Addr.add (Addr.add a31 2) 0) (Value.slice x32.a x32.len x32.cap) ∧
 VIf (((x32.len : Nat) : Int) == (0 : Int)) (
 ∃ x33 : Int, H.rd h29 (Addr.add (Addr.mk r27 0 none) 0) (Value.int .i64 x33) ∧
 ∃ x34 : Bool, H.rd h29 (Addr.add (Addr.mk r27 0 none) 1) (Value.bool x34) ∧
 SemCall Go.Proofs.Tryd.prog 52 (List.toArray [(Value.pointer p0_l), (Value.agg (List.toArray [(Value.int .i64 x33), (Value.bool x34)]))]) h29 fun v35 h36 =>
 ∃ x37 : Bool, v35 = (Value.bool x37) ∧
 (∃ h38, Gh h36 h38 ∧ R30 x37 h38)) (
 (∃ h39, Gh h29 h39 ∧ R30 false h39))) ∧
 ∀ (_ : F) (x40 : Bool) (h41 : H), R30 x40 h41 →
 f30_J1 p0_l post r27 x40 h41)

def f30_sem (p0_l : Option Addr) (p1_who : Int) (p2_writes : Bool) (h0 : H) (post : Value → H → Prop) : Prop :=
 Value.oneCell' (Value.int .i64 p1_who) = true ∧
 H.new h0 [(Value.int .i64 p1_who)] fun r1 h2 =>
 ∃ x3 : Int, H.rd h2 (Addr.add (Addr.mk r1 0 none) 0) (Value.int .i64 x3) ∧
 SemCall Go.Proofs.Tryd.prog 36 (List.toArray [(Value.int .i64 x3), (Value.int .i64 0), (Value.int .i64 (7 : Int))]) h2 fun v4 h5 =>
 ∃ x6 : Bool, v4 = (Value.bool x6) ∧
 VIf (!x6) (
 VRet h5 (Value.tuple (List.toArray [(Value.bool false), (Value.iface 66 (Value.int .i64 (1 : Int)))])) post) (
 ∃ a7 : Addr, p0_l = some a7 ∧
 ∃ x8 : SV, H.rd h5 (Addr.add (Addr.add a7 2) 0) (Value.slice x8.a x8.len x8.cap) ∧
 SemCall Go.Proofs.Tryd.prog 50 (List.toArray [(Value.slice x8.a x8.len x8.cap), (Value.func (.func 51) #[] #[(Value.pointer (some (Addr.mk r1 0 none)))])]) h5 fun v9 h10 =>
 ∃ x11 : Bool, v9 = (Value.bool x11) ∧
 ∃ R12 : Bool → H → Prop, (
 VIf x11 (
 (∃ h13, Gh h10 h13 ∧ R12 true h13)) (
 ∃ a14 : Addr, p0_l = some a14 ∧
 ∃ x15 : Int, H.rd h10 (Addr.add (Addr.add a14 0) 0) (Value.int .i64 x15) ∧
 ∃ x16 : Int, H.rd h10 (Addr.add (Addr.mk r1 0 none) 0) (Value.int .i64 x16) ∧
 ∃ v17 : Value, PureCall Go.Proofs.Tryd.prog 45 (List.toArray [(Value.int .i64 x15), (Value.int .i64 x16)]) v17 ∧
 ∃ x18 : Bool, v17 = (Value.bool x18) ∧
 VIf x18 (
 (∃ h19, Gh h10 h19 ∧ R12 true h19)) (
 ∃ a20 : Addr, p0_l = some a20 ∧
 ∃ x21 : Int, H.rd h10 (Addr.add (Addr.add a20 1) 0) (Value.int .i64 x21) ∧
 ∃ x22 : Int, H.rd h10 (Addr.add (Addr.mk r1 0 none) 0) (Value.int .i64 x22) ∧
 In64 (x22 + (1 : Int)) ∧
 (∃ h23, Gh h10 h23 ∧ R12 (x21 == (x22 + (1 : Int))) h23)))) ∧
 ∀ (_ : F) (x24 : Bool) (h25 : H), R12 x24 h25 →
 f30_J2 p0_l p2_writes post r1 x24 h25)

def f30_hint : Hint := (.node .leaf (.node .leaf (.node .leaf (.node (.node (.join [(37, .bool)] .leaf) .leaf) (.node .leaf (.node (.node (.join [(52, .bool)] .leaf) .leaf) (.node .any .leaf)))))))

theorem f30_eq (p0_l : Option Addr) (p1_who : Int) (p2_writes : Bool) (h0 : H) (post : Value → H → Prop) : exec Tryd.prog (bodyOf Tryd.f30) f30_hint (retQ Tryd.prog Tryd.f30 post) (F0 [(Value.pointer p0_l), (Value.int .i64 p1_who), (Value.bool p2_writes)]) h0 = f30_sem p0_l p1_who p2_writes h0 post := by kernel_rfl

set_option maxRecDepth 20000 in
theorem f30_call (p0_l : Option Addr) (p1_who : Int) (p2_writes : Bool) (h0 : H) (post : Value → H → Prop) (hx : f30_sem p0_l p1_who p2_writes h0 post) : SemCall Tryd.prog 30 (List.toArray [(Value.pointer p0_l), (Value.int .i64 p1_who), (Value.bool p2_writes)]) h0 post :=
 sem_of_exec (g := f30_hint) mixed Tryd.func30 (bodyOf_eq (by kernel_rfl)) (by kernel_rfl) ((f30_eq p0_l p1_who p2_writes h0 post).mpr hx)

/- latchgarth/latchgarthref4.DoneLock -/
def f31_J1 (r1 : Nat) (R26 : SV → H → Prop) (I27 : Nat → SV → H → Prop) (n28 : Nat) (x31_out : SV) (x52 : Bool) (h53 : H) : Prop :=
 VIf x52 (
 ∃ x54 : SV, H.rd h53 (Addr.add (Addr.add (Addr.mk r1 0 none) 0) 0) (Value.slice x54.a x54.len x54.cap) ∧
 ∃ x55 : SV, H.rd h53 (Addr.add (Addr.add (Addr.mk r1 0 none) 1) 0) (Value.slice x55.a x55.len x55.cap) ∧
 ∃ b56 : Addr, x55.a = some b56 ∧ 0 ≤ (0 : Int) ∧ (0 : Int) < ((x55.len : Nat) : Int) ∧
 ∃ x57 : SV, H.rd h53 (Addr.add (Addr.add b56 (((0 : Int)).toNat * 1)) 0) (Value.slice x57.a x57.len x57.cap) ∧
 ∃ b58 : Addr, x57.a = some b58 ∧ 0 ≤ (0 : Int) ∧ (0 : Int) < ((x57.len : Nat) : Int) ∧
 ∃ x59 : Int, H.rd h53 (Addr.add (Addr.add b58 (((0 : Int)).toNat * 1)) 0) (Value.int .i64 x59) ∧
 ∃ x60 : SV, H.rd h53 (Addr.add (Addr.add (Addr.mk r1 0 none) 1) 0) (Value.slice x60.a x60.len x60.cap) ∧
 ∃ b61 : Addr, x60.a = some b61 ∧ 0 ≤ (0 : Int) ∧ (0 : Int) < ((x60.len : Nat) : Int) ∧
 ∃ x62 : SV, H.rd h53 (Addr.add (Addr.add b61 (((0 : Int)).toNat * 1)) 0) (Value.slice x62.a x62.len x62.cap) ∧
 ∃ b63 : Addr, x62.a = some b63 ∧ 0 ≤ (1 : Int) ∧ (1 : Int) < ((x62.len : Nat) : Int) ∧
 ∃ x64 : Int, H.rd h53 (Addr.add (Addr.add b63 (((1 : Int)).toNat * 1)) 0) (Value.int .i64 x64) ∧
 In64 ((1 : Int) + x64) ∧
 SemCall Go.Proofs.Tryd.prog 41 (List.toArray [(Value.slice x54.a x54.len x54.cap), (Value.int .i64 x59), (Value.int .i64 ((1 : Int) + x64))]) h53 fun v65 h66 =>
 ∃ x67 : SV, v65 = (Value.slice x67.a x67.len x67.cap) ∧
 H.wr h66 (Addr.add (Addr.mk r1 0 none) 0) ([(Value.slice x67.a x67.len x67.cap)]) fun h68 =>
 ∃ x69 : SV, H.rd h68 (Addr.add (Addr.add (Addr.mk r1 0 none) 1) 0) (Value.slice x69.a x69.len x69.cap) ∧
 ∃ b70 : Addr, x69.a = some b70 ∧ 0 ≤ (0 : Int) ∧ (0 : Int) < ((x69.len : Nat) : Int) ∧
 ∃ x71 : SV, H.rd h68 (Addr.add (Addr.add b70 (((0 : Int)).toNat * 1)) 0) (Value.slice x71.a x71.len x71.cap) ∧
 ∃ b72 : Addr, x71.a = some b72 ∧ 0 ≤ (0 : Int) ∧ (0 : Int) < ((x71.len : Nat) : Int) ∧
 ∃ x73 : Int, H.rd h68 (Addr.add (Addr.add b72 (((0 : Int)).toNat * 1)) 0) (Value.int .i64 x73) ∧
 H.new h68 [(Value.int .i64 x73)] fun r74 h75 =>
 appVC Go.Proofs.Tryd.prog 22 (Value.slice x31_out.a x31_out.len x31_out.cap) (Value.slice (some (Addr.mk r74 0 none)) 1 1) h75 fun x76 h77 =>
 ∃ x78 : SV, H.rd h77 (Addr.add (Addr.add (Addr.mk r1 0 none) 1) 0) (Value.slice x78.a x78.len x78.cap) ∧
 0 ≤ (1 : Int) ∧ (1 : Int) ≤ ((x78.len : Nat) : Int) ∧
 H.wr h77 (Addr.add (Addr.mk r1 0 none) 1) ([(Value.slice (if x78.cap = ((1 : Int)).toNat then x78.a else Option.map (fun z => Addr.add z (((1 : Int)).toNat * 1)) x78.a) (x78.len - ((1 : Int)).toNat) (x78.cap - ((1 : Int)).toNat))]) fun h79 =>
 ∃ m29, m29 < n28 ∧ (∃ h80, Gh h79 h80 ∧ I27 m29 x76 h80)) (
 (∃ h81, Gh h53 h81 ∧ R26 x31_out h81))

def f31_L2 (r1 : Nat) (R26 : SV → H → Prop) (I27 : Nat → SV → H → Prop) (n28 : Nat) (x31_out : SV) (h32 : H) : Prop :=
 ∃ R33 : Bool → H → Prop, (
 ∃ x34 : SV, H.rd h32 (Addr.add (Addr.add (Addr.mk r1 0 none) 1) 0) (Value.slice x34.a x34.len x34.cap) ∧
 VIf (decide (((x34.len : Nat) : Int) > (0 : Int))) (
 ∃ x35 : SV, H.rd h32 (Addr.add (Addr.mk r1 0 none) 0) (Value.slice x35.a x35.len x35.cap) ∧
 ∃ x36 : SV, H.rd h32 (Addr.add (Addr.mk r1 0 none) 1) (Value.slice x36.a x36.len x36.cap) ∧
 ∃ x37 : SV, H.rd h32 (Addr.add (Addr.add (Addr.mk r1 0 none) 1) 0) (Value.slice x37.a x37.len x37.cap) ∧
 ∃ b38 : Addr, x37.a = some b38 ∧ 0 ≤ (0 : Int) ∧ (0 : Int) < ((x37.len : Nat) : Int) ∧
 ∃ x39 : SV, H.rd h32 (Addr.add (Addr.add b38 (((0 : Int)).toNat * 1)) 0) (Value.slice x39.a x39.len x39.cap) ∧
 ∃ b40 : Addr, x39.a = some b40 ∧ 0 ≤ (1 : Int) ∧ (1 : Int) < ((x39.len : Nat) : Int) ∧
 ∃ x41 : Int, H.rd h32 (Addr.add (Addr.add b40 (((1 : Int)).toNat * 1)) 0) (Value.int .i64 x41) ∧
 VIf true (
 SemCall Go.Proofs.Tryd.prog 49 (List.toArray [(Value.agg (List.toArray [(Value.slice x35.a x35.len x35.cap), (Value.slice x36.a x36.len x36.cap)])), (Value.int .i64 x41)]) h32 fun v42 h43 =>
 ∃ x44 : Bool, v42 = (Value.bool x44) ∧
 (∃ h45, Gh h43 h45 ∧ R33 x44 h45)) (
 (∃ h46, Gh h32 h46 ∧ R33 false h46))) (
 VIf false (
 SemCall Go.Proofs.Tryd.prog 49 (List.toArray [undef, undef]) h32 fun v47 h48 =>
 ∃ x49 : Bool, v47 = (Value.bool x49) ∧
 (∃ h50, Gh h48 h50 ∧ R33 x49 h50)) (
 (∃ h51, Gh h32 h51 ∧ R33 false h51)))) ∧
 ∀ (_ : F) (x52 : Bool) (h53 : H), R33 x52 h53 →
 f31_J1 r1 R26 I27 n28 x31_out x52 h53

def f31_sem (p0_0_l : SV) (p0_1_l : SV) (p1_who : Int) (h0 : H) (post : Value → H → Prop) : Prop :=
 H.new h0 [(Value.slice p0_0_l.a p0_0_l.len p0_0_l.cap), (Value.slice p0_1_l.a p0_1_l.len p0_1_l.cap)] fun r1 h2 =>
 H.new h2 [(Value.slice none 0 0), (Value.slice none 0 0)] fun r3 h4 =>
 SemCall Go.Proofs.Tryd.prog 48 (List.toArray [(Value.int .i64 p1_who), (Value.int .i64 0), (Value.int .i64 (7 : Int))]) h4 fun v5 h6 =>
 ∃ x7 : Bool, v5 = (Value.bool x7) ∧
 VIf (!x7) (
 ∃ x8 : SV, H.rd h6 (Addr.add (Addr.mk r1 0 none) 0) (Value.slice x8.a x8.len x8.cap) ∧
 ∃ x9 : SV, H.rd h6 (Addr.add (Addr.mk r1 0 none) 1) (Value.slice x9.a x9.len x9.cap) ∧
 ([(Value.slice x8.a x8.len x8.cap), (Value.slice x9.a x9.len x9.cap)]).length = 2 ∧ (Program.underlying Go.Proofs.Tryd.prog 56).isSome = true ∧
 H.wr h6 (Addr.mk r3 0 none) ([(Value.slice x8.a x8.len x8.cap), (Value.slice x9.a x9.len x9.cap)]) fun h10 =>
 ∃ x11 : SV, H.rd h10 (Addr.add (Addr.mk r3 0 none) 0) (Value.slice x11.a x11.len x11.cap) ∧
 ∃ x12 : SV, H.rd h10 (Addr.add (Addr.mk r3 0 none) 1) (Value.slice x12.a x12.len x12.cap) ∧
 VRet h10 (Value.tuple (List.toArray [(Value.agg (List.toArray [(Value.slice x11.a x11.len x11.cap), (Value.slice x12.a x12.len x12.cap)])), (Value.slice none 0 0), (Value.int .i64 (1 : Int))])) post) (
 ∃ x13 : SV, H.rd h6 (Addr.add (Addr.add (Addr.mk r1 0 none) 0) 0) (Value.slice x13.a x13.len x13.cap) ∧
 ∃ b14 : Addr, x13.a = some b14 ∧ 0 ≤ p1_who ∧ p1_who < ((x13.len : Nat) : Int) ∧
 ∃ x15 : Int, H.rd h6 (Addr.add (Addr.add b14 ((p1_who).toNat * 1)) 0) (Value.int .i64 x15) ∧
 VIf (x15 == (0 : Int)) (
 ∃ x16 : SV, H.rd h6 (Addr.add (Addr.mk r1 0 none) 0) (Value.slice x16.a x16.len x16.cap) ∧
 ∃ x17 : SV, H.rd h6 (Addr.add (Addr.mk r1 0 none) 1) (Value.slice x17.a x17.len x17.cap) ∧
 ([(Value.slice x16.a x16.len x16.cap), (Value.slice x17.a x17.len x17.cap)]).length = 2 ∧ (Program.underlying Go.Proofs.Tryd.prog 56).isSome = true ∧
 H.wr h6 (Addr.mk r3 0 none) ([(Value.slice x16.a x16.len x16.cap), (Value.slice x17.a x17.len x17.cap)]) fun h18 =>
 ∃ x19 : SV, H.rd h18 (Addr.add (Addr.mk r3 0 none) 0) (Value.slice x19.a x19.len x19.cap) ∧
 ∃ x20 : SV, H.rd h18 (Addr.add (Addr.mk r3 0 none) 1) (Value.slice x20.a x20.len x20.cap) ∧
 VRet h18 (Value.tuple (List.toArray [(Value.agg (List.toArray [(Value.slice x19.a x19.len x19.cap), (Value.slice x20.a x20.len x20.cap)])), (Value.slice none 0 0), (Value.int .i64 (5 : Int))])) post) (
 ∃ x21 : SV, H.rd h6 (Addr.add (Addr.add (Addr.mk r1 0 none) 0) 0) (Value.slice x21.a x21.len x21.cap) ∧
 SemCall Go.Proofs.Tryd.prog 41 (List.toArray [(Value.slice x21.a x21.len x21.cap), (Value.int .i64 p1_who), (Value.int .i64 0)]) h6 fun v22 h23 =>
 ∃ x24 : SV, v22 = (Value.slice x24.a x24.len x24.cap) ∧
 H.wr h23 (Addr.add (Addr.mk r1 0 none) 0) ([(Value.slice x24.a x24.len x24.cap)]) fun h25 =>
 ∃ R26 : SV → H → Prop, (
 ∃ I27 : Nat → SV → H → Prop, (∃ n28, (∃ h30, Gh h25 h30 ∧ I27 n28 (SV.mk none 0 0) h30)) ∧
 ∀ (n28 : Nat) (_ : F) (x31_out : SV) (h32 : H), I27 n28 x31_out h32 →
 f31_L2 r1 R26 I27 n28 x31_out h32) ∧
 ∀ (_ : F) (x82_out : SV) (h83 : H), R26 x82_out h83 →
 ∃ x84 : SV, H.rd h83 (Addr.add (Addr.mk r1 0 none) 0) (Value.slice x84.a x84.len x84.cap) ∧
 ∃ x85 : SV, H.rd h83 (Addr.add (Addr.mk r1 0 none) 1) (Value.slice x85.a x85.len x85.cap) ∧
 ([(Value.slice x84.a x84.len x84.cap), (Value.slice x85.a x85.len x85.cap)]).length = 2 ∧ (Program.underlying Go.Proofs.Tryd.prog 56).isSome = true ∧
 H.wr h83 (Addr.mk r3 0 none) ([(Value.slice x84.a x84.len x84.cap), (Value.slice x85.a x85.len x85.cap)]) fun h86 =>
 ∃ x87 : SV, H.rd h86 (Addr.add (Addr.mk r3 0 none) 0) (Value.slice x87.a x87.len x87.cap) ∧
 ∃ x88 : SV, H.rd h86 (Addr.add (Addr.mk r3 0 none) 1) (Value.slice x88.a x88.len x88.cap) ∧
 VRet h86 (Value.tuple (List.toArray [(Value.agg (List.toArray [(Value.slice x87.a x87.len x87.cap), (Value.slice x88.a x88.len x88.cap)])), (Value.slice x82_out.a x82_out.len x82_out.cap), (Value.int .i64 0)])) post))

def f31_hint : Hint := (.node .leaf (.node .leaf (.node .leaf (.node .leaf (.node .leaf (.node (.join [(7, .sl)] (.node (.loop [(7, .sl)] (.node (.node (.join [(37, .bool)] (.tail 12)) .leaf) (.node (.node (.tail 15) .leaf) .leaf))) .leaf)) .leaf))))))

theorem f31_eq (p0_0_l : SV) (p0_1_l : SV) (p1_who : Int) (h0 : H) (post : Value → H → Prop) : exec Tryd.prog (bodyOf Tryd.f31) f31_hint (retQ Tryd.prog Tryd.f31 post) (F0 [(Value.agg (List.toArray [(Value.slice p0_0_l.a p0_0_l.len p0_0_l.cap), (Value.slice p0_1_l.a p0_1_l.len p0_1_l.cap)])), (Value.int .i64 p1_who)]) h0 = f31_sem p0_0_l p0_1_l p1_who h0 post := by kernel_rfl

set_option maxRecDepth 20000 in
theorem f31_call (p0_0_l : SV) (p0_1_l : SV) (p1_who : Int) (h0 : H) (post : Value → H → Prop) (hx : f31_sem p0_0_l p0_1_l p1_who h0 post) : SemCall Tryd.prog 31 (List.toArray [(Value.agg (List.toArray [(Value.slice p0_0_l.a p0_0_l.len p0_0_l.cap), (Value.slice p0_1_l.a p0_1_l.len p0_1_l.cap)])), (Value.int .i64 p1_who)]) h0 post :=
 sem_of_exec (g := f31_hint) mixed Tryd.func31 (bodyOf_eq (by kernel_rfl)) (by kernel_rfl) ((f31_eq p0_0_l p0_1_l p1_who h0 post).mpr hx)

/- (*latchgarth/rw.Lock).Done -/
def f32_J1 (p0_l : Option Addr) (R21 : SV → H → Prop) (I22 : Nat → SV → H → Prop) (n23 : Nat) (x26_out : SV) (x41 : Bool) (h42 : H) : Prop :=
 VIf x41 (
 ∃ a43 : Addr, p0_l = some a43 ∧
 ∃ x44 : SV, H.rd h42 (Addr.add (Addr.add a43 2) 0) (Value.slice x44.a x44.len x44.cap) ∧
 ∃ b45 : Addr, x44.a = some b45 ∧ 0 ≤ (0 : Int) ∧ (0 : Int) < ((x44.len : Nat) : Int) ∧
 ∃ x46 : Int, H.rd h42 (Addr.add (Addr.add b45 (((0 : Int)).toNat * 2)) 0) (Value.int .i64 x46) ∧
 ∃ x47 : Bool, H.rd h42 (Addr.add (Addr.add b45 (((0 : Int)).toNat * 2)) 1) (Value.bool x47) ∧
 SemCall Go.Proofs.Tryd.prog 53 (List.toArray [(Value.pointer p0_l), (Value.agg (List.toArray [(Value.int .i64 x46), (Value.bool x47)]))]) h42 fun v48 h49 =>
 v48 = (Value.tuple (List.toArray [])) ∧
 ∃ a50 : Addr, p0_l = some a50 ∧
 ∃ x51 : SV, H.rd h49 (Addr.add (Addr.add a50 2) 0) (Value.slice x51.a x51.len x51.cap) ∧
 ∃ b52 : Addr, x51.a = some b52 ∧ 0 ≤ (0 : Int) ∧ (0 : Int) < ((x51.len : Nat) : Int) ∧
 ∃ x53 : Int, H.rd h49 (Addr.add (Addr.add (Addr.add b52 (((0 : Int)).toNat * 2)) 0) 0) (Value.int .i64 x53) ∧
 H.new h49 [(Value.int .i64 x53)] fun r54 h55 =>
 appVC Go.Proofs.Tryd.prog 22 (Value.slice x26_out.a x26_out.len x26_out.cap) (Value.slice (some (Addr.mk r54 0 none)) 1 1) h55 fun x56 h57 =>
 ∃ a58 : Addr, p0_l = some a58 ∧
 ∃ x59 : SV, H.rd h57 (Addr.add (Addr.add a58 2) 0) (Value.slice x59.a x59.len x59.cap) ∧
 0 ≤ (1 : Int) ∧ (1 : Int) ≤ ((x59.len : Nat) : Int) ∧
 ∃ a60 : Addr, p0_l = some a60 ∧
 H.wr h57 (Addr.add a60 2) ([(Value.slice (if x59.cap = ((1 : Int)).toNat then x59.a else Option.map (fun z => Addr.add z (((1 : Int)).toNat * 2)) x59.a) (x59.len - ((1 : Int)).toNat) (x59.cap - ((1 : Int)).toNat))]) fun h61 =>
 ∃ m24, m24 < n23 ∧ (∃ h62, Gh h61 h62 ∧ I22 m24 x56 h62)) (
 (∃ h63, Gh h42 h63 ∧ R21 x26_out h63))

def f32_L2 (p0_l : Option Addr) (R21 : SV → H → Prop) (I22 : Nat → SV → H → Prop) (n23 : Nat) (x26_out : SV) (h27 : H) : Prop :=
 ∃ R28 : Bool → H → Prop, (
 ∃ a29 : Addr, p0_l = some a29 ∧
 ∃ x30 : SV, H.rd h27 (Addr.add (Addr.add a29 2) 0) (Value.slice x30.a x30.len x30.cap) ∧
 VIf (decide (((x30.len : Nat) : Int) > (0 : Int))) (
 ∃ a31 : Addr, p0_l = some a31 ∧
 ∃ x32 : SV, H.rd h27 (Addr.add (Addr.add a31 2) 0) (Value.slice x32.a x32.len x32.cap) ∧
 ∃ b33 : Addr, x32.a = some b33 ∧ 0 ≤ (0 : Int) ∧ (0 : Int) < ((x32.len : Nat) : Int) ∧
 ∃ x34 : Int, H.rd h27 (Addr.add (Addr.add b33 (((0 : Int)).toNat * 2)) 0) (Value.int .i64 x34) ∧
 ∃ x35 : Bool, H.rd h27 (Addr.add (Addr.add b33 (((0 : Int)).toNat * 2)) 1) (Value.bool x35) ∧
 SemCall Go.Proofs.Tryd.prog 52 (List.toArray [(Value.pointer p0_l), (Value.agg (List.toArray [(Value.int .i64 x34), (Value.bool x35)]))]) h27 fun v36 h37 =>
 ∃ x38 : Bool, v36 = (Value.bool x38) ∧
 (∃ h39, Gh h37 h39 ∧ R28 x38 h39)) (
 (∃ h40, Gh h27 h40 ∧ R28 false h40))) ∧
 ∀ (_ : F) (x41 : Bool) (h42 : H), R28 x41 h42 →
 f32_J1 p0_l R21 I22 n23 x26_out x41 h42

def f32_sem (p0_l : Option Addr) (p1_who : Int) (h0 : H) (post : Value → H → Prop) : Prop :=
 SemCall Go.Proofs.Tryd.prog 36 (List.toArray [(Value.int .i64 p1_who), (Value.int .i64 0), (Value.int .i64 (7 : Int))]) h0 fun v1 h2 =>
 ∃ x3 : Bool, v1 = (Value.bool x3) ∧
 VIf (!x3) (
 VRet h2 (Value.tuple (List.toArray [(Value.slice none 0 0), (Value.iface 66 (Value.int .i64 (1 : Int)))])) post) (
 ∃ a4 : Addr, p0_l = some a4 ∧
 ∃ x5 : Int, H.rd h2 (Addr.add (Addr.add a4 1) 0) (Value.int .i64 x5) ∧
 In64 (p1_who + (1 : Int)) ∧
 ∃ R6 : H → Prop, (
 VIf (x5 == (p1_who + (1 : Int))) (
 ∃ a7 : Addr, p0_l = some a7 ∧
 H.wr h2 (Addr.add a7 1) ([(Value.int .i64 0)]) fun h8 =>
 (∃ h9, Gh h8 h9 ∧ R6 h9)) (
 ∃ a10 : Addr, p0_l = some a10 ∧
 ∃ x11 : Int, H.rd h2 (Addr.add (Addr.add a10 0) 0) (Value.int .i64 x11) ∧
 SemCall Go.Proofs.Tryd.prog 45 (List.toArray [(Value.int .i64 x11), (Value.int .i64 p1_who)]) h2 fun v12 h13 =>
 ∃ x14 : Bool, v12 = (Value.bool x14) ∧
 VIf x14 (
 ∃ a15 : Addr, p0_l = some a15 ∧
 ∃ x16 : Int, H.rd h13 (Addr.add (Addr.add a15 0) 0) (Value.int .i64 x16) ∧
 0 ≤ p1_who ∧ p1_who ≤ 63 ∧ In64 ((1 : Int) * 2 ^ (p1_who).toNat) ∧
 ∃ a17 : Addr, p0_l = some a17 ∧
 H.wr h13 (Addr.add a17 0) ([(Value.int .i64 (bitsV .andNot x16 ((1 : Int) * 2 ^ (p1_who).toNat)))]) fun h18 =>
 (∃ h19, Gh h18 h19 ∧ R6 h19)) (
 VRet h13 (Value.tuple (List.toArray [(Value.slice none 0 0), (Value.iface 66 (Value.int .i64 (5 : Int)))])) post))) ∧
 ∀ (_ : F) (h20 : H), R6 h20 →
 ∃ R21 : SV → H → Prop, (
 ∃ I22 : Nat → SV → H → Prop, (∃ n23, (∃ h25, Gh h20 h25 ∧ I22 n23 (SV.mk none 0 0) h25)) ∧
 ∀ (n23 : Nat) (_ : F) (x26_out : SV) (h27 : H), I22 n23 x26_out h27 →
 f32_L2 p0_l R21 I22 n23 x26_out h27) ∧
 ∀ (_ : F) (x64_out : SV) (h65 : H), R21 x64_out h65 →
 VRet h65 (Value.tuple (List.toArray [(Value.slice x64_out.a x64_out.len x64_out.cap), Value.nilIface])) post)

def f32_hint : Hint := (.node .leaf (.node .leaf (.node (.node (.node .leaf (.join [] (.node .leaf (.node .leaf (.node (.tail 9) .leaf))))) .leaf) (.node .leaf (.node (.join [(6, .sl)] (.node (.loop [(6, .sl)] (.node (.node (.join [(54, .bool)] .leaf) .leaf) .leaf)) .leaf)) .leaf)))))

theorem f32_eq (p0_l : Option Addr) (p1_who : Int) (h0 : H) (post : Value → H → Prop) : exec Tryd.prog (bodyOf Tryd.f32) f32_hint (retQ Tryd.prog Tryd.f32 post) (F0 [(Value.pointer p0_l), (Value.int .i64 p1_who)]) h0 = f32_sem p0_l p1_who h0 post := by kernel_rfl

set_option maxRecDepth 20000 in
theorem f32_call (p0_l : Option Addr) (p1_who : Int) (h0 : H) (post : Value → H → Prop) (hx : f32_sem p0_l p1_who h0 post) : SemCall Tryd.prog 32 (List.toArray [(Value.pointer p0_l), (Value.int .i64 p1_who)]) h0 post :=
 sem_of_exec (g := f32_hint) mixed Tryd.func32 (bodyOf_eq (by kernel_rfl)) (by kernel_rfl) ((f32_eq p0_l p1_who h0 post).mpr hx)

/- (*latchgarth/rw.Lock).Reads -/
def f33_sem (p0_l : Option Addr) (h0 : H) (post : Value → H → Prop) : Prop :=
 ∃ a1 : Addr, p0_l = some a1 ∧
 ∃ x2 : Int, H.rd h0 (Addr.add (Addr.add a1 0) 0) (Value.int .i64 x2) ∧
 VRet h0 (Value.int .i64 x2) post

def f33_hint : Hint := .leaf

theorem f33_eq (p0_l : Option Addr) (h0 : H) (post : Value → H → Prop) : exec Tryd.prog (bodyOf Tryd.f33) f33_hint (retQ Tryd.prog Tryd.f33 post) (F0 [(Value.pointer p0_l)]) h0 = f33_sem p0_l h0 post := by kernel_rfl

set_option maxRecDepth 20000 in
theorem f33_call (p0_l : Option Addr) (h0 : H) (post : Value → H → Prop) (hx : f33_sem p0_l h0 post) : SemCall Tryd.prog 33 (List.toArray [(Value.pointer p0_l)]) h0 post :=
 sem_of_exec (g := f33_hint) mixed Tryd.func33 (bodyOf_eq (by kernel_rfl)) (by kernel_rfl) ((f33_eq p0_l h0 post).mpr hx)

/- (*latchgarth/rw.Lock).Writes -/
def f34_sem (p0_l : Option Addr) (h0 : H) (post : Value → H → Prop) : Prop :=
 ∃ a1 : Addr, p0_l = some a1 ∧
 ∃ x2 : Int, H.rd h0 (Addr.add (Addr.add a1 1) 0) (Value.int .i64 x2) ∧
 In64 (x2 - (1 : Int)) ∧
 VRet h0 (Value.int .i64 (x2 - (1 : Int))) post

def f34_hint : Hint := .leaf

theorem f34_eq (p0_l : Option Addr) (h0 : H) (post : Value → H → Prop) : exec Tryd.prog (bodyOf Tryd.f34) f34_hint (retQ Tryd.prog Tryd.f34 post) (F0 [(Value.pointer p0_l)]) h0 = f34_sem p0_l h0 post := by kernel_rfl

set_option maxRecDepth 20000 in
theorem f34_call (p0_l : Option Addr) (h0 : H) (post : Value → H → Prop) (hx : f34_sem p0_l h0 post) : SemCall Tryd.prog 34 (List.toArray [(Value.pointer p0_l)]) h0 post :=
 sem_of_exec (g := f34_hint) mixed Tryd.func34 (bodyOf_eq (by kernel_rfl)) (by kernel_rfl) ((f34_eq p0_l h0 post).mpr hx)

/- (*latchgarth/rw.Lock).Waits -/
def f35_L1 (x2 : SV) (R3 : SV → H → Prop) (I4 : Nat → SV → Int → H → Prop) (n5 : Nat) (x8_out : SV) (x9 : Int) (h10 : H) : Prop :=
 VIf (decide (x9 < ((x2.len : Nat) : Int))) (
 ∃ b11 : Addr, x2.a = some b11 ∧ 0 ≤ x9 ∧ x9 < ((x2.len : Nat) : Int) ∧
 ∃ x12 : Int, H.rd h10 (Addr.add (Addr.add b11 ((x9).toNat * 2)) 0) (Value.int .i64 x12) ∧
 ∃ x13 : Bool, H.rd h10 (Addr.add (Addr.add b11 ((x9).toNat * 2)) 1) (Value.bool x13) ∧
 H.new h10 [(Value.int .i64 0), (Value.bool false)] fun r14 h15 =>
 ([(Value.int .i64 x12), (Value.bool x13)]).length = 2 ∧ (Program.underlying Go.Proofs.Tryd.prog 88).isSome = true ∧
 H.wr h15 (Addr.mk r14 0 none) ([(Value.int .i64 x12), (Value.bool x13)]) fun h16 =>
 ∃ x17 : Int, H.rd h16 (Addr.add (Addr.add (Addr.mk r14 0 none) 0) 0) (Value.int .i64 x17) ∧
 H.new h16 [(Value.int .i64 x17)] fun r18 h19 =>
 appVC Go.Proofs.Tryd.prog 22 (Value.slice x8_out.a x8_out.len x8_out.cap) (Value.slice (some (Addr.mk r18 0 none)) 1 1) h19 fun x20 h21 =>
 In64 (x9 + (1 : Int)) ∧
 ∃ m6, m6 < n5 ∧ (∃ h22, Gh h21 h22 ∧ I4 m6 x20 (x9 + (1 : Int)) h22)) (
 (∃ h23, Gh h10 h23 ∧ R3 x8_out h23))

def f35_sem (p0_l : Option Addr) (h0 : H) (post : Value → H → Prop) : Prop :=
 ∃ a1 : Addr, p0_l = some a1 ∧
 ∃ x2 : SV, H.rd h0 (Addr.add (Addr.add a1 2) 0) (Value.slice x2.a x2.len x2.cap) ∧
 ∃ R3 : SV → H → Prop, (
 ∃ I4 : Nat → SV → Int → H → Prop, (∃ n5, (∃ h7, Gh h0 h7 ∧ I4 n5 (SV.mk none 0 0) (0 : Int) h7)) ∧
 ∀ (n5 : Nat) (_ : F) (x8_out : SV) (x9 : Int) (h10 : H), I4 n5 x8_out x9 h10 →
 f35_L1 x2 R3 I4 n5 x8_out x9 h10) ∧
 ∀ (_ : F) (x24_out : SV) (h25 : H), R3 x24_out h25 →
 VRet h25 (Value.slice x24_out.a x24_out.len x24_out.cap) post

def f35_hint : Hint := (.node .leaf (.node .leaf (.node (.node .leaf (.join [(3, .sl)] (.node (.loop [(3, .sl), (11, .int)] .leaf) .leaf))) .leaf)))

theorem f35_eq (p0_l : Option Addr) (h0 : H) (post : Value → H → Prop) : exec Tryd.prog (bodyOf Tryd.f35) f35_hint (retQ Tryd.prog Tryd.f35 post) (F0 [(Value.pointer p0_l)]) h0 = f35_sem p0_l h0 post := by kernel_rfl

set_option maxRecDepth 20000 in
theorem f35_call (p0_l : Option Addr) (h0 : H) (post : Value → H → Prop) (hx : f35_sem p0_l h0 post) : SemCall Tryd.prog 35 (List.toArray [(Value.pointer p0_l)]) h0 post :=
 sem_of_exec (g := f35_hint) mixed Tryd.func35 (bodyOf_eq (by kernel_rfl)) (by kernel_rfl) ((f35_eq p0_l h0 post).mpr hx)

/- latchgarth/core.Within -/
def f36_sem (p0_n : Int) (p1_low : Int) (p2_high : Int) (h0 : H) (post : Value → H → Prop) : Prop :=
 ∃ R1 : Bool → H → Prop, (
 VIf (decide (p0_n ≥ p1_low)) (
 (∃ h2, Gh h0 h2 ∧ R1 (decide (p0_n ≤ p2_high)) h2)) (
 (∃ h3, Gh h0 h3 ∧ R1 false h3))) ∧
 ∀ (_ : F) (x4 : Bool) (h5 : H), R1 x4 h5 →
 VRet h5 (Value.bool x4) post

def f36_hint : Hint := (.node .leaf (.node (.join [(6, .bool)] .leaf) .leaf))

theorem f36_eq (p0_n : Int) (p1_low : Int) (p2_high : Int) (h0 : H) (post : Value → H → Prop) : exec Tryd.prog (bodyOf Tryd.f36) f36_hint (retQ Tryd.prog Tryd.f36 post) (F0 [(Value.int .i64 p0_n), (Value.int .i64 p1_low), (Value.int .i64 p2_high)]) h0 = f36_sem p0_n p1_low p2_high h0 post := by kernel_rfl

set_option maxRecDepth 20000 in
theorem f36_call (p0_n : Int) (p1_low : Int) (p2_high : Int) (h0 : H) (post : Value → H → Prop) (hx : f36_sem p0_n p1_low p2_high h0 post) : SemCall Tryd.prog 36 (List.toArray [(Value.int .i64 p0_n), (Value.int .i64 p1_low), (Value.int .i64 p2_high)]) h0 post :=
 sem_of_exec (g := f36_hint) mixed Tryd.func36 (bodyOf_eq (by kernel_rfl)) (by kernel_rfl) ((f36_eq p0_n p1_low p2_high h0 post).mpr hx)

/- latchgarth/plain.Told -/
def f37_sem (p0_err : Option (TypeId × Value)) (h0 : H) (post : Value → H → Prop) : Prop :=
 isIfaceV (errV p0_err) = true ∧
 VIf (isNilV (errV p0_err)) (
 VRet h0 (Value.int .i64 0) post) (
 H.new h0 [(Value.int .i64 0)] fun r1 h2 =>
 SemCall Go.Proofs.Tryd.prog 54 (List.toArray [(errV p0_err), (Value.iface 92 (Value.pointer (some (Addr.mk r1 0 none))))]) h2 fun v3 h4 =>
 ∃ x5 : Bool, v3 = (Value.bool x5) ∧
 VIf x5 (
 ∃ x6 : Int, H.rd h4 (Addr.add (Addr.mk r1 0 none) 0) (Value.int .i64 x6) ∧
 VRet h4 (Value.int .i64 x6) post) (
 VRet h4 (Value.int .i64 (-1 : Int)) post))

def f37_hint : Hint := .leaf

theorem f37_eq (p0_err : Option (TypeId × Value)) (h0 : H) (post : Value → H → Prop) : exec Tryd.prog (bodyOf Tryd.f37) f37_hint (retQ Tryd.prog Tryd.f37 post) (F0 [(errV p0_err)]) h0 = f37_sem p0_err h0 post := by kernel_rfl

set_option maxRecDepth 20000 in
theorem f37_call (p0_err : Option (TypeId × Value)) (h0 : H) (post : Value → H → Prop) (hx : f37_sem p0_err h0 post) : SemCall Tryd.prog 37 (List.toArray [(errV p0_err)]) h0 post :=
 sem_of_exec (g := f37_hint) mixed Tryd.func37 (bodyOf_eq (by kernel_rfl)) (by kernel_rfl) ((f37_eq p0_err h0 post).mpr hx)

/- slices.Delete[[]int,int] -/
def f38_sem (p0_s : SV) (p1_i : Int) (p2_j : Int) (h0 : H) (post : Value → H → Prop) : Prop :=
 0 ≤ ((p0_s.len : Nat) : Int) ∧ ((p0_s.len : Nat) : Int) ≤ ((p0_s.cap : Nat) : Int) ∧ 0 ≤ p2_j ∧ p2_j ≤ ((p0_s.len : Nat) : Int) ∧ 0 ≤ p1_i ∧ p1_i ≤ p2_j ∧
 VIf (p1_i == p2_j) (
 VRet h0 (Value.slice p0_s.a p0_s.len p0_s.cap) post) (
 0 ≤ p1_i ∧ p1_i ≤ ((p0_s.cap : Nat) : Int) ∧
 0 ≤ p2_j ∧ p2_j ≤ ((p0_s.len : Nat) : Int) ∧
 appVC Go.Proofs.Tryd.prog 22 (Value.slice p0_s.a ((p1_i).toNat) p0_s.cap) (Value.slice (if p0_s.cap = (p2_j).toNat then p0_s.a else Option.map (fun z => Addr.add z ((p2_j).toNat * 1)) p0_s.a) (p0_s.len - (p2_j).toNat) (p0_s.cap - (p2_j).toNat)) h0 fun x1 h2 =>
 0 ≤ ((p0_s.len : Nat) : Int) ∧ ((p0_s.len : Nat) : Int) ≤ ((x1.cap : Nat) : Int) ∧ 0 ≤ ((x1.len : Nat) : Int) ∧ ((x1.len : Nat) : Int) ≤ ((p0_s.len : Nat) : Int) ∧
 clearVC Go.Proofs.Tryd.prog 22 (Value.slice (if x1.cap = (((x1.len : Nat) : Int)).toNat then x1.a else Option.map (fun z => Addr.add z ((((x1.len : Nat) : Int)).toNat * 1)) x1.a) ((((p0_s.len : Nat) : Int)).toNat - (((x1.len : Nat) : Int)).toNat) (x1.cap - (((x1.len : Nat) : Int)).toNat)) h2 fun h3 =>
 VRet h3 (Value.slice x1.a x1.len x1.cap) post)

def f38_hint : Hint := (.node .leaf (.node .leaf (.node .leaf (.node .leaf (.node (.tail 6) .leaf)))))

theorem f38_eq (p0_s : SV) (p1_i : Int) (p2_j : Int) (h0 : H) (post : Value → H → Prop) : exec Tryd.prog (bodyOf Tryd.f38) f38_hint (retQ Tryd.prog Tryd.f38 post) (F0 [(Value.slice p0_s.a p0_s.len p0_s.cap), (Value.int .i64 p1_i), (Value.int .i64 p2_j)]) h0 = f38_sem p0_s p1_i p2_j h0 post := by kernel_rfl

set_option maxRecDepth 20000 in
theorem f38_call (p0_s : SV) (p1_i : Int) (p2_j : Int) (h0 : H) (post : Value → H → Prop) (hx : f38_sem p0_s p1_i p2_j h0 post) : SemCall Tryd.prog 38 (List.toArray [(Value.slice p0_s.a p0_s.len p0_s.cap), (Value.int .i64 p1_i), (Value.int .i64 p2_j)]) h0 post :=
 sem_of_exec (g := f38_hint) mixed Tryd.func38 (bodyOf_eq (by kernel_rfl)) (by kernel_rfl) ((f38_eq p0_s p1_i p2_j h0 post).mpr hx)

/- slices.Contains[[]int,int] -/
def f39_sem (p0_s : SV) (p1_v : Int) (h0 : H) (post : Value → H → Prop) : Prop :=
 SemCall Go.Proofs.Tryd.prog 55 (List.toArray [(Value.slice p0_s.a p0_s.len p0_s.cap), (Value.int .i64 p1_v)]) h0 fun v1 h2 =>
 ∃ x3 : Int, v1 = (Value.int .i64 x3) ∧
 VRet h2 (Value.bool (decide (x3 ≥ (0 : Int)))) post

def f39_hint : Hint := .leaf

theorem f39_eq (p0_s : SV) (p1_v : Int) (h0 : H) (post : Value → H → Prop) : exec Tryd.prog (bodyOf Tryd.f39) f39_hint (retQ Tryd.prog Tryd.f39 post) (F0 [(Value.slice p0_s.a p0_s.len p0_s.cap), (Value.int .i64 p1_v)]) h0 = f39_sem p0_s p1_v h0 post := by kernel_rfl

set_option maxRecDepth 20000 in
theorem f39_call (p0_s : SV) (p1_v : Int) (h0 : H) (post : Value → H → Prop) (hx : f39_sem p0_s p1_v h0 post) : SemCall Tryd.prog 39 (List.toArray [(Value.slice p0_s.a p0_s.len p0_s.cap), (Value.int .i64 p1_v)]) h0 post :=
 sem_of_exec (g := f39_hint) mixed Tryd.func39 (bodyOf_eq (by kernel_rfl)) (by kernel_rfl) ((f39_eq p0_s p1_v h0 post).mpr hx)

/- slices.Clone[[]int,int] -/
def f40_sem (p0_s : SV) (h0 : H) (post : Value → H → Prop) : Prop :=
 VIf (Option.isNone p0_s.a) (
 VRet h0 (Value.slice none 0 0) post) (
 H.new h0 [] fun r1 h2 =>
 appVC Go.Proofs.Tryd.prog 22 (Value.slice (some (Addr.mk r1 0 none)) 0 0) (Value.slice p0_s.a p0_s.len p0_s.cap) h2 fun x3 h4 =>
 VRet h4 (Value.slice x3.a x3.len x3.cap) post)

def f40_hint : Hint := .leaf

theorem f40_eq (p0_s : SV) (h0 : H) (post : Value → H → Prop) : exec Tryd.prog (bodyOf Tryd.f40) f40_hint (retQ Tryd.prog Tryd.f40 post) (F0 [(Value.slice p0_s.a p0_s.len p0_s.cap)]) h0 = f40_sem p0_s h0 post := by kernel_rfl

set_option maxRecDepth 20000 in
theorem f40_call (p0_s : SV) (h0 : H) (post : Value → H → Prop) (hx : f40_sem p0_s h0 post) : SemCall Tryd.prog 40 (List.toArray [(Value.slice p0_s.a p0_s.len p0_s.cap)]) h0 post :=
 sem_of_exec (g := f40_hint) mixed Tryd.func40 (bodyOf_eq (by kernel_rfl)) (by kernel_rfl) ((f40_eq p0_s h0 post).mpr hx)

/- latchgarth/latchgarthref4.set -/
def f41_sem (p0_l : SV) (p1_i : Int) (p2_n : Int) (h0 : H) (post : Value → H → Prop) : Prop :=
 appVC Go.Proofs.Tryd.prog 22 (Value.slice none 0 0) (Value.slice p0_l.a p0_l.len p0_l.cap) h0 fun x1 h2 =>
 ∃ b3 : Addr, x1.a = some b3 ∧ 0 ≤ p1_i ∧ p1_i < ((x1.len : Nat) : Int) ∧
 H.wr h2 (Addr.add b3 ((p1_i).toNat * 1)) ([(Value.int .i64 p2_n)]) fun h4 =>
 VRet h4 (Value.slice x1.a x1.len x1.cap) post

def f41_hint : Hint := .leaf

theorem f41_eq (p0_l : SV) (p1_i : Int) (p2_n : Int) (h0 : H) (post : Value → H → Prop) : exec Tryd.prog (bodyOf Tryd.f41) f41_hint (retQ Tryd.prog Tryd.f41 post) (F0 [(Value.slice p0_l.a p0_l.len p0_l.cap), (Value.int .i64 p1_i), (Value.int .i64 p2_n)]) h0 = f41_sem p0_l p1_i p2_n h0 post := by kernel_rfl

set_option maxRecDepth 20000 in
theorem f41_call (p0_l : SV) (p1_i : Int) (p2_n : Int) (h0 : H) (post : Value → H → Prop) (hx : f41_sem p0_l p1_i p2_n h0 post) : SemCall Tryd.prog 41 (List.toArray [(Value.slice p0_l.a p0_l.len p0_l.cap), (Value.int .i64 p1_i), (Value.int .i64 p2_n)]) h0 post :=
 sem_of_exec (g := f41_hint) mixed Tryd.func41 (bodyOf_eq (by kernel_rfl)) (by kernel_rfl) ((f41_eq p0_l p1_i p2_n h0 post).mpr hx)

/- latchgarth/core.Has -/
def f45_sem (p0_set : Int) (p1_i : Int) (h0 : H) (post : Value → H → Prop) : Prop :=
 0 ≤ p1_i ∧ p1_i ≤ 63 ∧
 VRet h0 (Value.bool ((bitsV .and (Int.fdiv p0_set (2 ^ (p1_i).toNat)) (1 : Int)) == (1 : Int))) post

def f45_hint : Hint := .leaf

theorem f45_eq (p0_set : Int) (p1_i : Int) (h0 : H) (post : Value → H → Prop) : exec Tryd.prog (bodyOf Tryd.f45) f45_hint (retQ Tryd.prog Tryd.f45 post) (F0 [(Value.int .i64 p0_set), (Value.int .i64 p1_i)]) h0 = f45_sem p0_set p1_i h0 post := by kernel_rfl

set_option maxRecDepth 20000 in
theorem f45_call (p0_set : Int) (p1_i : Int) (h0 : H) (post : Value → H → Prop) (hx : f45_sem p0_set p1_i h0 post) : SemCall Tryd.prog 45 (List.toArray [(Value.int .i64 p0_set), (Value.int .i64 p1_i)]) h0 post :=
 sem_of_exec (g := f45_hint) mixed Tryd.func45 (bodyOf_eq (by kernel_rfl)) (by kernel_rfl) ((f45_eq p0_set p1_i h0 post).mpr hx)

/- latchgarth/latchgarthref4.in -/
def f48_sem (p0_n : Int) (p1_low : Int) (p2_high : Int) (h0 : H) (post : Value → H → Prop) : Prop :=
 ∃ R1 : Bool → H → Prop, (
 VIf (decide (p0_n ≥ p1_low)) (
 (∃ h2, Gh h0 h2 ∧ R1 (decide (p0_n ≤ p2_high)) h2)) (
 (∃ h3, Gh h0 h3 ∧ R1 false h3))) ∧
 ∀ (_ : F) (x4 : Bool) (h5 : H), R1 x4 h5 →
 VRet h5 (Value.bool x4) post

def f48_hint : Hint := (.node .leaf (.node (.join [(6, .bool)] .leaf) .leaf))

theorem f48_eq (p0_n : Int) (p1_low : Int) (p2_high : Int) (h0 : H) (post : Value → H → Prop) : exec Tryd.prog (bodyOf Tryd.f48) f48_hint (retQ Tryd.prog Tryd.f48 post) (F0 [(Value.int .i64 p0_n), (Value.int .i64 p1_low), (Value.int .i64 p2_high)]) h0 = f48_sem p0_n p1_low p2_high h0 post := by kernel_rfl

set_option maxRecDepth 20000 in
theorem f48_call (p0_n : Int) (p1_low : Int) (p2_high : Int) (h0 : H) (post : Value → H → Prop) (hx : f48_sem p0_n p1_low p2_high h0 post) : SemCall Tryd.prog 48 (List.toArray [(Value.int .i64 p0_n), (Value.int .i64 p1_low), (Value.int .i64 p2_high)]) h0 post :=
 sem_of_exec (g := f48_hint) mixed Tryd.func48 (bodyOf_eq (by kernel_rfl)) (by kernel_rfl) ((f48_eq p0_n p1_low p2_high h0 post).mpr hx)

/- latchgarth/latchgarthref4.May -/
def f49_L1 (p1_writes : Int) (post : Value → H → Prop) (r1 : Nat) (R3 : H → Prop) (I4 : Nat → Int → H → Prop) (n5 : Nat) (x8_i : Int) (h9 : H) : Prop :=
 VIf (decide (x8_i < (8 : Int))) (
 ∃ R10 : Bool → H → Prop, (
 ∃ x11 : SV, H.rd h9 (Addr.add (Addr.add (Addr.mk r1 0 none) 0) 0) (Value.slice x11.a x11.len x11.cap) ∧
 ∃ b12 : Addr, x11.a = some b12 ∧ 0 ≤ x8_i ∧ x8_i < ((x11.len : Nat) : Int) ∧
 ∃ x13 : Int, H.rd h9 (Addr.add (Addr.add b12 ((x8_i).toNat * 1)) 0) (Value.int .i64 x13) ∧
 VIf (x13 == (2 : Int)) (
 (∃ h14, Gh h9 h14 ∧ R10 true h14)) (
 ∃ x15 : SV, H.rd h9 (Addr.add (Addr.add (Addr.mk r1 0 none) 0) 0) (Value.slice x15.a x15.len x15.cap) ∧
 ∃ b16 : Addr, x15.a = some b16 ∧ 0 ≤ x8_i ∧ x8_i < ((x15.len : Nat) : Int) ∧
 ∃ x17 : Int, H.rd h9 (Addr.add (Addr.add b16 ((x8_i).toNat * 1)) 0) (Value.int .i64 x17) ∧
 VIf (x17 == (1 : Int)) (
 (∃ h18, Gh h9 h18 ∧ R10 (p1_writes == (1 : Int)) h18)) (
 (∃ h19, Gh h9 h19 ∧ R10 false h19)))) ∧
 ∀ (_ : F) (x20 : Bool) (h21 : H), R10 x20 h21 →
 VIf x20 (
 VRet h21 (Value.bool false) post) (
 In64 (x8_i + (1 : Int)) ∧
 ∃ m6, m6 < n5 ∧ (∃ h22, Gh h21 h22 ∧ I4 m6 (x8_i + (1 : Int)) h22))) (
 (∃ h23, Gh h9 h23 ∧ R3 h23))

def f49_sem (p0_0_l : SV) (p0_1_l : SV) (p1_writes : Int) (h0 : H) (post : Value → H → Prop) : Prop :=
 H.new h0 [(Value.slice p0_0_l.a p0_0_l.len p0_0_l.cap), (Value.slice p0_1_l.a p0_1_l.len p0_1_l.cap)] fun r1 h2 =>
 ∃ R3 : H → Prop, (
 ∃ I4 : Nat → Int → H → Prop, (∃ n5, (∃ h7, Gh h2 h7 ∧ I4 n5 (0 : Int) h7)) ∧
 ∀ (n5 : Nat) (_ : F) (x8_i : Int) (h9 : H), I4 n5 x8_i h9 →
 f49_L1 p1_writes post r1 R3 I4 n5 x8_i h9) ∧
 ∀ (_ : F) (h24 : H), R3 h24 →
 VRet h24 (Value.bool true) post

def f49_hint : Hint := (.node .leaf (.node (.node .leaf (.join [] (.node (.loop [(5, .int)] (.node .leaf (.node (.node (.node (.join [(27, .bool)] .leaf) .leaf) .leaf) .leaf))) .leaf))) .leaf))

theorem f49_eq (p0_0_l : SV) (p0_1_l : SV) (p1_writes : Int) (h0 : H) (post : Value → H → Prop) : exec Tryd.prog (bodyOf Tryd.f49) f49_hint (retQ Tryd.prog Tryd.f49 post) (F0 [(Value.agg (List.toArray [(Value.slice p0_0_l.a p0_0_l.len p0_0_l.cap), (Value.slice p0_1_l.a p0_1_l.len p0_1_l.cap)])), (Value.int .i64 p1_writes)]) h0 = f49_sem p0_0_l p0_1_l p1_writes h0 post := by kernel_rfl

set_option maxRecDepth 20000 in
theorem f49_call (p0_0_l : SV) (p0_1_l : SV) (p1_writes : Int) (h0 : H) (post : Value → H → Prop) (hx : f49_sem p0_0_l p0_1_l p1_writes h0 post) : SemCall Tryd.prog 49 (List.toArray [(Value.agg (List.toArray [(Value.slice p0_0_l.a p0_0_l.len p0_0_l.cap), (Value.slice p0_1_l.a p0_1_l.len p0_1_l.cap)])), (Value.int .i64 p1_writes)]) h0 post :=
 sem_of_exec (g := f49_hint) mixed Tryd.func49 (bodyOf_eq (by kernel_rfl)) (by kernel_rfl) ((f49_eq p0_0_l p0_1_l p1_writes h0 post).mpr hx)

/- slices.ContainsFunc[[]latchgarth/rw.want,latchgarth/rw.want] -/
def f50_sem (p0_s : SV) (p1_f : Value) (h0 : H) (post : Value → H → Prop) : Prop :=
 SemCall Go.Proofs.Tryd.prog 57 (List.toArray [(Value.slice p0_s.a p0_s.len p0_s.cap), p1_f]) h0 fun v1 h2 =>
 ∃ x3 : Int, v1 = (Value.int .i64 x3) ∧
 VRet h2 (Value.bool (decide (x3 ≥ (0 : Int)))) post

def f50_hint : Hint := .leaf

theorem f50_eq (p0_s : SV) (p1_f : Value) (h0 : H) (post : Value → H → Prop) : exec Tryd.prog (bodyOf Tryd.f50) f50_hint (retQ Tryd.prog Tryd.f50 post) (F0 [(Value.slice p0_s.a p0_s.len p0_s.cap), p1_f]) h0 = f50_sem p0_s p1_f h0 post := by kernel_rfl

set_option maxRecDepth 20000 in
theorem f50_call (p0_s : SV) (p1_f : Value) (h0 : H) (post : Value → H → Prop) (hx : f50_sem p0_s p1_f h0 post) : SemCall Tryd.prog 50 (List.toArray [(Value.slice p0_s.a p0_s.len p0_s.cap), p1_f]) h0 post :=
 sem_of_exec (g := f50_hint) mixed Tryd.func50 (bodyOf_eq (by kernel_rfl)) (by kernel_rfl) ((f50_eq p0_s p1_f h0 post).mpr hx)

/- (*latchgarth/rw.Lock).Ask$1 -/
def f51_sem (p0_0_w : Int) (p0_1_w : Bool) (c0 : Addr) (h0 : H) (post : Value → H → Prop) : Prop :=
 H.new h0 [(Value.int .i64 p0_0_w), (Value.bool p0_1_w)] fun r1 h2 =>
 ∃ x3 : Int, H.rd h2 (Addr.add (Addr.add (Addr.mk r1 0 none) 0) 0) (Value.int .i64 x3) ∧
 ∃ x4 : Int, H.rd h2 (Addr.add c0 0) (Value.int .i64 x4) ∧
 VRet h2 (Value.bool (x3 == x4)) post

def f51_hint : Hint := .leaf

theorem f51_eq (p0_0_w : Int) (p0_1_w : Bool) (c0 : Addr) (h0 : H) (post : Value → H → Prop) : exec Tryd.prog (bodyOf Tryd.f51) f51_hint (retQ Tryd.prog Tryd.f51 post) (F0 [(Value.agg (List.toArray [(Value.int .i64 p0_0_w), (Value.bool p0_1_w)])), (Value.pointer (some c0))]) h0 = f51_sem p0_0_w p0_1_w c0 h0 post := by kernel_rfl

set_option maxRecDepth 20000 in
theorem f51_call (p0_0_w : Int) (p0_1_w : Bool) (c0 : Addr) (h0 : H) (post : Value → H → Prop) (hx : f51_sem p0_0_w p0_1_w c0 h0 post) : SemCall Tryd.prog 51 (List.toArray [(Value.agg (List.toArray [(Value.int .i64 p0_0_w), (Value.bool p0_1_w)])), (Value.pointer (some c0))]) h0 post :=
 sem_of_exec (g := f51_hint) mixed Tryd.func51 (bodyOf_eq (by kernel_rfl)) (by kernel_rfl) ((f51_eq p0_0_w p0_1_w c0 h0 post).mpr hx)

/- (*latchgarth/rw.Lock).fits -/
def f52_sem (p0_l : Option Addr) (p1_0_w : Int) (p1_1_w : Bool) (h0 : H) (post : Value → H → Prop) : Prop :=
 H.new h0 [(Value.int .i64 p1_0_w), (Value.bool p1_1_w)] fun r1 h2 =>
 ∃ R3 : Bool → H → Prop, (
 ∃ a4 : Addr, p0_l = some a4 ∧
 ∃ x5 : Int, H.rd h2 (Addr.add (Addr.add a4 1) 0) (Value.int .i64 x5) ∧
 VIf (x5 == (0 : Int)) (
 ∃ x6 : Bool, H.rd h2 (Addr.add (Addr.add (Addr.mk r1 0 none) 1) 0) (Value.bool x6) ∧
 VIf (!x6) (
 (∃ h7, Gh h2 h7 ∧ R3 true h7)) (
 ∃ a8 : Addr, p0_l = some a8 ∧
 ∃ x9 : Int, H.rd h2 (Addr.add (Addr.add a8 0) 0) (Value.int .i64 x9) ∧
 (∃ h10, Gh h2 h10 ∧ R3 (x9 == (0 : Int)) h10))) (
 (∃ h11, Gh h2 h11 ∧ R3 false h11))) ∧
 ∀ (_ : F) (x12 : Bool) (h13 : H), R3 x12 h13 →
 VRet h13 (Value.bool x12) post

def f52_hint : Hint := (.node .leaf (.node (.join [(4, .bool)] .leaf) .leaf))

theorem f52_eq (p0_l : Option Addr) (p1_0_w : Int) (p1_1_w : Bool) (h0 : H) (post : Value → H → Prop) : exec Tryd.prog (bodyOf Tryd.f52) f52_hint (retQ Tryd.prog Tryd.f52 post) (F0 [(Value.pointer p0_l), (Value.agg (List.toArray [(Value.int .i64 p1_0_w), (Value.bool p1_1_w)]))]) h0 = f52_sem p0_l p1_0_w p1_1_w h0 post := by kernel_rfl

set_option maxRecDepth 20000 in
theorem f52_call (p0_l : Option Addr) (p1_0_w : Int) (p1_1_w : Bool) (h0 : H) (post : Value → H → Prop) (hx : f52_sem p0_l p1_0_w p1_1_w h0 post) : SemCall Tryd.prog 52 (List.toArray [(Value.pointer p0_l), (Value.agg (List.toArray [(Value.int .i64 p1_0_w), (Value.bool p1_1_w)]))]) h0 post :=
 sem_of_exec (g := f52_hint) mixed Tryd.func52 (bodyOf_eq (by kernel_rfl)) (by kernel_rfl) ((f52_eq p0_l p1_0_w p1_1_w h0 post).mpr hx)

/- (*latchgarth/rw.Lock).has -/
def f53_sem (p0_l : Option Addr) (p1_0_w : Int) (p1_1_w : Bool) (h0 : H) (post : Value → H → Prop) : Prop :=
 H.new h0 [(Value.int .i64 p1_0_w), (Value.bool p1_1_w)] fun r1 h2 =>
 ∃ x3 : Bool, H.rd h2 (Addr.add (Addr.add (Addr.mk r1 0 none) 1) 0) (Value.bool x3) ∧
 VIf x3 (
 ∃ x4 : Int, H.rd h2 (Addr.add (Addr.add (Addr.mk r1 0 none) 0) 0) (Value.int .i64 x4) ∧
 In64 (x4 + (1 : Int)) ∧
 ∃ a5 : Addr, p0_l = some a5 ∧
 H.wr h2 (Addr.add a5 1) ([(Value.int .i64 (x4 + (1 : Int)))]) fun h6 =>
 VRet h6 (Value.tuple (List.toArray [])) post) (
 ∃ a7 : Addr, p0_l = some a7 ∧
 ∃ x8 : Int, H.rd h2 (Addr.add (Addr.add a7 0) 0) (Value.int .i64 x8) ∧
 ∃ x9 : Int, H.rd h2 (Addr.add (Addr.add (Addr.mk r1 0 none) 0) 0) (Value.int .i64 x9) ∧
 0 ≤ x9 ∧ x9 ≤ 63 ∧ In64 ((1 : Int) * 2 ^ (x9).toNat) ∧
 ∃ a10 : Addr, p0_l = some a10 ∧
 H.wr h2 (Addr.add a10 0) ([(Value.int .i64 (bitsV .or x8 ((1 : Int) * 2 ^ (x9).toNat)))]) fun h11 =>
 VRet h11 (Value.tuple (List.toArray [])) post)

def f53_hint : Hint := (.node .leaf (.node .leaf (.node .leaf (.tail 10))))

theorem f53_eq (p0_l : Option Addr) (p1_0_w : Int) (p1_1_w : Bool) (h0 : H) (post : Value → H → Prop) : exec Tryd.prog (bodyOf Tryd.f53) f53_hint (retQ Tryd.prog Tryd.f53 post) (F0 [(Value.pointer p0_l), (Value.agg (List.toArray [(Value.int .i64 p1_0_w), (Value.bool p1_1_w)]))]) h0 = f53_sem p0_l p1_0_w p1_1_w h0 post := by kernel_rfl

set_option maxRecDepth 20000 in
theorem f53_call (p0_l : Option Addr) (p1_0_w : Int) (p1_1_w : Bool) (h0 : H) (post : Value → H → Prop) (hx : f53_sem p0_l p1_0_w p1_1_w h0 post) : SemCall Tryd.prog 53 (List.toArray [(Value.pointer p0_l), (Value.agg (List.toArray [(Value.int .i64 p1_0_w), (Value.bool p1_1_w)]))]) h0 post :=
 sem_of_exec (g := f53_hint) mixed Tryd.func53 (bodyOf_eq (by kernel_rfl)) (by kernel_rfl) ((f53_eq p0_l p1_0_w p1_1_w h0 post).mpr hx)

/- slices.Index[[]int,int] -/
def f55_L1 (p0_s : SV) (p1_v : Int) (post : Value → H → Prop) (R1 : H → Prop) (I2 : Nat → Int → H → Prop) (n3 : Nat) (x6 : Int) (h7 : H) : Prop :=
 VIf (decide (x6 < ((p0_s.len : Nat) : Int))) (
 ∃ b8 : Addr, p0_s.a = some b8 ∧ 0 ≤ x6 ∧ x6 < ((p0_s.len : Nat) : Int) ∧
 ∃ x9 : Int, H.rd h7 (Addr.add (Addr.add b8 ((x6).toNat * 1)) 0) (Value.int .i64 x9) ∧
 VIf (p1_v == x9) (
 VRet h7 (Value.int .i64 x6) post) (
 In64 (x6 + (1 : Int)) ∧
 ∃ m4, m4 < n3 ∧ (∃ h10, Gh h7 h10 ∧ I2 m4 (x6 + (1 : Int)) h10))) (
 (∃ h11, Gh h7 h11 ∧ R1 h11))

def f55_sem (p0_s : SV) (p1_v : Int) (h0 : H) (post : Value → H → Prop) : Prop :=
 ∃ R1 : H → Prop, (
 ∃ I2 : Nat → Int → H → Prop, (∃ n3, (∃ h5, Gh h0 h5 ∧ I2 n3 (0 : Int) h5)) ∧
 ∀ (n3 : Nat) (_ : F) (x6 : Int) (h7 : H), I2 n3 x6 h7 →
 f55_L1 p0_s p1_v post R1 I2 n3 x6 h7) ∧
 ∀ (_ : F) (h12 : H), R1 h12 →
 VRet h12 (Value.int .i64 (-1 : Int)) post

def f55_hint : Hint := (.node .leaf (.node (.node .leaf (.join [] (.node (.loop [(8, .int)] .leaf) .leaf))) .leaf))

theorem f55_eq (p0_s : SV) (p1_v : Int) (h0 : H) (post : Value → H → Prop) : exec Tryd.prog (bodyOf Tryd.f55) f55_hint (retQ Tryd.prog Tryd.f55 post) (F0 [(Value.slice p0_s.a p0_s.len p0_s.cap), (Value.int .i64 p1_v)]) h0 = f55_sem p0_s p1_v h0 post := by kernel_rfl

set_option maxRecDepth 20000 in
theorem f55_call (p0_s : SV) (p1_v : Int) (h0 : H) (post : Value → H → Prop) (hx : f55_sem p0_s p1_v h0 post) : SemCall Tryd.prog 55 (List.toArray [(Value.slice p0_s.a p0_s.len p0_s.cap), (Value.int .i64 p1_v)]) h0 post :=
 sem_of_exec (g := f55_hint) mixed Tryd.func55 (bodyOf_eq (by kernel_rfl)) (by kernel_rfl) ((f55_eq p0_s p1_v h0 post).mpr hx)

/- slices.IndexFunc[[]latchgarth/rw.want,latchgarth/rw.want] -/
def f57_L1 (p0_s : SV) (q0_f : Addr) (post : Value → H → Prop) (R1 : H → Prop) (I2 : Nat → Int → H → Prop) (n3 : Nat) (x6 : Int) (h7 : H) : Prop :=
 VIf (decide (x6 < ((p0_s.len : Nat) : Int))) (
 ∃ b8 : Addr, p0_s.a = some b8 ∧ 0 ≤ x6 ∧ x6 < ((p0_s.len : Nat) : Int) ∧
 ∃ x9 : Int, H.rd h7 (Addr.add (Addr.add b8 ((x6).toNat * 2)) 0) (Value.int .i64 x9) ∧
 ∃ x10 : Bool, H.rd h7 (Addr.add (Addr.add b8 ((x6).toNat * 2)) 1) (Value.bool x10) ∧
 SemCall Go.Proofs.Tryd.prog 51 (List.toArray [(Value.agg (List.toArray [(Value.int .i64 x9), (Value.bool x10)])), (Value.pointer (some q0_f))]) h7 fun v11 h12 =>
 ∃ x13 : Bool, v11 = (Value.bool x13) ∧
 VIf x13 (
 VRet h12 (Value.int .i64 x6) post) (
 In64 (x6 + (1 : Int)) ∧
 ∃ m4, m4 < n3 ∧ (∃ h14, Gh h12 h14 ∧ I2 m4 (x6 + (1 : Int)) h14))) (
 (∃ h15, Gh h7 h15 ∧ R1 h15))

def f57_sem (p0_s : SV) (q0_f : Addr) (h0 : H) (post : Value → H → Prop) : Prop :=
 ∃ R1 : H → Prop, (
 ∃ I2 : Nat → Int → H → Prop, (∃ n3, (∃ h5, Gh h0 h5 ∧ I2 n3 (0 : Int) h5)) ∧
 ∀ (n3 : Nat) (_ : F) (x6 : Int) (h7 : H), I2 n3 x6 h7 →
 f57_L1 p0_s q0_f post R1 I2 n3 x6 h7) ∧
 ∀ (_ : F) (h16 : H), R1 h16 →
 VRet h16 (Value.int .i64 (-1 : Int)) post

def f57_hint : Hint := (.node .leaf (.node (.node .leaf (.join [] (.node (.loop [(8, .int)] .leaf) .leaf))) .leaf))

theorem f57_eq (p0_s : SV) (q0_f : Addr) (h0 : H) (post : Value → H → Prop) : exec Tryd.prog (bodyOf Tryd.f57) f57_hint (retQ Tryd.prog Tryd.f57 post) (F0 [(Value.slice p0_s.a p0_s.len p0_s.cap), (Value.func (.func 51) #[] #[(Value.pointer (some q0_f))])]) h0 = f57_sem p0_s q0_f h0 post := by kernel_rfl

set_option maxRecDepth 20000 in
theorem f57_call (p0_s : SV) (q0_f : Addr) (h0 : H) (post : Value → H → Prop) (hx : f57_sem p0_s q0_f h0 post) : SemCall Tryd.prog 57 (List.toArray [(Value.slice p0_s.a p0_s.len p0_s.cap), (Value.func (.func 51) #[] #[(Value.pointer (some q0_f))])]) h0 post :=
 sem_of_exec (g := f57_hint) mixed Tryd.func57 (bodyOf_eq (by kernel_rfl)) (by kernel_rfl) ((f57_eq p0_s q0_f h0 post).mpr hx)

end Go.Proofs.YtkokdeenniejjaaDoor
