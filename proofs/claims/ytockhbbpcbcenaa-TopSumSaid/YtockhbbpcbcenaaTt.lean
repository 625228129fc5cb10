import Derived.Test.YtockhbbpcbcenaaEngG
import Derived.Test.YtockhbbpcbcenaaRows
import Derived.Test.YtockhbbpcbcenaaT
namespace Go.Proofs.Ytockhbbpcbcenaa
open Go.Eng
/- latchgarth/latchgarthtop.TopSum -/
def f6_J1 (post : Value → H → Prop) (x3 : Option Addr) (x31 : Int) (R60 : Int → H → Prop) (I61 : Nat → Int → Int → H → Prop) (n62 : Nat) (x65_x : Int) (x66_k : Int) (x71 : Bool) (h72 : H) : Prop :=
 VIf x71 (
 SemCall Go.Proofs.Try.prog 21 (List.toArray [(Value.pointer x3), (Value.int .i64 x31)]) h72 fun v73 h74 =>
 ∃ x75 : Bool, ∃ x76 : Int, ∃ x77 : Option (TypeId × Value), v73 = (Value.tuple (List.toArray [(Value.bool x75), (Value.int .i64 x76), (errV x77)])) ∧
 isIfaceV (errV x77) = true ∧
 VIf (!(isNilV (errV x77))) (
 VRet h74 (Value.bool false) post) (
 VIf x75 (
 In64 (x66_k + (1 : Int)) ∧
 ∃ m63, m63 < n62 ∧ (∃ h78, Gh h74 h78 ∧ I61 m63 x76 (x66_k + (1 : Int)) h78)) (
 In64 (x66_k + (1 : Int)) ∧
 ∃ m63, m63 < n62 ∧ (∃ h79, Gh h74 h79 ∧ I61 m63 x65_x (x66_k + (1 : Int)) h79)))) (
 (∃ h80, Gh h72 h80 ∧ R60 x65_x h80))

def f6_L2 (post : Value → H → Prop) (x3 : Option Addr) (x31 : Int) (R60 : Int → H → Prop) (I61 : Nat → Int → Int → H → Prop) (n62 : Nat) (x65_x : Int) (x66_k : Int) (h67 : H) : Prop :=
 ∃ R68 : Bool → H → Prop, (
 VIf (decide (x66_k < (20 : Int))) (
 (∃ h69, Gh h67 h69 ∧ R68 (decide (x65_x < (0 : Int))) h69)) (
 (∃ h70, Gh h67 h70 ∧ R68 false h70))) ∧
 ∀ (_ : F) (x71 : Bool) (h72 : H), R68 x71 h72 →
 f6_J1 post x3 x31 R60 I61 n62 x65_x x66_k x71 h72

def f6_J3 (post : Value → H → Prop) (x7 : Option Addr) (x31 : Int) (R83 : Int → H → Prop) (I84 : Nat → Int → Int → H → Prop) (n85 : Nat) (x88_y : Int) (x89_k : Int) (x94 : Bool) (h95 : H) : Prop :=
 VIf x94 (
 SemCall Go.Proofs.Try.prog 13 (List.toArray [(Value.pointer x7), (Value.int .i64 x31)]) h95 fun v96 h97 =>
 ∃ x98 : Bool, ∃ x99 : Int, ∃ x100 : Option (TypeId × Value), v96 = (Value.tuple (List.toArray [(Value.bool x98), (Value.int .i64 x99), (errV x100)])) ∧
 isIfaceV (errV x100) = true ∧
 VIf (!(isNilV (errV x100))) (
 VRet h97 (Value.bool false) post) (
 VIf x98 (
 In64 (x89_k + (1 : Int)) ∧
 ∃ m86, m86 < n85 ∧ (∃ h101, Gh h97 h101 ∧ I84 m86 x99 (x89_k + (1 : Int)) h101)) (
 In64 (x89_k + (1 : Int)) ∧
 ∃ m86, m86 < n85 ∧ (∃ h102, Gh h97 h102 ∧ I84 m86 x88_y (x89_k + (1 : Int)) h102)))) (
 (∃ h103, Gh h95 h103 ∧ R83 x88_y h103))

def f6_L4 (post : Value → H → Prop) (x7 : Option Addr) (x31 : Int) (R83 : Int → H → Prop) (I84 : Nat → Int → Int → H → Prop) (n85 : Nat) (x88_y : Int) (x89_k : Int) (h90 : H) : Prop :=
 ∃ R91 : Bool → H → Prop, (
 VIf (decide (x89_k < (20 : Int))) (
 (∃ h92, Gh h90 h92 ∧ R91 (decide (x88_y < (0 : Int))) h92)) (
 (∃ h93, Gh h90 h93 ∧ R91 false h93))) ∧
 ∀ (_ : F) (x94 : Bool) (h95 : H), R91 x94 h95 →
 f6_J3 post x7 x31 R83 I84 n85 x88_y x89_k x94 h95

def f6_J5 (p1_adds : SV) (p2_keep : Bool) (post : Value → H → Prop) (x7 : Option Addr) (x19_sum : Int) (x20_h : SV) (x21_i : Int) (R29 : Int → SV → H → Prop) (x31 : Int) (x81_x : Int) (x109 : Bool) (h110 : H) : Prop :=
 VIf x109 (
 VRet h110 (Value.bool false) post) (
 ∃ b111 : Addr, p1_adds.a = some b111 ∧ 0 ≤ x21_i ∧ x21_i < ((p1_adds.len : Nat) : Int) ∧
 ∃ x112 : Int, H.rd h110 (Addr.add (Addr.add b111 ((x21_i).toNat * 1)) 0) (Value.int .i64 x112) ∧
 In64 (x19_sum + x112) ∧
 ∃ b113 : Addr, p1_adds.a = some b113 ∧ 0 ≤ x21_i ∧ x21_i < ((p1_adds.len : Nat) : Int) ∧
 ∃ x114 : Int, H.rd h110 (Addr.add (Addr.add b113 ((x21_i).toNat * 1)) 0) (Value.int .i64 x114) ∧
 In64 ((2 : Int) * x21_i) ∧
 In64 ((2 : Int) * x21_i) ∧
 In64 (((2 : Int) * x21_i) + (1 : Int)) ∧
 H.new h110 [(Value.int .i64 x31), (Value.int .i64 0), (Value.int .i64 x114), (Value.int .i64 x81_x), (Value.int .i64 ((2 : Int) * x21_i)), (Value.int .i64 (((2 : Int) * x21_i) + (1 : Int)))] fun r115 h116 =>
 appVC Go.Proofs.Try.prog 44 (Value.slice x20_h.a x20_h.len x20_h.cap) (Value.slice (some (Addr.mk r115 0 none)) 1 1) h116 fun x117 h118 =>
 SemCall Go.Proofs.Try.prog 14 (List.toArray [(Value.pointer x7), (Value.bool p2_keep)]) h118 fun v119 h120 =>
 v119 = (Value.tuple (List.toArray [])) ∧
 SemCall Go.Proofs.Try.prog 16 (List.toArray [(Value.pointer x7)]) h120 fun v121 h122 =>
 ∃ x123 : Int, v121 = (Value.int .i64 x123) ∧
 VIf (x123 != (x19_sum + x112)) (
 VRet h122 (Value.bool false) post) (
 (∃ h124, Gh h122 h124 ∧ R29 (x19_sum + x112) x117 h124)))

def f6_J6 (p1_adds : SV) (p2_keep : Bool) (post : Value → H → Prop) (x7 : Option Addr) (x19_sum : Int) (x20_h : SV) (x21_i : Int) (R29 : Int → SV → H → Prop) (x31 : Int) (x81_x : Int) (h82 : H) : Prop :=
 ∃ R83 : Int → H → Prop, (
 ∃ I84 : Nat → Int → Int → H → Prop, (∃ n85, (∃ h87, Gh h82 h87 ∧ I84 n85 (-1 : Int) (0 : Int) h87)) ∧
 ∀ (n85 : Nat) (_ : F) (x88_y : Int) (x89_k : Int) (h90 : H), I84 n85 x88_y x89_k h90 →
 f6_L4 post x7 x31 R83 I84 n85 x88_y x89_k h90) ∧
 ∀ (_ : F) (x104_y : Int) (h105 : H), R83 x104_y h105 →
 ∃ R106 : Bool → H → Prop, (
 VIf (x81_x != x19_sum) (
 (∃ h107, Gh h105 h107 ∧ R106 true h107)) (
 (∃ h108, Gh h105 h108 ∧ R106 (x104_y != x19_sum) h108))) ∧
 ∀ (_ : F) (x109 : Bool) (h110 : H), R106 x109 h110 →
 f6_J5 p1_adds p2_keep post x7 x19_sum x20_h x21_i R29 x31 x81_x x109 h110

def f6_J7 (p1_adds : SV) (p2_keep : Bool) (post : Value → H → Prop) (x3 : Option Addr) (x7 : Option Addr) (x19_sum : Int) (x20_h : SV) (x21_i : Int) (R29 : Int → SV → H → Prop) (x31 : Int) (x43 : Bool) (h44 : H) : Prop :=
 VIf x43 (
 VRet h44 (Value.bool true) post) (
 ∃ R45 : Bool → H → Prop, (
 ∃ b46 : Addr, p1_adds.a = some b46 ∧ 0 ≤ x21_i ∧ x21_i < ((p1_adds.len : Nat) : Int) ∧
 ∃ x47 : Int, H.rd h44 (Addr.add (Addr.add b46 ((x21_i).toNat * 1)) 0) (Value.int .i64 x47) ∧
 SemCall Go.Proofs.Try.prog 20 (List.toArray [(Value.pointer x3), (Value.int .i64 x31), (Value.int .i64 x47)]) h44 fun v48 h49 =>
 ∃ x50 : Option (TypeId × Value), v48 = (errV x50) ∧
 isIfaceV (errV x50) = true ∧
 VIf (!(isNilV (errV x50))) (
 (∃ h51, Gh h49 h51 ∧ R45 true h51)) (
 ∃ b52 : Addr, p1_adds.a = some b52 ∧ 0 ≤ x21_i ∧ x21_i < ((p1_adds.len : Nat) : Int) ∧
 ∃ x53 : Int, H.rd h49 (Addr.add (Addr.add b52 ((x21_i).toNat * 1)) 0) (Value.int .i64 x53) ∧
 SemCall Go.Proofs.Try.prog 11 (List.toArray [(Value.pointer x7), (Value.int .i64 x31), (Value.int .i64 x53)]) h49 fun v54 h55 =>
 ∃ x56 : Option (TypeId × Value), v54 = (errV x56) ∧
 isIfaceV (errV x56) = true ∧
 (∃ h57, Gh h55 h57 ∧ R45 (!(isNilV (errV x56))) h57))) ∧
 ∀ (_ : F) (x58 : Bool) (h59 : H), R45 x58 h59 →
 VIf x58 (
 VRet h59 (Value.bool false) post) (
 ∃ R60 : Int → H → Prop, (
 ∃ I61 : Nat → Int → Int → H → Prop, (∃ n62, (∃ h64, Gh h59 h64 ∧ I61 n62 (-1 : Int) (0 : Int) h64)) ∧
 ∀ (n62 : Nat) (_ : F) (x65_x : Int) (x66_k : Int) (h67 : H), I61 n62 x65_x x66_k h67 →
 f6_L2 post x3 x31 R60 I61 n62 x65_x x66_k h67) ∧
 ∀ (_ : F) (x81_x : Int) (h82 : H), R60 x81_x h82 →
 f6_J6 p1_adds p2_keep post x7 x19_sum x20_h x21_i R29 x31 x81_x h82))

def f6_J8 (p0_hands : SV) (p1_adds : SV) (p2_keep : Bool) (post : Value → H → Prop) (x3 : Option Addr) (x7 : Option Addr) (R14 : SV → H → Prop) (I15 : Nat → Int → SV → Int → H → Prop) (n16 : Nat) (x19_sum : Int) (x20_h : SV) (x21_i : Int) (x27 : Bool) (h28 : H) : Prop :=
 VIf x27 (
 ∃ R29 : Int → SV → H → Prop, (
 ∃ b30 : Addr, p0_hands.a = some b30 ∧ 0 ≤ x21_i ∧ x21_i < ((p0_hands.len : Nat) : Int) ∧
 ∃ x31 : Int, H.rd h28 (Addr.add (Addr.add b30 ((x21_i).toNat * 1)) 0) (Value.int .i64 x31) ∧
 ∃ R32 : Bool → H → Prop, (
 SemCall Go.Proofs.Try.prog 19 (List.toArray [(Value.int .i64 x31), (Value.int .i64 0), (Value.int .i64 (3 : Int))]) h28 fun v33 h34 =>
 ∃ x35 : Bool, v33 = (Value.bool x35) ∧
 VIf (!x35) (
 (∃ h36, Gh h34 h36 ∧ R32 true h36)) (
 ∃ b37 : Addr, p1_adds.a = some b37 ∧ 0 ≤ x21_i ∧ x21_i < ((p1_adds.len : Nat) : Int) ∧
 ∃ x38 : Int, H.rd h34 (Addr.add (Addr.add b37 ((x21_i).toNat * 1)) 0) (Value.int .i64 x38) ∧
 SemCall Go.Proofs.Try.prog 19 (List.toArray [(Value.int .i64 x38), (Value.int .i64 0), (Value.int .i64 (1000 : Int))]) h34 fun v39 h40 =>
 ∃ x41 : Bool, v39 = (Value.bool x41) ∧
 (∃ h42, Gh h40 h42 ∧ R32 (!x41) h42))) ∧
 ∀ (_ : F) (x43 : Bool) (h44 : H), R32 x43 h44 →
 f6_J7 p1_adds p2_keep post x3 x7 x19_sum x20_h x21_i R29 x31 x43 h44) ∧
 ∀ (_ : F) (x125_sum : Int) (x126_h : SV) (h127 : H), R29 x125_sum x126_h h127 →
 In64 (x21_i + (1 : Int)) ∧
 ∃ m17, m17 < n16 ∧ (∃ h128, Gh h127 h128 ∧ I15 m17 x125_sum x126_h (x21_i + (1 : Int)) h128)) (
 (∃ h129, Gh h28 h129 ∧ R14 x20_h h129))

def f6_L9 (p0_hands : SV) (p1_adds : SV) (p2_keep : Bool) (post : Value → H → Prop) (x3 : Option Addr) (x7 : Option Addr) (R14 : SV → H → Prop) (I15 : Nat → Int → SV → Int → H → Prop) (n16 : Nat) (x19_sum : Int) (x20_h : SV) (x21_i : Int) (h22 : H) : Prop :=
 ∃ R23 : Bool → H → Prop, (
 VIf (decide (x21_i < ((p0_hands.len : Nat) : Int))) (
 VIf (decide (x21_i < ((p1_adds.len : Nat) : Int))) (
 (∃ h24, Gh h22 h24 ∧ R23 (decide (x21_i < (8 : Int))) h24)) (
 (∃ h25, Gh h22 h25 ∧ R23 false h25))) (
 (∃ h26, Gh h22 h26 ∧ R23 false h26))) ∧
 ∀ (_ : F) (x27 : Bool) (h28 : H), R23 x27 h28 →
 f6_J8 p0_hands p1_adds p2_keep post x3 x7 R14 I15 n16 x19_sum x20_h x21_i x27 h28

def f6_J10 (post : Value → H → Prop) (x3 : Option Addr) (x130_h : SV) (h131 : H) : Prop :=
 SemCall Go.Proofs.Try.prog 22 (List.toArray [(Value.int .i64 0), (Value.slice x130_h.a x130_h.len x130_h.cap)]) h131 fun v132 h133 =>
 ∃ x134 : Bool, ∃ x135 : SV, ∃ x136 : Option (TypeId × Value), v132 = (Value.tuple (List.toArray [(Value.bool x134), (Value.slice x135.a x135.len x135.cap), (errV x136)])) ∧
 ∃ R137 : Bool → H → Prop, (
 isIfaceV (errV x136) = true ∧
 VIf (isNilV (errV x136)) (
 VIf x134 (
 SemCall Go.Proofs.Try.prog 23 (List.toArray [(Value.pointer x3)]) h133 fun v138 h139 =>
 ∃ x140 : SV, v138 = (Value.slice x140.a x140.len x140.cap) ∧
 (∃ h141, Gh h139 h141 ∧ R137 (((x140.len : Nat) : Int) == ((x130_h.len : Nat) : Int)) h141)) (
 (∃ h142, Gh h133 h142 ∧ R137 false h142))) (
 (∃ h143, Gh h133 h143 ∧ R137 false h143))) ∧
 ∀ (_ : F) (x144 : Bool) (h145 : H), R137 x144 h145 →
 VRet h145 (Value.bool x144) post

def f6_sem (p0_hands : SV) (p1_adds : SV) (p2_keep : Bool) (h0 : H) (post : Value → H → Prop) : Prop :=
 SemCall Go.Proofs.Try.prog 18 (List.toArray [(Value.int .i64 (4 : Int))]) h0 fun v1 h2 =>
 ∃ x3 : Option Addr, ∃ x4 : Option (TypeId × Value), v1 = (Value.tuple (List.toArray [(Value.pointer x3), (errV x4)])) ∧
 SemCall Go.Proofs.Try.prog 10 (List.toArray [(Value.int .i64 (4 : Int))]) h2 fun v5 h6 =>
 ∃ x7 : Option Addr, ∃ x8 : Option (TypeId × Value), v5 = (Value.tuple (List.toArray [(Value.pointer x7), (errV x8)])) ∧
 ∃ R9 : Bool → H → Prop, (
 isIfaceV (errV x4) = true ∧
 VIf (!(isNilV (errV x4))) (
 (∃ h10, Gh h6 h10 ∧ R9 true h10)) (
 isIfaceV (errV x8) = true ∧
 (∃ h11, Gh h6 h11 ∧ R9 (!(isNilV (errV x8))) h11))) ∧
 ∀ (_ : F) (x12 : Bool) (h13 : H), R9 x12 h13 →
 VIf x12 (
 VRet h13 (Value.bool false) post) (
 ∃ R14 : SV → H → Prop, (
 ∃ I15 : Nat → Int → SV → Int → H → Prop, (∃ n16, (∃ h18, Gh h13 h18 ∧ I15 n16 (0 : Int) (SV.mk none 0 0) (0 : Int) h18)) ∧
 ∀ (n16 : Nat) (_ : F) (x19_sum : Int) (x20_h : SV) (x21_i : Int) (h22 : H), I15 n16 x19_sum x20_h x21_i h22 →
 f6_L9 p0_hands p1_adds p2_keep post x3 x7 R14 I15 n16 x19_sum x20_h x21_i h22) ∧
 ∀ (_ : F) (x130_h : SV) (h131 : H), R14 x130_h h131 →
 f6_J10 post x3 x130_h h131)

def f6_hint : Hint := (.node .leaf (.node .leaf (.node .leaf (.node (.node (.join [(41, .bool)] .leaf) .leaf) (.node .leaf (.node .leaf (.node (.node .leaf (.join [(12, .sl)] (.node (.loop [(11, .int), (12, .sl), (13, .int)] (.node (.node (.join [(55, .bool)] .leaf) .leaf) (.node (.join [(11, .int), (12, .sl)] (.node (.node .leaf (.node (.node (.join [(72, .bool)] .leaf) .leaf) (.node (.node (.join [(90, .bool)] .leaf) .leaf) (.node .leaf (.node (.node .leaf (.join [(15, .int)] (.node (.loop [(15, .int), (16, .int)] (.node (.node (.join [(96, .bool)] .leaf) .leaf) .leaf)) .leaf))) (.node .leaf (.node (.node .leaf (.join [(20, .int)] (.node (.loop [(20, .int), (21, .int)] (.node (.node (.join [(115, .bool)] .leaf) .leaf) .leaf)) .leaf))) (.node (.node (.join [(136, .bool)] .leaf) .leaf) .leaf)))))))) .leaf)) .leaf))) .leaf))) (.node .leaf (.node (.join [(6, .bool)] .leaf) .leaf)))))))))

theorem f6_eq (p0_hands : SV) (p1_adds : SV) (p2_keep : Bool) (h0 : H) (post : Value → H → Prop) : exec Try.prog (bodyOf Try.f6) f6_hint (retQ Try.prog Try.f6 post) (F0 [(Value.slice p0_hands.a p0_hands.len p0_hands.cap), (Value.slice p1_adds.a p1_adds.len p1_adds.cap), (Value.bool p2_keep)]) h0 = f6_sem p0_hands p1_adds p2_keep h0 post := by kernel_rfl

set_option maxRecDepth 20000 in
theorem f6_call (p0_hands : SV) (p1_adds : SV) (p2_keep : Bool) (h0 : H) (post : Value → H → Prop) (hx : f6_sem p0_hands p1_adds p2_keep h0 post) : SemCall Try.prog 6 (List.toArray [(Value.slice p0_hands.a p0_hands.len p0_hands.cap), (Value.slice p1_adds.a p1_adds.len p1_adds.cap), (Value.bool p2_keep)]) h0 post :=
 sem_of_exec (g := f6_hint) mixed Try.func6 (bodyOf_eq (by kernel_rfl)) (by kernel_rfl) ((f6_eq p0_hands p1_adds p2_keep h0 post).mpr hx)

/- latchgarth/latchgarthtop.in -/
def f19_sem (p0_n : Int) (p1_low : Int) (p2_high : Int) (h0 : H) (post : Value → H → Prop) : Prop :=
 ∃ R1 : Bool → H → Prop, (
 VIf (decide (p0_n ≥ p1_low)) (
 (∃ h2, Gh h0 h2 ∧ R1 (decide (p0_n ≤ p2_high)) h2)) (
 (∃ h3, Gh h0 h3 ∧ R1 false h3))) ∧
 ∀ (_ : F) (x4 : Bool) (h5 : H), R1 x4 h5 →
 VRet h5 (Value.bool x4) post

def f19_hint : Hint := (.node .leaf (.node (.join [(6, .bool)] .leaf) .leaf))

theorem f19_eq (p0_n : Int) (p1_low : Int) (p2_high : Int) (h0 : H) (post : Value → H → Prop) : exec Try.prog (bodyOf Try.f19) f19_hint (retQ Try.prog Try.f19 post) (F0 [(Value.int .i64 p0_n), (Value.int .i64 p1_low), (Value.int .i64 p2_high)]) h0 = f19_sem p0_n p1_low p2_high h0 post := by kernel_rfl

set_option maxRecDepth 20000 in
theorem f19_call (p0_n : Int) (p1_low : Int) (p2_high : Int) (h0 : H) (post : Value → H → Prop) (hx : f19_sem p0_n p1_low p2_high h0 post) : SemCall Try.prog 19 (List.toArray [(Value.int .i64 p0_n), (Value.int .i64 p1_low), (Value.int .i64 p2_high)]) h0 post :=
 sem_of_exec (g := f19_hint) mixed Try.func19 (bodyOf_eq (by kernel_rfl)) (by kernel_rfl) ((f19_eq p0_n p1_low p2_high h0 post).mpr hx)

end Go.Proofs.Ytockhbbpcbcenaa
