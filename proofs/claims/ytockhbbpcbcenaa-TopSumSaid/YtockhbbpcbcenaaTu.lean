import Derived.Test.YtockhbbpcbcenaaEngG
import Derived.Test.YtockhbbpcbcenaaRows
import Derived.Test.YtockhbbpcbcenaaT
namespace Go.Proofs.Ytockhbbpcbcenaa
open Go.Eng
/- latchgarth/latchgarthlaw3.UnivRow -/
def f7_J1 (p0_n : Int) (post : Value → H → Prop) (r13 : Nat) (I16 : Nat → SV → Int → H → Prop) (n17 : Nat) (x21_i : Int) (x35_l : SV) (x84_h : SV) (x101 : Int) (x106 : Bool) (h107 : H) : Prop :=
 VIf x106 (
 ∃ b108 : Addr, x35_l.a = some b108 ∧ 0 ≤ (0 : Int) ∧ (0 : Int) < ((x35_l.len : Nat) : Int) ∧
 ∃ x109 : Int, H.rd h107 (Addr.add (Addr.add b108 (((0 : Int)).toNat * 1)) 0) (Value.int .i64 x109) ∧
 ∃ b110 : Addr, (some (Addr.mk r13 0 none)) = some b110 ∧ 0 ≤ x109 ∧ x109 < (((p0_n).toNat : Nat) : Int) ∧
 ∃ x111 : Int, H.rd h107 (Addr.add (Addr.add b110 ((x109).toNat * 1)) 0) (Value.int .i64 x111) ∧
 VIf (decide (x111 ≥ ((x84_h.len : Nat) : Int))) (
 VRet h107 (Value.bool false) post) (
 ∃ b112 : Addr, x35_l.a = some b112 ∧ 0 ≤ (0 : Int) ∧ (0 : Int) < ((x35_l.len : Nat) : Int) ∧
 ∃ x113 : Int, H.rd h107 (Addr.add (Addr.add b112 (((0 : Int)).toNat * 1)) 0) (Value.int .i64 x113) ∧
 ∃ b114 : Addr, (some (Addr.mk r13 0 none)) = some b114 ∧ 0 ≤ x113 ∧ x113 < (((p0_n).toNat : Nat) : Int) ∧
 ∃ x115 : Int, H.rd h107 (Addr.add (Addr.add b114 ((x113).toNat * 1)) 0) (Value.int .i64 x115) ∧
 ∃ b116 : Addr, x84_h.a = some b116 ∧ 0 ≤ x115 ∧ x115 < ((x84_h.len : Nat) : Int) ∧
 H.wr h107 (Addr.add (Addr.add b116 ((x115).toNat * 6)) 3) ([(Value.int .i64 x101)]) fun h117 =>
 ∃ b118 : Addr, x35_l.a = some b118 ∧ 0 ≤ (0 : Int) ∧ (0 : Int) < ((x35_l.len : Nat) : Int) ∧
 ∃ x119 : Int, H.rd h117 (Addr.add (Addr.add b118 (((0 : Int)).toNat * 1)) 0) (Value.int .i64 x119) ∧
 ∃ b120 : Addr, (some (Addr.mk r13 0 none)) = some b120 ∧ 0 ≤ x119 ∧ x119 < (((p0_n).toNat : Nat) : Int) ∧
 ∃ x121 : Int, H.rd h117 (Addr.add (Addr.add b120 ((x119).toNat * 1)) 0) (Value.int .i64 x121) ∧
 In64 ((2 : Int) * x21_i) ∧
 In64 (((2 : Int) * x21_i) + (1 : Int)) ∧
 ∃ b122 : Addr, x84_h.a = some b122 ∧ 0 ≤ x121 ∧ x121 < ((x84_h.len : Nat) : Int) ∧
 H.wr h117 (Addr.add (Addr.add b122 ((x121).toNat * 6)) 5) ([(Value.int .i64 (((2 : Int) * x21_i) + (1 : Int)))]) fun h123 =>
 In64 (x21_i + (1 : Int)) ∧
 ∃ m18, m18 < n17 ∧ (∃ h124, Gh h123 h124 ∧ I16 m18 x84_h (x21_i + (1 : Int)) h124))) (
 In64 (x21_i + (1 : Int)) ∧
 ∃ m18, m18 < n17 ∧ (∃ h125, Gh h107 h125 ∧ I16 m18 x84_h (x21_i + (1 : Int)) h125))

def f7_J2 (p0_n : Int) (post : Value → H → Prop) (x6 : Option Addr) (r13 : Nat) (I16 : Nat → SV → Int → H → Prop) (n17 : Nat) (x21_i : Int) (x35_l : SV) (x84_h : SV) (x94 : Bool) (h95 : H) : Prop :=
 VIf x94 (
 ∃ b96 : Addr, x35_l.a = some b96 ∧ 0 ≤ (0 : Int) ∧ (0 : Int) < ((x35_l.len : Nat) : Int) ∧
 ∃ x97 : Int, H.rd h95 (Addr.add (Addr.add b96 (((0 : Int)).toNat * 1)) 0) (Value.int .i64 x97) ∧
 SemCall Go.Proofs.Try.prog 21 (List.toArray [(Value.pointer x6), (Value.int .i64 x97)]) h95 fun v98 h99 =>
 ∃ x100 : Bool, ∃ x101 : Int, ∃ x102 : Option (TypeId × Value), v98 = (Value.tuple (List.toArray [(Value.bool x100), (Value.int .i64 x101), (errV x102)])) ∧
 ∃ R103 : Bool → H → Prop, (
 isIfaceV (errV x102) = true ∧
 VIf (isNilV (errV x102)) (
 (∃ h104, Gh h99 h104 ∧ R103 x100 h104)) (
 (∃ h105, Gh h99 h105 ∧ R103 false h105))) ∧
 ∀ (_ : F) (x106 : Bool) (h107 : H), R103 x106 h107 →
 f7_J1 p0_n post r13 I16 n17 x21_i x35_l x84_h x101 x106 h107) (
 In64 (x21_i + (1 : Int)) ∧
 ∃ m18, m18 < n17 ∧ (∃ h126, Gh h95 h126 ∧ I16 m18 x84_h (x21_i + (1 : Int)) h126))

def f7_J3 (p0_n : Int) (post : Value → H → Prop) (x6 : Option Addr) (r13 : Nat) (I16 : Nat → SV → Int → H → Prop) (n17 : Nat) (x21_i : Int) (x35_l : SV) (x84_h : SV) (h85 : H) : Prop :=
 ∃ R86 : Bool → H → Prop, (
 VIf (((x35_l.len : Nat) : Int) == (1 : Int)) (
 ∃ b87 : Addr, x35_l.a = some b87 ∧ 0 ≤ (0 : Int) ∧ (0 : Int) < ((x35_l.len : Nat) : Int) ∧
 ∃ x88 : Int, H.rd h85 (Addr.add (Addr.add b87 (((0 : Int)).toNat * 1)) 0) (Value.int .i64 x88) ∧
 In64 (p0_n - (1 : Int)) ∧
 SemCall Go.Proofs.Try.prog 25 (List.toArray [(Value.int .i64 x88), (Value.int .i64 0), (Value.int .i64 (p0_n - (1 : Int)))]) h85 fun v89 h90 =>
 ∃ x91 : Bool, v89 = (Value.bool x91) ∧
 (∃ h92, Gh h90 h92 ∧ R86 x91 h92)) (
 (∃ h93, Gh h85 h93 ∧ R86 false h93))) ∧
 ∀ (_ : F) (x94 : Bool) (h95 : H), R86 x94 h95 →
 f7_J2 p0_n post x6 r13 I16 n17 x21_i x35_l x84_h x94 h95

def f7_J4 (p0_n : Int) (post : Value → H → Prop) (x6 : Option Addr) (r13 : Nat) (I16 : Nat → SV → Int → H → Prop) (n17 : Nat) (x20_h : SV) (x21_i : Int) (x35_l : SV) (x62 : Bool) (h63 : H) : Prop :=
 ∃ R64 : SV → H → Prop, (
 VIf x62 (
 ∃ b65 : Addr, x35_l.a = some b65 ∧ 0 ≤ (0 : Int) ∧ (0 : Int) < ((x35_l.len : Nat) : Int) ∧
 ∃ x66 : Int, H.rd h63 (Addr.add (Addr.add b65 (((0 : Int)).toNat * 1)) 0) (Value.int .i64 x66) ∧
 In64 (p0_n - (1 : Int)) ∧
 SemCall Go.Proofs.Try.prog 25 (List.toArray [(Value.int .i64 x66), (Value.int .i64 0), (Value.int .i64 (p0_n - (1 : Int)))]) h63 fun v67 h68 =>
 ∃ x69 : Bool, v67 = (Value.bool x69) ∧
 VIf (!x69) (
 VRet h68 (Value.bool false) post) (
 ∃ b70 : Addr, x35_l.a = some b70 ∧ 0 ≤ (0 : Int) ∧ (0 : Int) < ((x35_l.len : Nat) : Int) ∧
 ∃ x71 : Int, H.rd h68 (Addr.add (Addr.add b70 (((0 : Int)).toNat * 1)) 0) (Value.int .i64 x71) ∧
 ∃ b72 : Addr, (some (Addr.mk r13 0 none)) = some b72 ∧ 0 ≤ x71 ∧ x71 < (((p0_n).toNat : Nat) : Int) ∧
 H.wr h68 (Addr.add b72 ((x71).toNat * 1)) ([(Value.int .i64 ((x20_h.len : Nat) : Int))]) fun h73 =>
 ∃ b74 : Addr, x35_l.a = some b74 ∧ 0 ≤ (0 : Int) ∧ (0 : Int) < ((x35_l.len : Nat) : Int) ∧
 ∃ b75 : Addr, x35_l.a = some b75 ∧ 0 ≤ (1 : Int) ∧ (1 : Int) < ((x35_l.len : Nat) : Int) ∧
 In64 ((2 : Int) * x21_i) ∧
 ∃ x76 : Int, H.rd h73 (Addr.add (Addr.add b74 (((0 : Int)).toNat * 1)) 0) (Value.int .i64 x76) ∧
 ∃ x77 : Int, H.rd h73 (Addr.add (Addr.add b75 (((1 : Int)).toNat * 1)) 0) (Value.int .i64 x77) ∧
 H.new h73 [(Value.int .i64 x76), (Value.int .i64 0), (Value.int .i64 x77), (Value.int .i64 0), (Value.int .i64 ((2 : Int) * x21_i)), (Value.int .i64 0)] fun r78 h79 =>
 appVC Go.Proofs.Try.prog 44 (Value.slice x20_h.a x20_h.len x20_h.cap) (Value.slice (some (Addr.mk r78 0 none)) 1 1) h79 fun x80 h81 =>
 (∃ h82, Gh h81 h82 ∧ R64 x80 h82))) (
 (∃ h83, Gh h63 h83 ∧ R64 x20_h h83))) ∧
 ∀ (_ : F) (x84_h : SV) (h85 : H), R64 x84_h h85 →
 f7_J3 p0_n post x6 r13 I16 n17 x21_i x35_l x84_h h85

def f7_J5 (p0_n : Int) (post : Value → H → Prop) (x6 : Option Addr) (r13 : Nat) (I16 : Nat → SV → Int → H → Prop) (n17 : Nat) (x20_h : SV) (x21_i : Int) (x35_l : SV) (h36 : H) : Prop :=
 ∃ R37 : Bool → H → Prop, (
 VIf (((x35_l.len : Nat) : Int) == (2 : Int)) (
 VIf (decide (x21_i < (140 : Int))) (
 VIf (decide (((x20_h.len : Nat) : Int) < (8 : Int))) (
 ∃ b38 : Addr, x35_l.a = some b38 ∧ 0 ≤ (0 : Int) ∧ (0 : Int) < ((x35_l.len : Nat) : Int) ∧
 ∃ x39 : Int, H.rd h36 (Addr.add (Addr.add b38 (((0 : Int)).toNat * 1)) 0) (Value.int .i64 x39) ∧
 ∃ b40 : Addr, x35_l.a = some b40 ∧ 0 ≤ (1 : Int) ∧ (1 : Int) < ((x35_l.len : Nat) : Int) ∧
 ∃ x41 : Int, H.rd h36 (Addr.add (Addr.add b40 (((1 : Int)).toNat * 1)) 0) (Value.int .i64 x41) ∧
 VIf true (
 SemCall Go.Proofs.Try.prog 20 (List.toArray [(Value.pointer x6), (Value.int .i64 x39), (Value.int .i64 x41)]) h36 fun v42 h43 =>
 ∃ x44 : Option (TypeId × Value), v42 = (errV x44) ∧
 isIfaceV (errV x44) = true ∧
 (∃ h45, Gh h43 h45 ∧ R37 (isNilV (errV x44)) h45)) (
 (∃ h46, Gh h36 h46 ∧ R37 false h46))) (
 VIf false (
 SemCall Go.Proofs.Try.prog 20 (List.toArray [undef, undef, undef]) h36 fun v47 h48 =>
 ∃ x49 : Option (TypeId × Value), v47 = (errV x49) ∧
 isIfaceV (errV x49) = true ∧
 (∃ h50, Gh h48 h50 ∧ R37 (isNilV (errV x49)) h50)) (
 (∃ h51, Gh h36 h51 ∧ R37 false h51)))) (
 VIf false (
 SemCall Go.Proofs.Try.prog 20 (List.toArray [undef, undef, undef]) h36 fun v52 h53 =>
 ∃ x54 : Option (TypeId × Value), v52 = (errV x54) ∧
 isIfaceV (errV x54) = true ∧
 (∃ h55, Gh h53 h55 ∧ R37 (isNilV (errV x54)) h55)) (
 (∃ h56, Gh h36 h56 ∧ R37 false h56)))) (
 VIf false (
 SemCall Go.Proofs.Try.prog 20 (List.toArray [undef, undef, undef]) h36 fun v57 h58 =>
 ∃ x59 : Option (TypeId × Value), v57 = (errV x59) ∧
 isIfaceV (errV x59) = true ∧
 (∃ h60, Gh h58 h60 ∧ R37 (isNilV (errV x59)) h60)) (
 (∃ h61, Gh h36 h61 ∧ R37 false h61)))) ∧
 ∀ (_ : F) (x62 : Bool) (h63 : H), R37 x62 h63 →
 f7_J4 p0_n post x6 r13 I16 n17 x20_h x21_i x35_l x62 h63

def f7_L6 (p0_n : Int) (p1_steps : SV) (post : Value → H → Prop) (x6 : Option Addr) (r13 : Nat) (R15 : SV → H → Prop) (I16 : Nat → SV → Int → H → Prop) (n17 : Nat) (x20_h : SV) (x21_i : Int) (h22 : H) : Prop :=
 VIf (decide (x21_i < (240 : Int))) (
 p0_n ≠ 0 ∧
 H.new h22 [(Value.int .i64 (Int.tmod x21_i p0_n))] fun r23 h24 =>
 ∃ R25 : Bool → H → Prop, (
 VIf (decide (x21_i < ((p1_steps.len : Nat) : Int))) (
 (∃ h26, Gh h24 h26 ∧ R25 (decide (x21_i < (140 : Int))) h26)) (
 (∃ h27, Gh h24 h27 ∧ R25 false h27))) ∧
 ∀ (_ : F) (x28 : Bool) (h29 : H), R25 x28 h29 →
 ∃ R30 : SV → H → Prop, (
 VIf x28 (
 ∃ b31 : Addr, p1_steps.a = some b31 ∧ 0 ≤ x21_i ∧ x21_i < ((p1_steps.len : Nat) : Int) ∧
 ∃ x32 : SV, H.rd h29 (Addr.add (Addr.add b31 ((x21_i).toNat * 1)) 0) (Value.slice x32.a x32.len x32.cap) ∧
 (∃ h33, Gh h29 h33 ∧ R30 x32 h33)) (
 (∃ h34, Gh h29 h34 ∧ R30 (SV.mk (some (Addr.mk r23 0 none)) 1 1) h34))) ∧
 ∀ (_ : F) (x35_l : SV) (h36 : H), R30 x35_l h36 →
 f7_J5 p0_n post x6 r13 I16 n17 x20_h x21_i x35_l h36) (
 (∃ h127, Gh h22 h127 ∧ R15 x20_h h127))

def f7_sem (p0_n : Int) (p1_steps : SV) (h0 : H) (post : Value → H → Prop) : Prop :=
 SemCall Go.Proofs.Try.prog 24 (List.toArray []) h0 fun v1 h2 =>
 ∃ x3 : Bool, v1 = (Value.bool x3) ∧
 VIf (!x3) (
 VRet h2 (Value.bool false) post) (
 SemCall Go.Proofs.Try.prog 18 (List.toArray [(Value.int .i64 p0_n)]) h2 fun v4 h5 =>
 ∃ x6 : Option Addr, ∃ x7 : Option (TypeId × Value), v4 = (Value.tuple (List.toArray [(Value.pointer x6), (errV x7)])) ∧
 isIfaceV (errV x7) = true ∧
 VIf (!(isNilV (errV x7))) (
 ∃ R8 : Bool → H → Prop, (
 VIf (decide (p0_n < (1 : Int))) (
 (∃ h9, Gh h5 h9 ∧ R8 true h9)) (
 (∃ h10, Gh h5 h10 ∧ R8 (decide (p0_n > (4 : Int))) h10))) ∧
 ∀ (_ : F) (x11 : Bool) (h12 : H), R8 x11 h12 →
 VRet h12 (Value.bool x11) post) (
 0 ≤ p0_n ∧ p0_n ≤ p0_n ∧ ((8 : Nat) : Int) * p0_n ≤ 140737488355328 ∧ p0_n ≤ 1000000000 ∧
 H.new h5 (repl (p0_n).toNat [(Value.int .i64 0)]) fun r13 h14 =>
 ∃ R15 : SV → H → Prop, (
 ∃ I16 : Nat → SV → Int → H → Prop, (∃ n17, (∃ h19, Gh h14 h19 ∧ I16 n17 (SV.mk none 0 0) (0 : Int) h19)) ∧
 ∀ (n17 : Nat) (_ : F) (x20_h : SV) (x21_i : Int) (h22 : H), I16 n17 x20_h x21_i h22 →
 f7_L6 p0_n p1_steps post x6 r13 R15 I16 n17 x20_h x21_i h22) ∧
 ∀ (_ : F) (x128_h : SV) (h129 : H), R15 x128_h h129 →
 SemCall Go.Proofs.Try.prog 26 (List.toArray [(Value.int .i64 0), (Value.slice x128_h.a x128_h.len x128_h.cap)]) h129 fun v130 h131 =>
 ∃ x132 : Bool, v130 = (Value.bool x132) ∧
 VRet h131 (Value.bool x132) post))

def f7_hint : Hint := (.node .leaf (.node .leaf (.node .leaf (.node .leaf (.node (.node .leaf (.node (.node (.join [(4, .bool)] .leaf) .leaf) .leaf)) (.node .leaf (.node .leaf (.node (.node .leaf (.join [(9, .sl)] (.node (.loop [(9, .sl), (10, .int)] (.node .leaf (.node (.node (.node .leaf (.node (.node (.join [(48, .bool)] .leaf) (.join [(11, .sl)] .leaf)) (.node (.node (.join [(75, .bool)] (.tail 20)) (.join [(9, .sl)] (.node (.node .leaf (.node .leaf .lex)) .leaf))) (.node (.join [(112, .bool)] .leaf) (.node (.node .leaf (.node (.join [(126, .bool)] .leaf) .leaf)) .leaf))))) .leaf) .leaf))) .leaf))) .leaf))))))))

theorem f7_eq (p0_n : Int) (p1_steps : SV) (h0 : H) (post : Value → H → Prop) : exec Try.prog (bodyOf Try.f7) f7_hint (retQ Try.prog Try.f7 post) (F0 [(Value.int .i64 p0_n), (Value.slice p1_steps.a p1_steps.len p1_steps.cap)]) h0 = f7_sem p0_n p1_steps h0 post := by kernel_rfl

set_option maxRecDepth 20000 in
theorem f7_call (p0_n : Int) (p1_steps : SV) (h0 : H) (post : Value → H → Prop) (hx : f7_sem p0_n p1_steps h0 post) : SemCall Try.prog 7 (List.toArray [(Value.int .i64 p0_n), (Value.slice p1_steps.a p1_steps.len p1_steps.cap)]) h0 post :=
 sem_of_exec (g := f7_hint) mixed Try.func7 (bodyOf_eq (by kernel_rfl)) (by kernel_rfl) ((f7_eq p0_n p1_steps h0 post).mpr hx)

/- latchgarth/latchgarthlaw3.row -/
def f26_sem (p0_object : Int) (p1_h : SV) (h0 : H) (post : Value → H → Prop) : Prop :=
 SemCall Go.Proofs.Try.prog 22 (List.toArray [(Value.int .i64 p0_object), (Value.slice p1_h.a p1_h.len p1_h.cap)]) h0 fun v1 h2 =>
 ∃ x3 : Bool, ∃ x4 : SV, ∃ x5 : Option (TypeId × Value), v1 = (Value.tuple (List.toArray [(Value.bool x3), (Value.slice x4.a x4.len x4.cap), (errV x5)])) ∧
 ∃ R6 : Bool → H → Prop, (
 isIfaceV (errV x5) = true ∧
 VIf (isNilV (errV x5)) (
 (∃ h7, Gh h2 h7 ∧ R6 x3 h7)) (
 (∃ h8, Gh h2 h8 ∧ R6 false h8))) ∧
 ∀ (_ : F) (x9 : Bool) (h10 : H), R6 x9 h10 →
 VRet h10 (Value.bool x9) post

def f26_hint : Hint := (.node .leaf (.node .leaf (.node (.join [(4, .bool)] .leaf) .leaf)))

theorem f26_eq (p0_object : Int) (p1_h : SV) (h0 : H) (post : Value → H → Prop) : exec Try.prog (bodyOf Try.f26) f26_hint (retQ Try.prog Try.f26 post) (F0 [(Value.int .i64 p0_object), (Value.slice p1_h.a p1_h.len p1_h.cap)]) h0 = f26_sem p0_object p1_h h0 post := by kernel_rfl

set_option maxRecDepth 20000 in
theorem f26_call (p0_object : Int) (p1_h : SV) (h0 : H) (post : Value → H → Prop) (hx : f26_sem p0_object p1_h h0 post) : SemCall Try.prog 26 (List.toArray [(Value.int .i64 p0_object), (Value.slice p1_h.a p1_h.len p1_h.cap)]) h0 post :=
 sem_of_exec (g := f26_hint) mixed Try.func26 (bodyOf_eq (by kernel_rfl)) (by kernel_rfl) ((f26_eq p0_object p1_h h0 post).mpr hx)

end Go.Proofs.Ytockhbbpcbcenaa
