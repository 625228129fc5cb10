import Derived.Test.YtnepjdobknjecaaEngG
import Derived.Test.YtnepjdobknjecaaRows
namespace Go.Proofs.Ytnepjdobknjecaa
open Go.Eng
theorem mixed : Try.prog.follows .mixedOrders = true := by kernel_rfl
/- latchgarth/latchgarthlaw4.LinRow -/
def f3_L1 (p2_row : SV) (post : Value → H → Prop) (x7 : SV) (R30 : H → Prop) (I31 : Nat → Int → H → Prop) (n32 : Nat) (x35_k : Int) (h36 : H) : Prop :=
 VIf (decide (x35_k < ((x7.len : Nat) : Int))) (
 ∃ b37 : Addr, x7.a = some b37 ∧ 0 ≤ x35_k ∧ x35_k < ((x7.len : Nat) : Int) ∧
 ∃ x38 : Int, H.rd h36 (Addr.add (Addr.add b37 ((x35_k).toNat * 1)) 0) (Value.int .i64 x38) ∧
 ∃ b39 : Addr, p2_row.a = some b39 ∧ 0 ≤ x35_k ∧ x35_k < ((p2_row.len : Nat) : Int) ∧
 ∃ x40 : Int, H.rd h36 (Addr.add (Addr.add b39 ((x35_k).toNat * 1)) 0) (Value.int .i64 x40) ∧
 VIf (x38 != x40) (
 ∃ b41 : Addr, x7.a = some b41 ∧ 0 ≤ x35_k ∧ x35_k < ((x7.len : Nat) : Int) ∧
 ∃ x42 : Int, H.rd h36 (Addr.add (Addr.add b41 ((x35_k).toNat * 1)) 0) (Value.int .i64 x42) ∧
 ∃ b43 : Addr, p2_row.a = some b43 ∧ 0 ≤ x35_k ∧ x35_k < ((p2_row.len : Nat) : Int) ∧
 ∃ x44 : Int, H.rd h36 (Addr.add (Addr.add b43 ((x35_k).toNat * 1)) 0) (Value.int .i64 x44) ∧
 VRet h36 (Value.bool (decide (x42 < x44))) post) (
 In64 (x35_k + (1 : Int)) ∧
 ∃ m33, m33 < n32 ∧ (∃ h45, Gh h36 h45 ∧ I31 m33 (x35_k + (1 : Int)) h45))) (
 (∃ h46, Gh h36 h46 ∧ R30 h46))

def f3_J2 (p0_object : Int) (p1_h : SV) (p2_row : SV) (post : Value → H → Prop) (x6 : Bool) (x7 : SV) (x20 : Bool) (h21 : H) : Prop :=
 VIf x20 (
 VRet h21 (Value.bool false) post) (
 SemCall Go.Proofs.Try.prog 8 (List.toArray [(Value.int .i64 p0_object), (Value.slice p1_h.a p1_h.len p1_h.cap), (Value.slice p2_row.a p2_row.len p2_row.cap)]) h21 fun v22 h23 =>
 ∃ x24 : Bool, v22 = (Value.bool x24) ∧
 VIf (!x24) (
 ∃ R25 : Bool → H → Prop, (
 VIf x6 (
 (∃ h26, Gh h23 h26 ∧ R25 true h26)) (
 (∃ h27, Gh h23 h27 ∧ R25 (((x7.len : Nat) : Int) == (0 : Int)) h27))) ∧
 ∀ (_ : F) (x28 : Bool) (h29 : H), R25 x28 h29 →
 VRet h29 (Value.bool x28) post) (
 VIf (!x6) (
 VRet h23 (Value.bool false) post) (
 ∃ R30 : H → Prop, (
 ∃ I31 : Nat → Int → H → Prop, (∃ n32, (∃ h34, Gh h23 h34 ∧ I31 n32 (0 : Int) h34)) ∧
 ∀ (n32 : Nat) (_ : F) (x35_k : Int) (h36 : H), I31 n32 x35_k h36 →
 f3_L1 p2_row post x7 R30 I31 n32 x35_k h36) ∧
 ∀ (_ : F) (h47 : H), R30 h47 →
 VRet h47 (Value.bool true) post)))

def f3_sem (p0_object : Int) (p1_h : SV) (p2_row : SV) (h0 : H) (post : Value → H → Prop) : Prop :=
 SemCall Go.Proofs.Try.prog 6 (List.toArray []) h0 fun v1 h2 =>
 ∃ x3 : Bool, v1 = (Value.bool x3) ∧
 VIf (!x3) (
 VRet h2 (Value.bool false) post) (
 SemCall Go.Proofs.Try.prog 7 (List.toArray [(Value.int .i64 p0_object), (Value.slice p1_h.a p1_h.len p1_h.cap)]) h2 fun v4 h5 =>
 ∃ x6 : Bool, ∃ x7 : SV, ∃ x8 : Option (TypeId × Value), v4 = (Value.tuple (List.toArray [(Value.bool x6), (Value.slice x7.a x7.len x7.cap), (errV x8)])) ∧
 isIfaceV (errV x8) = true ∧
 VIf (!(isNilV (errV x8))) (
 ∃ R9 : Bool → H → Prop, (
 VIf (!x6) (
 (∃ h10, Gh h5 h10 ∧ R9 (((x7.len : Nat) : Int) == (0 : Int)) h10)) (
 (∃ h11, Gh h5 h11 ∧ R9 false h11))) ∧
 ∀ (_ : F) (x12 : Bool) (h13 : H), R9 x12 h13 →
 VRet h13 (Value.bool x12) post) (
 ∃ R14 : Bool → H → Prop, (
 VIf x6 (
 SemCall Go.Proofs.Try.prog 8 (List.toArray [(Value.int .i64 p0_object), (Value.slice p1_h.a p1_h.len p1_h.cap), (Value.slice x7.a x7.len x7.cap)]) h5 fun v15 h16 =>
 ∃ x17 : Bool, v15 = (Value.bool x17) ∧
 (∃ h18, Gh h16 h18 ∧ R14 (!x17) h18)) (
 (∃ h19, Gh h5 h19 ∧ R14 false h19))) ∧
 ∀ (_ : F) (x20 : Bool) (h21 : H), R14 x20 h21 →
 f3_J2 p0_object p1_h p2_row post x6 x7 x20 h21))

def f3_hint : Hint := (.node .leaf (.node .leaf (.node .leaf (.node .leaf (.node (.node .leaf (.node (.node (.join [(6, .bool)] .leaf) .leaf) .leaf)) (.node (.node (.join [(38, .bool)] .leaf) .leaf) (.node (.node .leaf (.node (.node (.join [(6, .bool)] .leaf) .leaf) .leaf)) (.node .leaf (.node (.node .leaf (.join [] (.node (.loop [(11, .int)] .leaf) .leaf))) .leaf)))))))))

theorem f3_eq (p0_object : Int) (p1_h : SV) (p2_row : SV) (h0 : H) (post : Value → H → Prop) : exec Try.prog (bodyOf Try.f3) f3_hint (retQ Try.prog Try.f3 post) (F0 [(Value.int .i64 p0_object), (Value.slice p1_h.a p1_h.len p1_h.cap), (Value.slice p2_row.a p2_row.len p2_row.cap)]) h0 = f3_sem p0_object p1_h p2_row h0 post := by kernel_rfl

set_option maxRecDepth 20000 in
theorem f3_call (p0_object : Int) (p1_h : SV) (p2_row : SV) (h0 : H) (post : Value → H → Prop) (hx : f3_sem p0_object p1_h p2_row h0 post) : SemCall Try.prog 3 (List.toArray [(Value.int .i64 p0_object), (Value.slice p1_h.a p1_h.len p1_h.cap), (Value.slice p2_row.a p2_row.len p2_row.cap)]) h0 post :=
 sem_of_exec (g := f3_hint) mixed Try.func3 (bodyOf_eq (by kernel_rfl)) (by kernel_rfl) ((f3_eq p0_object p1_h p2_row h0 post).mpr hx)

/- latchgarth/latchgarthlaw4.LinPart -/
def f4_L1 (p1_h : SV) (x7 : SV) (R20 : SV → H → Prop) (I21 : Nat → SV → Int → H → Prop) (n22 : Nat) (x25_less : SV) (x26_i : Int) (h27 : H) : Prop :=
 VIf (decide (x26_i < ((p1_h.len : Nat) : Int))) (
 In64 (((x7.len : Nat) : Int) - (1 : Int)) ∧
 ∃ b28 : Addr, x7.a = some b28 ∧ 0 ≤ (((x7.len : Nat) : Int) - (1 : Int)) ∧ (((x7.len : Nat) : Int) - (1 : Int)) < ((x7.len : Nat) : Int) ∧
 ∃ x29 : Int, H.rd h27 (Addr.add (Addr.add b28 (((((x7.len : Nat) : Int) - (1 : Int))).toNat * 1)) 0) (Value.int .i64 x29) ∧
 VIf (x26_i != x29) (
 ∃ b30 : Addr, p1_h.a = some b30 ∧ 0 ≤ x26_i ∧ x26_i < ((p1_h.len : Nat) : Int) ∧
 ∃ x31 : Int, H.rd h27 (Addr.add (Addr.add b30 ((x26_i).toNat * 6)) 0) (Value.int .i64 x31) ∧
 ∃ x32 : Int, H.rd h27 (Addr.add (Addr.add b30 ((x26_i).toNat * 6)) 1) (Value.int .i64 x32) ∧
 ∃ x33 : Int, H.rd h27 (Addr.add (Addr.add b30 ((x26_i).toNat * 6)) 2) (Value.int .i64 x33) ∧
 ∃ x34 : Int, H.rd h27 (Addr.add (Addr.add b30 ((x26_i).toNat * 6)) 3) (Value.int .i64 x34) ∧
 ∃ x35 : Int, H.rd h27 (Addr.add (Addr.add b30 ((x26_i).toNat * 6)) 4) (Value.int .i64 x35) ∧
 ∃ x36 : Int, H.rd h27 (Addr.add (Addr.add b30 ((x26_i).toNat * 6)) 5) (Value.int .i64 x36) ∧
 H.new h27 [(Value.int .i64 x31), (Value.int .i64 x32), (Value.int .i64 x33), (Value.int .i64 x34), (Value.int .i64 x35), (Value.int .i64 x36)] fun r37 h38 =>
 appVC Go.Proofs.Try.prog 22 (Value.slice x25_less.a x25_less.len x25_less.cap) (Value.slice (some (Addr.mk r37 0 none)) 1 1) h38 fun x39 h40 =>
 In64 (x26_i + (1 : Int)) ∧
 ∃ m23, m23 < n22 ∧ (∃ h41, Gh h40 h41 ∧ I21 m23 x39 (x26_i + (1 : Int)) h41)) (
 In64 (x26_i + (1 : Int)) ∧
 ∃ m23, m23 < n22 ∧ (∃ h42, Gh h27 h42 ∧ I21 m23 x25_less (x26_i + (1 : Int)) h42))) (
 (∃ h43, Gh h27 h43 ∧ R20 x25_less h43))

def f4_J2 (p0_object : Int) (post : Value → H → Prop) (R14 : H → Prop) (x44_less : SV) (h45 : H) : Prop :=
 SemCall Go.Proofs.Try.prog 7 (List.toArray [(Value.int .i64 p0_object), (Value.slice x44_less.a x44_less.len x44_less.cap)]) h45 fun v46 h47 =>
 ∃ x48 : Bool, ∃ x49 : SV, ∃ x50 : Option (TypeId × Value), v46 = (Value.tuple (List.toArray [(Value.bool x48), (Value.slice x49.a x49.len x49.cap), (errV x50)])) ∧
 ∃ R51 : Bool → H → Prop, (
 isIfaceV (errV x50) = true ∧
 VIf (!(isNilV (errV x50))) (
 (∃ h52, Gh h47 h52 ∧ R51 true h52)) (
 (∃ h53, Gh h47 h53 ∧ R51 (!x48) h53))) ∧
 ∀ (_ : F) (x54 : Bool) (h55 : H), R51 x54 h55 →
 VIf x54 (
 VRet h55 (Value.bool false) post) (
 (∃ h56, Gh h55 h56 ∧ R14 h56))

def f4_L3 (p1_h : SV) (p2_time : Int) (post : Value → H → Prop) (R59 : H → Prop) (I60 : Nat → Int → H → Prop) (n61 : Nat) (x64_i : Int) (h65 : H) : Prop :=
 VIf (decide (x64_i < ((p1_h.len : Nat) : Int))) (
 ∃ R66 : Bool → H → Prop, (
 ∃ b67 : Addr, p1_h.a = some b67 ∧ 0 ≤ x64_i ∧ x64_i < ((p1_h.len : Nat) : Int) ∧
 ∃ x68 : Int, H.rd h65 (Addr.add (Addr.add (Addr.add b67 ((x64_i).toNat * 6)) 4) 0) (Value.int .i64 x68) ∧
 VIf (decide (x68 < p2_time)) (
 ∃ b69 : Addr, p1_h.a = some b69 ∧ 0 ≤ x64_i ∧ x64_i < ((p1_h.len : Nat) : Int) ∧
 ∃ x70 : Int, H.rd h65 (Addr.add (Addr.add (Addr.add b69 ((x64_i).toNat * 6)) 5) 0) (Value.int .i64 x70) ∧
 (∃ h71, Gh h65 h71 ∧ R66 (decide (x70 > p2_time)) h71)) (
 (∃ h72, Gh h65 h72 ∧ R66 false h72))) ∧
 ∀ (_ : F) (x73 : Bool) (h74 : H), R66 x73 h74 →
 VIf x73 (
 VRet h74 (Value.bool true) post) (
 In64 (x64_i + (1 : Int)) ∧
 ∃ m62, m62 < n61 ∧ (∃ h75, Gh h74 h75 ∧ I60 m62 (x64_i + (1 : Int)) h75))) (
 (∃ h76, Gh h65 h76 ∧ R59 h76))

def f4_L4 (p1_h : SV) (p2_time : Int) (R78 : SV → H → Prop) (I79 : Nat → SV → Int → H → Prop) (n80 : Nat) (x83_early : SV) (x84_i : Int) (h85 : H) : Prop :=
 VIf (decide (x84_i < ((p1_h.len : Nat) : Int))) (
 ∃ b86 : Addr, p1_h.a = some b86 ∧ 0 ≤ x84_i ∧ x84_i < ((p1_h.len : Nat) : Int) ∧
 ∃ x87 : Int, H.rd h85 (Addr.add (Addr.add (Addr.add b86 ((x84_i).toNat * 6)) 5) 0) (Value.int .i64 x87) ∧
 VIf (decide (x87 ≤ p2_time)) (
 ∃ b88 : Addr, p1_h.a = some b88 ∧ 0 ≤ x84_i ∧ x84_i < ((p1_h.len : Nat) : Int) ∧
 ∃ x89 : Int, H.rd h85 (Addr.add (Addr.add b88 ((x84_i).toNat * 6)) 0) (Value.int .i64 x89) ∧
 ∃ x90 : Int, H.rd h85 (Addr.add (Addr.add b88 ((x84_i).toNat * 6)) 1) (Value.int .i64 x90) ∧
 ∃ x91 : Int, H.rd h85 (Addr.add (Addr.add b88 ((x84_i).toNat * 6)) 2) (Value.int .i64 x91) ∧
 ∃ x92 : Int, H.rd h85 (Addr.add (Addr.add b88 ((x84_i).toNat * 6)) 3) (Value.int .i64 x92) ∧
 ∃ x93 : Int, H.rd h85 (Addr.add (Addr.add b88 ((x84_i).toNat * 6)) 4) (Value.int .i64 x93) ∧
 ∃ x94 : Int, H.rd h85 (Addr.add (Addr.add b88 ((x84_i).toNat * 6)) 5) (Value.int .i64 x94) ∧
 H.new h85 [(Value.int .i64 x89), (Value.int .i64 x90), (Value.int .i64 x91), (Value.int .i64 x92), (Value.int .i64 x93), (Value.int .i64 x94)] fun r95 h96 =>
 appVC Go.Proofs.Try.prog 22 (Value.slice x83_early.a x83_early.len x83_early.cap) (Value.slice (some (Addr.mk r95 0 none)) 1 1) h96 fun x97 h98 =>
 In64 (x84_i + (1 : Int)) ∧
 ∃ m81, m81 < n80 ∧ (∃ h99, Gh h98 h99 ∧ I79 m81 x97 (x84_i + (1 : Int)) h99)) (
 In64 (x84_i + (1 : Int)) ∧
 ∃ m81, m81 < n80 ∧ (∃ h100, Gh h85 h100 ∧ I79 m81 x83_early (x84_i + (1 : Int)) h100))) (
 (∃ h101, Gh h85 h101 ∧ R78 x83_early h101))

def f4_J5 (p0_object : Int) (p1_h : SV) (p2_time : Int) (post : Value → H → Prop) (h77 : H) : Prop :=
 ∃ R78 : SV → H → Prop, (
 ∃ I79 : Nat → SV → Int → H → Prop, (∃ n80, (∃ h82, Gh h77 h82 ∧ I79 n80 (SV.mk none 0 0) (0 : Int) h82)) ∧
 ∀ (n80 : Nat) (_ : F) (x83_early : SV) (x84_i : Int) (h85 : H), I79 n80 x83_early x84_i h85 →
 f4_L4 p1_h p2_time R78 I79 n80 x83_early x84_i h85) ∧
 ∀ (_ : F) (x102_early : SV) (h103 : H), R78 x102_early h103 →
 SemCall Go.Proofs.Try.prog 7 (List.toArray [(Value.int .i64 p0_object), (Value.slice x102_early.a x102_early.len x102_early.cap)]) h103 fun v104 h105 =>
 ∃ x106 : Bool, ∃ x107 : SV, ∃ x108 : Option (TypeId × Value), v104 = (Value.tuple (List.toArray [(Value.bool x106), (Value.slice x107.a x107.len x107.cap), (errV x108)])) ∧
 ∃ R109 : Bool → H → Prop, (
 isIfaceV (errV x108) = true ∧
 VIf (isNilV (errV x108)) (
 (∃ h110, Gh h105 h110 ∧ R109 x106 h110)) (
 (∃ h111, Gh h105 h111 ∧ R109 false h111))) ∧
 ∀ (_ : F) (x112 : Bool) (h113 : H), R109 x112 h113 →
 VRet h113 (Value.bool x112) post

def f4_J6 (p0_object : Int) (p1_h : SV) (p2_time : Int) (post : Value → H → Prop) (x7 : SV) (x12 : Bool) (h13 : H) : Prop :=
 VIf x12 (
 VRet h13 (Value.bool (((x7.len : Nat) : Int) == (0 : Int))) post) (
 ∃ R14 : H → Prop, (
 VIf (decide (((x7.len : Nat) : Int) > (0 : Int))) (
 In64 (((x7.len : Nat) : Int) - (1 : Int)) ∧
 ∃ b15 : Addr, x7.a = some b15 ∧ 0 ≤ (((x7.len : Nat) : Int) - (1 : Int)) ∧ (((x7.len : Nat) : Int) - (1 : Int)) < ((x7.len : Nat) : Int) ∧
 ∃ x16 : Int, H.rd h13 (Addr.add (Addr.add b15 (((((x7.len : Nat) : Int) - (1 : Int))).toNat * 1)) 0) (Value.int .i64 x16) ∧
 In64 (((p1_h.len : Nat) : Int) - (1 : Int)) ∧
 SemCall Go.Proofs.Try.prog 9 (List.toArray [(Value.int .i64 x16), (Value.int .i64 0), (Value.int .i64 (((p1_h.len : Nat) : Int) - (1 : Int)))]) h13 fun v17 h18 =>
 ∃ x19 : Bool, v17 = (Value.bool x19) ∧
 VIf (!x19) (
 VRet h18 (Value.bool false) post) (
 ∃ R20 : SV → H → Prop, (
 ∃ I21 : Nat → SV → Int → H → Prop, (∃ n22, (∃ h24, Gh h18 h24 ∧ I21 n22 (SV.mk none 0 0) (0 : Int) h24)) ∧
 ∀ (n22 : Nat) (_ : F) (x25_less : SV) (x26_i : Int) (h27 : H), I21 n22 x25_less x26_i h27 →
 f4_L1 p1_h x7 R20 I21 n22 x25_less x26_i h27) ∧
 ∀ (_ : F) (x44_less : SV) (h45 : H), R20 x44_less h45 →
 f4_J2 p0_object post R14 x44_less h45)) (
 (∃ h57, Gh h13 h57 ∧ R14 h57))) ∧
 ∀ (_ : F) (h58 : H), R14 h58 →
 ∃ R59 : H → Prop, (
 ∃ I60 : Nat → Int → H → Prop, (∃ n61, (∃ h63, Gh h58 h63 ∧ I60 n61 (0 : Int) h63)) ∧
 ∀ (n61 : Nat) (_ : F) (x64_i : Int) (h65 : H), I60 n61 x64_i h65 →
 f4_L3 p1_h p2_time post R59 I60 n61 x64_i h65) ∧
 ∀ (_ : F) (h77 : H), R59 h77 →
 f4_J5 p0_object p1_h p2_time post h77)

def f4_sem (p0_object : Int) (p1_h : SV) (p2_time : Int) (h0 : H) (post : Value → H → Prop) : Prop :=
 SemCall Go.Proofs.Try.prog 6 (List.toArray []) h0 fun v1 h2 =>
 ∃ x3 : Bool, v1 = (Value.bool x3) ∧
 VIf (!x3) (
 VRet h2 (Value.bool false) post) (
 SemCall Go.Proofs.Try.prog 7 (List.toArray [(Value.int .i64 p0_object), (Value.slice p1_h.a p1_h.len p1_h.cap)]) h2 fun v4 h5 =>
 ∃ x6 : Bool, ∃ x7 : SV, ∃ x8 : Option (TypeId × Value), v4 = (Value.tuple (List.toArray [(Value.bool x6), (Value.slice x7.a x7.len x7.cap), (errV x8)])) ∧
 ∃ R9 : Bool → H → Prop, (
 isIfaceV (errV x8) = true ∧
 VIf (!(isNilV (errV x8))) (
 (∃ h10, Gh h5 h10 ∧ R9 true h10)) (
 (∃ h11, Gh h5 h11 ∧ R9 (!x6) h11))) ∧
 ∀ (_ : F) (x12 : Bool) (h13 : H), R9 x12 h13 →
 f4_J6 p0_object p1_h p2_time post x7 x12 h13)

def f4_hint : Hint := (.node .leaf (.node .leaf (.node .leaf (.node .leaf (.node (.node (.join [(37, .bool)] .leaf) .leaf) (.node (.node .leaf (.join [] (.node (.node .leaf (.node .leaf (.node (.node .leaf (.join [(11, .sl)] (.node (.loop [(11, .sl), (12, .int)] .leaf) .leaf))) (.node .leaf (.node (.join [(88, .bool)] .leaf) .leaf))))) .leaf))) (.node (.node .leaf (.join [] (.node (.loop [(16, .int)] (.node .leaf (.node (.node (.node (.join [(110, .bool)] .leaf) .leaf) .leaf) .leaf))) .leaf))) (.node .leaf (.node (.node .leaf (.join [(17, .sl)] (.node (.loop [(17, .sl), (18, .int)] .leaf) .leaf))) (.node .leaf (.node (.join [(6, .bool)] .leaf) .leaf)))))))))))

theorem f4_eq (p0_object : Int) (p1_h : SV) (p2_time : Int) (h0 : H) (post : Value → H → Prop) : exec Try.prog (bodyOf Try.f4) f4_hint (retQ Try.prog Try.f4 post) (F0 [(Value.int .i64 p0_object), (Value.slice p1_h.a p1_h.len p1_h.cap), (Value.int .i64 p2_time)]) h0 = f4_sem p0_object p1_h p2_time h0 post := by kernel_rfl

set_option maxRecDepth 20000 in
theorem f4_call (p0_object : Int) (p1_h : SV) (p2_time : Int) (h0 : H) (post : Value → H → Prop) (hx : f4_sem p0_object p1_h p2_time h0 post) : SemCall Try.prog 4 (List.toArray [(Value.int .i64 p0_object), (Value.slice p1_h.a p1_h.len p1_h.cap), (Value.int .i64 p2_time)]) h0 post :=
 sem_of_exec (g := f4_hint) mixed Try.func4 (bodyOf_eq (by kernel_rfl)) (by kernel_rfl) ((f4_eq p0_object p1_h p2_time h0 post).mpr hx)

/- latchgarth/latchgarthlaw4.LinAlone -/
def f5_J1 (p0_object : Int) (p1_kinds : SV) (p2_args : SV) (post : Value → H → Prop) (I17 : Nat → SV → SV → SV → Int → H → Prop) (n18 : Nat) (x21_has : SV) (x22_h : SV) (x23_want : SV) (x24_i : Int) (x45 : Bool) (h46 : H) : Prop :=
 VIf x45 (
 VRet h46 (Value.bool true) post) (
 ∃ b47 : Addr, p1_kinds.a = some b47 ∧ 0 ≤ x24_i ∧ x24_i < ((p1_kinds.len : Nat) : Int) ∧
 ∃ b48 : Addr, p2_args.a = some b48 ∧ 0 ≤ x24_i ∧ x24_i < ((p2_args.len : Nat) : Int) ∧
 In64 ((2 : Int) * x24_i) ∧
 In64 ((2 : Int) * x24_i) ∧
 In64 (((2 : Int) * x24_i) + (1 : Int)) ∧
 ∃ x49 : Int, H.rd h46 (Addr.add (Addr.add b47 ((x24_i).toNat * 1)) 0) (Value.int .i64 x49) ∧
 ∃ x50 : Int, H.rd h46 (Addr.add (Addr.add b48 ((x24_i).toNat * 1)) 0) (Value.int .i64 x50) ∧
 H.new h46 [(Value.int .i64 0), (Value.int .i64 0), (Value.int .i64 0), (Value.int .i64 0), (Value.int .i64 0), (Value.int .i64 0)] fun r51 h52 =>
 ([(Value.int .i64 0), (Value.int .i64 x49), (Value.int .i64 x50), (Value.int .i64 0), (Value.int .i64 ((2 : Int) * x24_i)), (Value.int .i64 (((2 : Int) * x24_i) + (1 : Int)))]).length = 6 ∧ (Program.underlying Go.Proofs.Try.prog 32).isSome = true ∧
 H.wr h52 (Addr.mk r51 0 none) ([(Value.int .i64 0), (Value.int .i64 x49), (Value.int .i64 x50), (Value.int .i64 0), (Value.int .i64 ((2 : Int) * x24_i)), (Value.int .i64 (((2 : Int) * x24_i) + (1 : Int)))]) fun h53 =>
 ∃ x54 : Int, H.rd h53 (Addr.add (Addr.mk r51 0 none) 0) (Value.int .i64 x54) ∧
 ∃ x55 : Int, H.rd h53 (Addr.add (Addr.mk r51 0 none) 1) (Value.int .i64 x55) ∧
 ∃ x56 : Int, H.rd h53 (Addr.add (Addr.mk r51 0 none) 2) (Value.int .i64 x56) ∧
 ∃ x57 : Int, H.rd h53 (Addr.add (Addr.mk r51 0 none) 3) (Value.int .i64 x57) ∧
 ∃ x58 : Int, H.rd h53 (Addr.add (Addr.mk r51 0 none) 4) (Value.int .i64 x58) ∧
 ∃ x59 : Int, H.rd h53 (Addr.add (Addr.mk r51 0 none) 5) (Value.int .i64 x59) ∧
 SemCall Go.Proofs.Try.prog 10 (List.toArray [(Value.int .i64 p0_object), (Value.slice x21_has.a x21_has.len x21_has.cap), (Value.agg (List.toArray [(Value.int .i64 x54), (Value.int .i64 x55), (Value.int .i64 x56), (Value.int .i64 x57), (Value.int .i64 x58), (Value.int .i64 x59)]))]) h53 fun v60 h61 =>
 ∃ x62 : SV, ∃ x63 : Int, v60 = (Value.tuple (List.toArray [(Value.slice x62.a x62.len x62.cap), (Value.int .i64 x63)])) ∧
 H.wr h61 (Addr.add (Addr.mk r51 0 none) 3) ([(Value.int .i64 x63)]) fun h64 =>
 ∃ x65 : Int, H.rd h64 (Addr.add (Addr.mk r51 0 none) 0) (Value.int .i64 x65) ∧
 ∃ x66 : Int, H.rd h64 (Addr.add (Addr.mk r51 0 none) 1) (Value.int .i64 x66) ∧
 ∃ x67 : Int, H.rd h64 (Addr.add (Addr.mk r51 0 none) 2) (Value.int .i64 x67) ∧
 ∃ x68 : Int, H.rd h64 (Addr.add (Addr.mk r51 0 none) 3) (Value.int .i64 x68) ∧
 ∃ x69 : Int, H.rd h64 (Addr.add (Addr.mk r51 0 none) 4) (Value.int .i64 x69) ∧
 ∃ x70 : Int, H.rd h64 (Addr.add (Addr.mk r51 0 none) 5) (Value.int .i64 x70) ∧
 H.new h64 [(Value.int .i64 x65), (Value.int .i64 x66), (Value.int .i64 x67), (Value.int .i64 x68), (Value.int .i64 x69), (Value.int .i64 x70)] fun r71 h72 =>
 appVC Go.Proofs.Try.prog 22 (Value.slice x22_h.a x22_h.len x22_h.cap) (Value.slice (some (Addr.mk r71 0 none)) 1 1) h72 fun x73 h74 =>
 H.new h74 [(Value.int .i64 x24_i)] fun r75 h76 =>
 appVC Go.Proofs.Try.prog 23 (Value.slice x23_want.a x23_want.len x23_want.cap) (Value.slice (some (Addr.mk r75 0 none)) 1 1) h76 fun x77 h78 =>
 In64 (x24_i + (1 : Int)) ∧
 ∃ m19, m19 < n18 ∧ (∃ h79, Gh h78 h79 ∧ I17 m19 x62 x73 x77 (x24_i + (1 : Int)) h79))

def f5_J2 (p0_object : Int) (p1_kinds : SV) (p2_args : SV) (post : Value → H → Prop) (R16 : SV → SV → H → Prop) (I17 : Nat → SV → SV → SV → Int → H → Prop) (n18 : Nat) (x21_has : SV) (x22_h : SV) (x23_want : SV) (x24_i : Int) (x30 : Bool) (h31 : H) : Prop :=
 VIf x30 (
 ∃ R32 : Bool → H → Prop, (
 ∃ b33 : Addr, p1_kinds.a = some b33 ∧ 0 ≤ x24_i ∧ x24_i < ((p1_kinds.len : Nat) : Int) ∧
 ∃ x34 : Int, H.rd h31 (Addr.add (Addr.add b33 ((x24_i).toNat * 1)) 0) (Value.int .i64 x34) ∧
 SemCall Go.Proofs.Try.prog 9 (List.toArray [(Value.int .i64 x34), (Value.int .i64 0), (Value.int .i64 (1 : Int))]) h31 fun v35 h36 =>
 ∃ x37 : Bool, v35 = (Value.bool x37) ∧
 VIf (!x37) (
 (∃ h38, Gh h36 h38 ∧ R32 true h38)) (
 ∃ b39 : Addr, p2_args.a = some b39 ∧ 0 ≤ x24_i ∧ x24_i < ((p2_args.len : Nat) : Int) ∧
 ∃ x40 : Int, H.rd h36 (Addr.add (Addr.add b39 ((x24_i).toNat * 1)) 0) (Value.int .i64 x40) ∧
 SemCall Go.Proofs.Try.prog 9 (List.toArray [(Value.int .i64 x40), (Value.int .i64 0), (Value.int .i64 (1000 : Int))]) h36 fun v41 h42 =>
 ∃ x43 : Bool, v41 = (Value.bool x43) ∧
 (∃ h44, Gh h42 h44 ∧ R32 (!x43) h44))) ∧
 ∀ (_ : F) (x45 : Bool) (h46 : H), R32 x45 h46 →
 f5_J1 p0_object p1_kinds p2_args post I17 n18 x21_has x22_h x23_want x24_i x45 h46) (
 (∃ h80, Gh h31 h80 ∧ R16 x22_h x23_want h80))

def f5_L3 (p0_object : Int) (p1_kinds : SV) (p2_args : SV) (post : Value → H → Prop) (R16 : SV → SV → H → Prop) (I17 : Nat → SV → SV → SV → Int → H → Prop) (n18 : Nat) (x21_has : SV) (x22_h : SV) (x23_want : SV) (x24_i : Int) (h25 : H) : Prop :=
 ∃ R26 : Bool → H → Prop, (
 VIf (decide (x24_i < ((p1_kinds.len : Nat) : Int))) (
 VIf (decide (x24_i < ((p2_args.len : Nat) : Int))) (
 (∃ h27, Gh h25 h27 ∧ R26 (decide (x24_i < (8 : Int))) h27)) (
 (∃ h28, Gh h25 h28 ∧ R26 false h28))) (
 (∃ h29, Gh h25 h29 ∧ R26 false h29))) ∧
 ∀ (_ : F) (x30 : Bool) (h31 : H), R26 x30 h31 →
 f5_J2 p0_object p1_kinds p2_args post R16 I17 n18 x21_has x22_h x23_want x24_i x30 h31

def f5_J4 (p0_object : Int) (post : Value → H → Prop) (x81_h : SV) (x82_want : SV) (h83 : H) : Prop :=
 SemCall Go.Proofs.Try.prog 7 (List.toArray [(Value.int .i64 p0_object), (Value.slice x81_h.a x81_h.len x81_h.cap)]) h83 fun v84 h85 =>
 ∃ x86 : Bool, ∃ x87 : SV, ∃ x88 : Option (TypeId × Value), v84 = (Value.tuple (List.toArray [(Value.bool x86), (Value.slice x87.a x87.len x87.cap), (errV x88)])) ∧
 ∃ R89 : Bool → H → Prop, (
 isIfaceV (errV x88) = true ∧
 VIf (isNilV (errV x88)) (
 VIf x86 (
 SemCall Go.Proofs.Try.prog 11 (List.toArray [(Value.slice x87.a x87.len x87.cap), (Value.slice x82_want.a x82_want.len x82_want.cap)]) h85 fun v90 h91 =>
 ∃ x92 : Bool, v90 = (Value.bool x92) ∧
 (∃ h93, Gh h91 h93 ∧ R89 x92 h93)) (
 (∃ h94, Gh h85 h94 ∧ R89 false h94))) (
 (∃ h95, Gh h85 h95 ∧ R89 false h95))) ∧
 ∀ (_ : F) (x96 : Bool) (h97 : H), R89 x96 h97 →
 VRet h97 (Value.bool x96) post

def f5_sem (p0_object : Int) (p1_kinds : SV) (p2_args : SV) (h0 : H) (post : Value → H → Prop) : Prop :=
 SemCall Go.Proofs.Try.prog 6 (List.toArray []) h0 fun v1 h2 =>
 ∃ x3 : Bool, v1 = (Value.bool x3) ∧
 VIf (!x3) (
 VRet h2 (Value.bool false) post) (
 SemCall Go.Proofs.Try.prog 9 (List.toArray [(Value.int .i64 p0_object), (Value.int .i64 0), (Value.int .i64 (2 : Int))]) h2 fun v4 h5 =>
 ∃ x6 : Bool, v4 = (Value.bool x6) ∧
 VIf (!x6) (
 VRet h5 (Value.bool true) post) (
 ∃ R7 : SV → H → Prop, (
 VIf (p0_object == (0 : Int)) (
 H.new h5 [(Value.int .i64 0)] fun r8 h9 =>
 appVC Go.Proofs.Try.prog 23 (Value.slice none 0 0) (Value.slice (some (Addr.mk r8 0 none)) 1 1) h9 fun x10 h11 =>
 (∃ h12, Gh h11 h12 ∧ R7 x10 h12)) (
 (∃ h13, Gh h5 h13 ∧ R7 (SV.mk none 0 0) h13))) ∧
 ∀ (_ : F) (x14_has : SV) (h15 : H), R7 x14_has h15 →
 ∃ R16 : SV → SV → H → Prop, (
 ∃ I17 : Nat → SV → SV → SV → Int → H → Prop, (∃ n18, (∃ h20, Gh h15 h20 ∧ I17 n18 x14_has (SV.mk none 0 0) (SV.mk none 0 0) (0 : Int) h20)) ∧
 ∀ (n18 : Nat) (_ : F) (x21_has : SV) (x22_h : SV) (x23_want : SV) (x24_i : Int) (h25 : H), I17 n18 x21_has x22_h x23_want x24_i h25 →
 f5_L3 p0_object p1_kinds p2_args post R16 I17 n18 x21_has x22_h x23_want x24_i h25) ∧
 ∀ (_ : F) (x81_h : SV) (x82_want : SV) (h83 : H), R16 x81_h x82_want h83 →
 f5_J4 p0_object post x81_h x82_want h83))

def f5_hint : Hint := (.node .leaf (.node .leaf (.node .leaf (.node .leaf (.node .leaf (.node (.node .leaf (.join [(8, .sl)] .leaf)) (.node .leaf (.node .leaf (.node (.node .leaf (.join [(9, .sl), (10, .sl)] (.node (.loop [(8, .sl), (9, .sl), (10, .sl), (11, .int)] (.node (.node (.join [(42, .bool)] .leaf) .leaf) (.node (.node (.node (.node (.join [(58, .bool)] .leaf) .leaf) (.node .lex .leaf)) .leaf) .leaf))) .leaf))) (.node .leaf (.node (.join [(6, .bool)] .leaf) .leaf)))))))))))

theorem f5_eq (p0_object : Int) (p1_kinds : SV) (p2_args : SV) (h0 : H) (post : Value → H → Prop) : exec Try.prog (bodyOf Try.f5) f5_hint (retQ Try.prog Try.f5 post) (F0 [(Value.int .i64 p0_object), (Value.slice p1_kinds.a p1_kinds.len p1_kinds.cap), (Value.slice p2_args.a p2_args.len p2_args.cap)]) h0 = f5_sem p0_object p1_kinds p2_args h0 post := by kernel_rfl

set_option maxRecDepth 20000 in
theorem f5_call (p0_object : Int) (p1_kinds : SV) (p2_args : SV) (h0 : H) (post : Value → H → Prop) (hx : f5_sem p0_object p1_kinds p2_args h0 post) : SemCall Try.prog 5 (List.toArray [(Value.int .i64 p0_object), (Value.slice p1_kinds.a p1_kinds.len p1_kinds.cap), (Value.slice p2_args.a p2_args.len p2_args.cap)]) h0 post :=
 sem_of_exec (g := f5_hint) mixed Try.func5 (bodyOf_eq (by kernel_rfl)) (by kernel_rfl) ((f5_eq p0_object p1_kinds p2_args h0 post).mpr hx)

/- latchgarth/latchgarthlaw4.linFact -/
def f6_sem (h0 : H) (post : Value → H → Prop) : Prop :=
 SemCall Go.Proofs.Try.prog 12 (List.toArray []) h0 fun v1 h2 =>
 ∃ x3 : SV, v1 = (Value.slice x3.a x3.len x3.cap) ∧
 SemCall Go.Proofs.Try.prog 7 (List.toArray [(Value.int .i64 (2 : Int)), (Value.slice x3.a x3.len x3.cap)]) h2 fun v4 h5 =>
 ∃ x6 : Bool, ∃ x7 : SV, ∃ x8 : Option (TypeId × Value), v4 = (Value.tuple (List.toArray [(Value.bool x6), (Value.slice x7.a x7.len x7.cap), (errV x8)])) ∧
 SemCall Go.Proofs.Try.prog 12 (List.toArray []) h5 fun v9 h10 =>
 ∃ x11 : SV, v9 = (Value.slice x11.a x11.len x11.cap) ∧
 SemCall Go.Proofs.Try.prog 7 (List.toArray [(Value.int .i64 (1 : Int)), (Value.slice x11.a x11.len x11.cap)]) h10 fun v12 h13 =>
 ∃ x14 : Bool, ∃ x15 : SV, ∃ x16 : Option (TypeId × Value), v12 = (Value.tuple (List.toArray [(Value.bool x14), (Value.slice x15.a x15.len x15.cap), (errV x16)])) ∧
 ∃ R17 : Bool → H → Prop, (
 isIfaceV (errV x8) = true ∧
 VIf (isNilV (errV x8)) (
 isIfaceV (errV x16) = true ∧
 VIf (isNilV (errV x16)) (
 VIf (!x6) (
 VIf x14 (
 H.new h13 [(Value.int .i64 0), (Value.int .i64 (1 : Int)), (Value.int .i64 (2 : Int))] fun r18 h19 =>
 SemCall Go.Proofs.Try.prog 11 (List.toArray [(Value.slice x15.a x15.len x15.cap), (Value.slice (some (Addr.mk r18 0 none)) 3 3)]) h19 fun v20 h21 =>
 ∃ x22 : Bool, v20 = (Value.bool x22) ∧
 (∃ h23, Gh h21 h23 ∧ R17 x22 h23)) (
 (∃ h24, Gh h13 h24 ∧ R17 false h24))) (
 (∃ h25, Gh h13 h25 ∧ R17 false h25))) (
 (∃ h26, Gh h13 h26 ∧ R17 false h26))) (
 (∃ h27, Gh h13 h27 ∧ R17 false h27))) ∧
 ∀ (_ : F) (x28 : Bool) (h29 : H), R17 x28 h29 →
 VRet h29 (Value.bool x28) post

def f6_hint : Hint := (.node .leaf (.node .leaf (.node .leaf (.node (.join [(0, .bool)] .leaf) .leaf))))

theorem f6_eq (h0 : H) (post : Value → H → Prop) : exec Try.prog (bodyOf Try.f6) f6_hint (retQ Try.prog Try.f6 post) (F0 []) h0 = f6_sem h0 post := by kernel_rfl

set_option maxRecDepth 20000 in
theorem f6_call (h0 : H) (post : Value → H → Prop) (hx : f6_sem h0 post) : SemCall Try.prog 6 (List.toArray []) h0 post :=
 sem_of_exec (g := f6_hint) mixed Try.func6 (bodyOf_eq (by kernel_rfl)) (by kernel_rfl) ((f6_eq h0 post).mpr hx)

/- latchgarth/latchgarthlaw4.good -/
def f8_L1 (p1_h : SV) (p2_l : SV) (post : Value → H → Prop) (x16_k : Int) (R24 : H → Prop) (I25 : Nat → Int → H → Prop) (n26 : Nat) (x29_j : Int) (h30 : H) : Prop :=
 VIf (decide (x29_j < ((p2_l.len : Nat) : Int))) (
 ∃ R31 : Bool → H → Prop, (
 VIf (x29_j != x16_k) (
 ∃ b32 : Addr, p2_l.a = some b32 ∧ 0 ≤ x29_j ∧ x29_j < ((p2_l.len : Nat) : Int) ∧
 ∃ b33 : Addr, p2_l.a = some b33 ∧ 0 ≤ x16_k ∧ x16_k < ((p2_l.len : Nat) : Int) ∧
 ∃ x34 : Int, H.rd h30 (Addr.add (Addr.add b32 ((x29_j).toNat * 1)) 0) (Value.int .i64 x34) ∧
 ∃ x35 : Int, H.rd h30 (Addr.add (Addr.add b33 ((x16_k).toNat * 1)) 0) (Value.int .i64 x35) ∧
 VIf (x34 == x35) (
 (∃ h36, Gh h30 h36 ∧ R31 true h36)) (
 VIf (decide (x29_j > x16_k)) (
 ∃ b37 : Addr, p2_l.a = some b37 ∧ 0 ≤ x29_j ∧ x29_j < ((p2_l.len : Nat) : Int) ∧
 ∃ x38 : Int, H.rd h30 (Addr.add (Addr.add b37 ((x29_j).toNat * 1)) 0) (Value.int .i64 x38) ∧
 In64 (((p1_h.len : Nat) : Int) - (1 : Int)) ∧
 SemCall Go.Proofs.Try.prog 9 (List.toArray [(Value.int .i64 x38), (Value.int .i64 0), (Value.int .i64 (((p1_h.len : Nat) : Int) - (1 : Int)))]) h30 fun v39 h40 =>
 ∃ x41 : Bool, v39 = (Value.bool x41) ∧
 VIf x41 (
 ∃ b42 : Addr, p2_l.a = some b42 ∧ 0 ≤ x29_j ∧ x29_j < ((p2_l.len : Nat) : Int) ∧
 ∃ b43 : Addr, p2_l.a = some b43 ∧ 0 ≤ x16_k ∧ x16_k < ((p2_l.len : Nat) : Int) ∧
 ∃ x44 : Int, H.rd h40 (Addr.add (Addr.add b42 ((x29_j).toNat * 1)) 0) (Value.int .i64 x44) ∧
 ∃ b45 : Addr, p1_h.a = some b45 ∧ 0 ≤ x44 ∧ x44 < ((p1_h.len : Nat) : Int) ∧
 ∃ x46 : Int, H.rd h40 (Addr.add (Addr.add (Addr.add b45 ((x44).toNat * 6)) 5) 0) (Value.int .i64 x46) ∧
 ∃ x47 : Int, H.rd h40 (Addr.add (Addr.add b43 ((x16_k).toNat * 1)) 0) (Value.int .i64 x47) ∧
 ∃ b48 : Addr, p1_h.a = some b48 ∧ 0 ≤ x47 ∧ x47 < ((p1_h.len : Nat) : Int) ∧
 ∃ x49 : Int, H.rd h40 (Addr.add (Addr.add (Addr.add b48 ((x47).toNat * 6)) 4) 0) (Value.int .i64 x49) ∧
 (∃ h50, Gh h40 h50 ∧ R31 (decide (x46 ≤ x49)) h50)) (
 (∃ h51, Gh h40 h51 ∧ R31 false h51))) (
 (∃ h52, Gh h30 h52 ∧ R31 false h52)))) (
 VIf (decide (x29_j > x16_k)) (
 ∃ b53 : Addr, p2_l.a = some b53 ∧ 0 ≤ x29_j ∧ x29_j < ((p2_l.len : Nat) : Int) ∧
 ∃ x54 : Int, H.rd h30 (Addr.add (Addr.add b53 ((x29_j).toNat * 1)) 0) (Value.int .i64 x54) ∧
 In64 (((p1_h.len : Nat) : Int) - (1 : Int)) ∧
 SemCall Go.Proofs.Try.prog 9 (List.toArray [(Value.int .i64 x54), (Value.int .i64 0), (Value.int .i64 (((p1_h.len : Nat) : Int) - (1 : Int)))]) h30 fun v55 h56 =>
 ∃ x57 : Bool, v55 = (Value.bool x57) ∧
 VIf x57 (
 ∃ b58 : Addr, p2_l.a = some b58 ∧ 0 ≤ x29_j ∧ x29_j < ((p2_l.len : Nat) : Int) ∧
 ∃ b59 : Addr, p2_l.a = some b59 ∧ 0 ≤ x16_k ∧ x16_k < ((p2_l.len : Nat) : Int) ∧
 ∃ x60 : Int, H.rd h56 (Addr.add (Addr.add b58 ((x29_j).toNat * 1)) 0) (Value.int .i64 x60) ∧
 ∃ b61 : Addr, p1_h.a = some b61 ∧ 0 ≤ x60 ∧ x60 < ((p1_h.len : Nat) : Int) ∧
 ∃ x62 : Int, H.rd h56 (Addr.add (Addr.add (Addr.add b61 ((x60).toNat * 6)) 5) 0) (Value.int .i64 x62) ∧
 ∃ x63 : Int, H.rd h56 (Addr.add (Addr.add b59 ((x16_k).toNat * 1)) 0) (Value.int .i64 x63) ∧
 ∃ b64 : Addr, p1_h.a = some b64 ∧ 0 ≤ x63 ∧ x63 < ((p1_h.len : Nat) : Int) ∧
 ∃ x65 : Int, H.rd h56 (Addr.add (Addr.add (Addr.add b64 ((x63).toNat * 6)) 4) 0) (Value.int .i64 x65) ∧
 (∃ h66, Gh h56 h66 ∧ R31 (decide (x62 ≤ x65)) h66)) (
 (∃ h67, Gh h56 h67 ∧ R31 false h67))) (
 (∃ h68, Gh h30 h68 ∧ R31 false h68)))) ∧
 ∀ (_ : F) (x69 : Bool) (h70 : H), R31 x69 h70 →
 VIf x69 (
 VRet h70 (Value.bool false) post) (
 In64 (x29_j + (1 : Int)) ∧
 ∃ m27, m27 < n26 ∧ (∃ h71, Gh h70 h71 ∧ I25 m27 (x29_j + (1 : Int)) h71))) (
 (∃ h72, Gh h30 h72 ∧ R24 h72))

def f8_J2 (p0_object : Int) (p1_h : SV) (p2_l : SV) (post : Value → H → Prop) (x15_has : SV) (x16_k : Int) (R18 : SV → H → Prop) (h73 : H) : Prop :=
 ∃ b74 : Addr, p2_l.a = some b74 ∧ 0 ≤ x16_k ∧ x16_k < ((p2_l.len : Nat) : Int) ∧
 ∃ x75 : Int, H.rd h73 (Addr.add (Addr.add b74 ((x16_k).toNat * 1)) 0) (Value.int .i64 x75) ∧
 ∃ b76 : Addr, p1_h.a = some b76 ∧ 0 ≤ x75 ∧ x75 < ((p1_h.len : Nat) : Int) ∧
 ∃ x77 : Int, H.rd h73 (Addr.add (Addr.add b76 ((x75).toNat * 6)) 0) (Value.int .i64 x77) ∧
 ∃ x78 : Int, H.rd h73 (Addr.add (Addr.add b76 ((x75).toNat * 6)) 1) (Value.int .i64 x78) ∧
 ∃ x79 : Int, H.rd h73 (Addr.add (Addr.add b76 ((x75).toNat * 6)) 2) (Value.int .i64 x79) ∧
 ∃ x80 : Int, H.rd h73 (Addr.add (Addr.add b76 ((x75).toNat * 6)) 3) (Value.int .i64 x80) ∧
 ∃ x81 : Int, H.rd h73 (Addr.add (Addr.add b76 ((x75).toNat * 6)) 4) (Value.int .i64 x81) ∧
 ∃ x82 : Int, H.rd h73 (Addr.add (Addr.add b76 ((x75).toNat * 6)) 5) (Value.int .i64 x82) ∧
 SemCall Go.Proofs.Try.prog 10 (List.toArray [(Value.int .i64 p0_object), (Value.slice x15_has.a x15_has.len x15_has.cap), (Value.agg (List.toArray [(Value.int .i64 x77), (Value.int .i64 x78), (Value.int .i64 x79), (Value.int .i64 x80), (Value.int .i64 x81), (Value.int .i64 x82)]))]) h73 fun v83 h84 =>
 ∃ x85 : SV, ∃ x86 : Int, v83 = (Value.tuple (List.toArray [(Value.slice x85.a x85.len x85.cap), (Value.int .i64 x86)])) ∧
 ∃ b87 : Addr, p2_l.a = some b87 ∧ 0 ≤ x16_k ∧ x16_k < ((p2_l.len : Nat) : Int) ∧
 ∃ x88 : Int, H.rd h84 (Addr.add (Addr.add b87 ((x16_k).toNat * 1)) 0) (Value.int .i64 x88) ∧
 ∃ b89 : Addr, p1_h.a = some b89 ∧ 0 ≤ x88 ∧ x88 < ((p1_h.len : Nat) : Int) ∧
 ∃ x90 : Int, H.rd h84 (Addr.add (Addr.add (Addr.add b89 ((x88).toNat * 6)) 3) 0) (Value.int .i64 x90) ∧
 VIf (x86 != x90) (
 VRet h84 (Value.bool false) post) (
 (∃ h91, Gh h84 h91 ∧ R18 x85 h91))

def f8_L3 (p0_object : Int) (p1_h : SV) (p2_l : SV) (post : Value → H → Prop) (R10 : H → Prop) (I11 : Nat → SV → Int → H → Prop) (n12 : Nat) (x15_has : SV) (x16_k : Int) (h17 : H) : Prop :=
 VIf (decide (x16_k < ((p2_l.len : Nat) : Int))) (
 ∃ R18 : SV → H → Prop, (
 ∃ b19 : Addr, p2_l.a = some b19 ∧ 0 ≤ x16_k ∧ x16_k < ((p2_l.len : Nat) : Int) ∧
 ∃ x20 : Int, H.rd h17 (Addr.add (Addr.add b19 ((x16_k).toNat * 1)) 0) (Value.int .i64 x20) ∧
 In64 (((p1_h.len : Nat) : Int) - (1 : Int)) ∧
 SemCall Go.Proofs.Try.prog 9 (List.toArray [(Value.int .i64 x20), (Value.int .i64 0), (Value.int .i64 (((p1_h.len : Nat) : Int) - (1 : Int)))]) h17 fun v21 h22 =>
 ∃ x23 : Bool, v21 = (Value.bool x23) ∧
 VIf (!x23) (
 VRet h22 (Value.bool false) post) (
 ∃ R24 : H → Prop, (
 ∃ I25 : Nat → Int → H → Prop, (∃ n26, (∃ h28, Gh h22 h28 ∧ I25 n26 (0 : Int) h28)) ∧
 ∀ (n26 : Nat) (_ : F) (x29_j : Int) (h30 : H), I25 n26 x29_j h30 →
 f8_L1 p1_h p2_l post x16_k R24 I25 n26 x29_j h30) ∧
 ∀ (_ : F) (h73 : H), R24 h73 →
 f8_J2 p0_object p1_h p2_l post x15_has x16_k R18 h73)) ∧
 ∀ (_ : F) (x92_has : SV) (h93 : H), R18 x92_has h93 →
 In64 (x16_k + (1 : Int)) ∧
 ∃ m13, m13 < n12 ∧ (∃ h94, Gh h93 h94 ∧ I11 m13 x92_has (x16_k + (1 : Int)) h94)) (
 (∃ h95, Gh h17 h95 ∧ R10 h95))

def f8_sem (p0_object : Int) (p1_h : SV) (p2_l : SV) (h0 : H) (post : Value → H → Prop) : Prop :=
 VIf (((p2_l.len : Nat) : Int) != ((p1_h.len : Nat) : Int)) (
 VRet h0 (Value.bool false) post) (
 ∃ R1 : SV → H → Prop, (
 VIf (p0_object == (0 : Int)) (
 H.new h0 [(Value.int .i64 0)] fun r2 h3 =>
 appVC Go.Proofs.Try.prog 23 (Value.slice none 0 0) (Value.slice (some (Addr.mk r2 0 none)) 1 1) h3 fun x4 h5 =>
 (∃ h6, Gh h5 h6 ∧ R1 x4 h6)) (
 (∃ h7, Gh h0 h7 ∧ R1 (SV.mk none 0 0) h7))) ∧
 ∀ (_ : F) (x8_has : SV) (h9 : H), R1 x8_has h9 →
 ∃ R10 : H → Prop, (
 ∃ I11 : Nat → SV → Int → H → Prop, (∃ n12, (∃ h14, Gh h9 h14 ∧ I11 n12 x8_has (0 : Int) h14)) ∧
 ∀ (n12 : Nat) (_ : F) (x15_has : SV) (x16_k : Int) (h17 : H), I11 n12 x15_has x16_k h17 →
 f8_L3 p0_object p1_h p2_l post R10 I11 n12 x15_has x16_k h17) ∧
 ∀ (_ : F) (h96 : H), R10 h96 →
 VRet h96 (Value.bool true) post)

def f8_hint : Hint := (.node .leaf (.node .leaf (.node .leaf (.node (.node .leaf (.join [(7, .sl)] .leaf)) (.node (.node .leaf (.join [] (.node (.loop [(7, .sl), (8, .int)] (.node .leaf (.node (.join [(7, .sl)] (.node (.node .leaf (.node (.node .leaf (.join [] (.node (.loop [(9, .int)] (.node .leaf (.node (.node (.node (.join [(90, .bool)] .lex) .leaf) .leaf) .leaf))) .leaf))) .leaf)) .leaf)) .leaf))) .leaf))) .leaf)))))

theorem f8_eq (p0_object : Int) (p1_h : SV) (p2_l : SV) (h0 : H) (post : Value → H → Prop) : exec Try.prog (bodyOf Try.f8) f8_hint (retQ Try.prog Try.f8 post) (F0 [(Value.int .i64 p0_object), (Value.slice p1_h.a p1_h.len p1_h.cap), (Value.slice p2_l.a p2_l.len p2_l.cap)]) h0 = f8_sem p0_object p1_h p2_l h0 post := by kernel_rfl

set_option maxRecDepth 20000 in
theorem f8_call (p0_object : Int) (p1_h : SV) (p2_l : SV) (h0 : H) (post : Value → H → Prop) (hx : f8_sem p0_object p1_h p2_l h0 post) : SemCall Try.prog 8 (List.toArray [(Value.int .i64 p0_object), (Value.slice p1_h.a p1_h.len p1_h.cap), (Value.slice p2_l.a p2_l.len p2_l.cap)]) h0 post :=
 sem_of_exec (g := f8_hint) mixed Try.func8 (bodyOf_eq (by kernel_rfl)) (by kernel_rfl) ((f8_eq p0_object p1_h p2_l h0 post).mpr hx)

/- latchgarth/latchgarthlaw4.in -/
def f9_sem (p0_n : Int) (p1_low : Int) (p2_high : Int) (h0 : H) (post : Value → H → Prop) : Prop :=
 ∃ R1 : Bool → H → Prop, (
 VIf (decide (p0_n ≥ p1_low)) (
 (∃ h2, Gh h0 h2 ∧ R1 (decide (p0_n ≤ p2_high)) h2)) (
 (∃ h3, Gh h0 h3 ∧ R1 false h3))) ∧
 ∀ (_ : F) (x4 : Bool) (h5 : H), R1 x4 h5 →
 VRet h5 (Value.bool x4) post

def f9_hint : Hint := (.node .leaf (.node (.join [(6, .bool)] .leaf) .leaf))

theorem f9_eq (p0_n : Int) (p1_low : Int) (p2_high : Int) (h0 : H) (post : Value → H → Prop) : exec Try.prog (bodyOf Try.f9) f9_hint (retQ Try.prog Try.f9 post) (F0 [(Value.int .i64 p0_n), (Value.int .i64 p1_low), (Value.int .i64 p2_high)]) h0 = f9_sem p0_n p1_low p2_high h0 post := by kernel_rfl

set_option maxRecDepth 20000 in
theorem f9_call (p0_n : Int) (p1_low : Int) (p2_high : Int) (h0 : H) (post : Value → H → Prop) (hx : f9_sem p0_n p1_low p2_high h0 post) : SemCall Try.prog 9 (List.toArray [(Value.int .i64 p0_n), (Value.int .i64 p1_low), (Value.int .i64 p2_high)]) h0 post :=
 sem_of_exec (g := f9_hint) mixed Try.func9 (bodyOf_eq (by kernel_rfl)) (by kernel_rfl) ((f9_eq p0_n p1_low p2_high h0 post).mpr hx)

/- latchgarth/latchgarthref4.Gets -/
def f10_sem (p0_object : Int) (p1_has : SV) (p2_0_o : Int) (p2_1_o : Int) (p2_2_o : Int) (p2_3_o : Int) (p2_4_o : Int) (p2_5_o : Int) (h0 : H) (post : Value → H → Prop) : Prop :=
 H.new h0 [(Value.int .i64 p2_0_o), (Value.int .i64 p2_1_o), (Value.int .i64 p2_2_o), (Value.int .i64 p2_3_o), (Value.int .i64 p2_4_o), (Value.int .i64 p2_5_o)] fun r1 h2 =>
 VIf (p0_object == (0 : Int)) (
 ∃ x3 : Int, H.rd h2 (Addr.add (Addr.add (Addr.mk r1 0 none) 1) 0) (Value.int .i64 x3) ∧
 VIf (x3 == (0 : Int)) (
 ∃ b4 : Addr, p1_has.a = some b4 ∧ 0 ≤ (0 : Int) ∧ (0 : Int) < ((p1_has.len : Nat) : Int) ∧
 ∃ b5 : Addr, p1_has.a = some b5 ∧ 0 ≤ (0 : Int) ∧ (0 : Int) < ((p1_has.len : Nat) : Int) ∧
 ∃ x6 : Int, H.rd h2 (Addr.add (Addr.add b4 (((0 : Int)).toNat * 1)) 0) (Value.int .i64 x6) ∧
 ∃ x7 : Int, H.rd h2 (Addr.add (Addr.add (Addr.mk r1 0 none) 2) 0) (Value.int .i64 x7) ∧
 In64 (x6 + x7) ∧
 ∃ x8 : Int, H.rd h2 (Addr.add (Addr.add b5 (((0 : Int)).toNat * 1)) 0) (Value.int .i64 x8) ∧
 H.new h2 [(Value.int .i64 (x6 + x7))] fun r9 h10 =>
 VRet h10 (Value.tuple (List.toArray [(Value.slice (some (Addr.mk r9 0 none)) 1 1), (Value.int .i64 x8)])) post) (
 ∃ b11 : Addr, p1_has.a = some b11 ∧ 0 ≤ (0 : Int) ∧ (0 : Int) < ((p1_has.len : Nat) : Int) ∧
 ∃ x12 : Int, H.rd h2 (Addr.add (Addr.add b11 (((0 : Int)).toNat * 1)) 0) (Value.int .i64 x12) ∧
 VRet h2 (Value.tuple (List.toArray [(Value.slice p1_has.a p1_has.len p1_has.cap), (Value.int .i64 x12)])) post)) (
 ∃ x13 : Int, H.rd h2 (Addr.add (Addr.add (Addr.mk r1 0 none) 1) 0) (Value.int .i64 x13) ∧
 VIf (x13 == (0 : Int)) (
 appVC Go.Proofs.Try.prog 23 (Value.slice none 0 0) (Value.slice p1_has.a p1_has.len p1_has.cap) h2 fun x14 h15 =>
 ∃ x16 : Int, H.rd h15 (Addr.add (Addr.add (Addr.mk r1 0 none) 2) 0) (Value.int .i64 x16) ∧
 H.new h15 [(Value.int .i64 x16)] fun r17 h18 =>
 appVC Go.Proofs.Try.prog 23 (Value.slice x14.a x14.len x14.cap) (Value.slice (some (Addr.mk r17 0 none)) 1 1) h18 fun x19 h20 =>
 VRet h20 (Value.tuple (List.toArray [(Value.slice x19.a x19.len x19.cap), (Value.int .i64 (-1 : Int))])) post) (
 VIf (((p1_has.len : Nat) : Int) == (0 : Int)) (
 VRet h2 (Value.tuple (List.toArray [(Value.slice p1_has.a p1_has.len p1_has.cap), (Value.int .i64 (-1 : Int))])) post) (
 VIf (p0_object == (1 : Int)) (
 In64 (((p1_has.len : Nat) : Int) - (1 : Int)) ∧
 0 ≤ (((p1_has.len : Nat) : Int) - (1 : Int)) ∧ (((p1_has.len : Nat) : Int) - (1 : Int)) ≤ ((p1_has.cap : Nat) : Int) ∧
 In64 (((p1_has.len : Nat) : Int) - (1 : Int)) ∧
 ∃ b21 : Addr, p1_has.a = some b21 ∧ 0 ≤ (((p1_has.len : Nat) : Int) - (1 : Int)) ∧ (((p1_has.len : Nat) : Int) - (1 : Int)) < ((p1_has.len : Nat) : Int) ∧
 ∃ x22 : Int, H.rd h2 (Addr.add (Addr.add b21 (((((p1_has.len : Nat) : Int) - (1 : Int))).toNat * 1)) 0) (Value.int .i64 x22) ∧
 VRet h2 (Value.tuple (List.toArray [(Value.slice p1_has.a (((((p1_has.len : Nat) : Int) - (1 : Int))).toNat) p1_has.cap), (Value.int .i64 x22)])) post) (
 0 ≤ (1 : Int) ∧ (1 : Int) ≤ ((p1_has.len : Nat) : Int) ∧
 ∃ b23 : Addr, p1_has.a = some b23 ∧ 0 ≤ (0 : Int) ∧ (0 : Int) < ((p1_has.len : Nat) : Int) ∧
 ∃ x24 : Int, H.rd h2 (Addr.add (Addr.add b23 (((0 : Int)).toNat * 1)) 0) (Value.int .i64 x24) ∧
 VRet h2 (Value.tuple (List.toArray [(Value.slice (if p1_has.cap = ((1 : Int)).toNat then p1_has.a else Option.map (fun z => Addr.add z (((1 : Int)).toNat * 1)) p1_has.a) (p1_has.len - ((1 : Int)).toNat) (p1_has.cap - ((1 : Int)).toNat)), (Value.int .i64 x24)])) post))))

def f10_hint : Hint := (.node .leaf (.node .leaf (.node (.node .leaf (.node (.node (.node .leaf (.node (.node .lex .leaf) .leaf)) .leaf) .leaf)) .leaf)))

theorem f10_eq (p0_object : Int) (p1_has : SV) (p2_0_o : Int) (p2_1_o : Int) (p2_2_o : Int) (p2_3_o : Int) (p2_4_o : Int) (p2_5_o : Int) (h0 : H) (post : Value → H → Prop) : exec Try.prog (bodyOf Try.f10) f10_hint (retQ Try.prog Try.f10 post) (F0 [(Value.int .i64 p0_object), (Value.slice p1_has.a p1_has.len p1_has.cap), (Value.agg (List.toArray [(Value.int .i64 p2_0_o), (Value.int .i64 p2_1_o), (Value.int .i64 p2_2_o), (Value.int .i64 p2_3_o), (Value.int .i64 p2_4_o), (Value.int .i64 p2_5_o)]))]) h0 = f10_sem p0_object p1_has p2_0_o p2_1_o p2_2_o p2_3_o p2_4_o p2_5_o h0 post := by kernel_rfl

set_option maxRecDepth 20000 in
theorem f10_call (p0_object : Int) (p1_has : SV) (p2_0_o : Int) (p2_1_o : Int) (p2_2_o : Int) (p2_3_o : Int) (p2_4_o : Int) (p2_5_o : Int) (h0 : H) (post : Value → H → Prop) (hx : f10_sem p0_object p1_has p2_0_o p2_1_o p2_2_o p2_3_o p2_4_o p2_5_o h0 post) : SemCall Try.prog 10 (List.toArray [(Value.int .i64 p0_object), (Value.slice p1_has.a p1_has.len p1_has.cap), (Value.agg (List.toArray [(Value.int .i64 p2_0_o), (Value.int .i64 p2_1_o), (Value.int .i64 p2_2_o), (Value.int .i64 p2_3_o), (Value.int .i64 p2_4_o), (Value.int .i64 p2_5_o)]))]) h0 post :=
 sem_of_exec (g := f10_hint) mixed Try.func10 (bodyOf_eq (by kernel_rfl)) (by kernel_rfl) ((f10_eq p0_object p1_has p2_0_o p2_1_o p2_2_o p2_3_o p2_4_o p2_5_o h0 post).mpr hx)

/- latchgarth/latchgarthsame.Ints -/
def f11_L1 (p0_a : SV) (p1_b : SV) (post : Value → H → Prop) (R1 : H → Prop) (I2 : Nat → Int → H → Prop) (n3 : Nat) (x6_i : Int) (h7 : H) : Prop :=
 VIf (decide (x6_i < ((p0_a.len : Nat) : Int))) (
 ∃ b8 : Addr, p0_a.a = some b8 ∧ 0 ≤ x6_i ∧ x6_i < ((p0_a.len : Nat) : Int) ∧
 ∃ x9 : Int, H.rd h7 (Addr.add (Addr.add b8 ((x6_i).toNat * 1)) 0) (Value.int .i64 x9) ∧
 ∃ b10 : Addr, p1_b.a = some b10 ∧ 0 ≤ x6_i ∧ x6_i < ((p1_b.len : Nat) : Int) ∧
 ∃ x11 : Int, H.rd h7 (Addr.add (Addr.add b10 ((x6_i).toNat * 1)) 0) (Value.int .i64 x11) ∧
 VIf (x9 != x11) (
 VRet h7 (Value.bool false) post) (
 In64 (x6_i + (1 : Int)) ∧
 ∃ m4, m4 < n3 ∧ (∃ h12, Gh h7 h12 ∧ I2 m4 (x6_i + (1 : Int)) h12))) (
 (∃ h13, Gh h7 h13 ∧ R1 h13))

def f11_sem (p0_a : SV) (p1_b : SV) (h0 : H) (post : Value → H → Prop) : Prop :=
 VIf (((p0_a.len : Nat) : Int) != ((p1_b.len : Nat) : Int)) (
 VRet h0 (Value.bool false) post) (
 ∃ R1 : H → Prop, (
 ∃ I2 : Nat → Int → H → Prop, (∃ n3, (∃ h5, Gh h0 h5 ∧ I2 n3 (0 : Int) h5)) ∧
 ∀ (n3 : Nat) (_ : F) (x6_i : Int) (h7 : H), I2 n3 x6_i h7 →
 f11_L1 p0_a p1_b post R1 I2 n3 x6_i h7) ∧
 ∀ (_ : F) (h14 : H), R1 h14 →
 VRet h14 (Value.bool true) post)

def f11_hint : Hint := (.node .leaf (.node .leaf (.node (.node .leaf (.join [] (.node (.loop [(5, .int)] .leaf) .leaf))) .leaf)))

theorem f11_eq (p0_a : SV) (p1_b : SV) (h0 : H) (post : Value → H → Prop) : exec Try.prog (bodyOf Try.f11) f11_hint (retQ Try.prog Try.f11 post) (F0 [(Value.slice p0_a.a p0_a.len p0_a.cap), (Value.slice p1_b.a p1_b.len p1_b.cap)]) h0 = f11_sem p0_a p1_b h0 post := by kernel_rfl

set_option maxRecDepth 20000 in
theorem f11_call (p0_a : SV) (p1_b : SV) (h0 : H) (post : Value → H → Prop) (hx : f11_sem p0_a p1_b h0 post) : SemCall Try.prog 11 (List.toArray [(Value.slice p0_a.a p0_a.len p0_a.cap), (Value.slice p1_b.a p1_b.len p1_b.cap)]) h0 post :=
 sem_of_exec (g := f11_hint) mixed Try.func11 (bodyOf_eq (by kernel_rfl)) (by kernel_rfl) ((f11_eq p0_a p1_b h0 post).mpr hx)

/- latchgarth/latchgarthlaw4.swapped -/
def f12_sem (h0 : H) (post : Value → H → Prop) : Prop :=
 H.new h0 [(Value.int .i64 0), (Value.int .i64 0), (Value.int .i64 (1 : Int)), (Value.int .i64 (-1 : Int)), (Value.int .i64 0), (Value.int .i64 (1 : Int)), (Value.int .i64 0), (Value.int .i64 0), (Value.int .i64 (2 : Int)), (Value.int .i64 (-1 : Int)), (Value.int .i64 (1 : Int)), (Value.int .i64 (2 : Int)), (Value.int .i64 (1 : Int)), (Value.int .i64 (1 : Int)), (Value.int .i64 0), (Value.int .i64 (2 : Int)), (Value.int .i64 (3 : Int)), (Value.int .i64 (4 : Int))] fun r1 h2 =>
 VRet h2 (Value.slice (some (Addr.mk r1 0 none)) 3 3) post

def f12_hint : Hint := .leaf

theorem f12_eq (h0 : H) (post : Value → H → Prop) : exec Try.prog (bodyOf Try.f12) f12_hint (retQ Try.prog Try.f12 post) (F0 []) h0 = f12_sem h0 post := by kernel_rfl

set_option maxRecDepth 20000 in
theorem f12_call (h0 : H) (post : Value → H → Prop) (hx : f12_sem h0 post) : SemCall Try.prog 12 (List.toArray []) h0 post :=
 sem_of_exec (g := f12_hint) mixed Try.func12 (bodyOf_eq (by kernel_rfl)) (by kernel_rfl) ((f12_eq h0 post).mpr hx)

/- slices.Clone[[]int,int] -/
def f15_sem (p0_s : SV) (h0 : H) (post : Value → H → Prop) : Prop :=
 VIf (Option.isNone p0_s.a) (
 VRet h0 (Value.slice none 0 0) post) (
 H.new h0 [] fun r1 h2 =>
 appVC Go.Proofs.Try.prog 23 (Value.slice (some (Addr.mk r1 0 none)) 0 0) (Value.slice p0_s.a p0_s.len p0_s.cap) h2 fun x3 h4 =>
 VRet h4 (Value.slice x3.a x3.len x3.cap) post)

def f15_hint : Hint := .leaf

theorem f15_eq (p0_s : SV) (h0 : H) (post : Value → H → Prop) : exec Try.prog (bodyOf Try.f15) f15_hint (retQ Try.prog Try.f15 post) (F0 [(Value.slice p0_s.a p0_s.len p0_s.cap)]) h0 = f15_sem p0_s h0 post := by kernel_rfl

set_option maxRecDepth 20000 in
theorem f15_call (p0_s : SV) (h0 : H) (post : Value → H → Prop) (hx : f15_sem p0_s h0 post) : SemCall Try.prog 15 (List.toArray [(Value.slice p0_s.a p0_s.len p0_s.cap)]) h0 post :=
 sem_of_exec (g := f15_hint) mixed Try.func15 (bodyOf_eq (by kernel_rfl)) (by kernel_rfl) ((f15_eq p0_s h0 post).mpr hx)

/- latchgarth/core.Within -/
def f16_sem (p0_n : Int) (p1_low : Int) (p2_high : Int) (h0 : H) (post : Value → H → Prop) : Prop :=
 ∃ R1 : Bool → H → Prop, (
 VIf (decide (p0_n ≥ p1_low)) (
 (∃ h2, Gh h0 h2 ∧ R1 (decide (p0_n ≤ p2_high)) h2)) (
 (∃ h3, Gh h0 h3 ∧ R1 false h3))) ∧
 ∀ (_ : F) (x4 : Bool) (h5 : H), R1 x4 h5 →
 VRet h5 (Value.bool x4) post

def f16_hint : Hint := (.node .leaf (.node (.join [(6, .bool)] .leaf) .leaf))

theorem f16_eq (p0_n : Int) (p1_low : Int) (p2_high : Int) (h0 : H) (post : Value → H → Prop) : exec Try.prog (bodyOf Try.f16) f16_hint (retQ Try.prog Try.f16 post) (F0 [(Value.int .i64 p0_n), (Value.int .i64 p1_low), (Value.int .i64 p2_high)]) h0 = f16_sem p0_n p1_low p2_high h0 post := by kernel_rfl

set_option maxRecDepth 20000 in
theorem f16_call (p0_n : Int) (p1_low : Int) (p2_high : Int) (h0 : H) (post : Value → H → Prop) (hx : f16_sem p0_n p1_low p2_high h0 post) : SemCall Try.prog 16 (List.toArray [(Value.int .i64 p0_n), (Value.int .i64 p1_low), (Value.int .i64 p2_high)]) h0 post :=
 sem_of_exec (g := f16_hint) mixed Try.func16 (bodyOf_eq (by kernel_rfl)) (by kernel_rfl) ((f16_eq p0_n p1_low p2_high h0 post).mpr hx)

/- latchgarth/core.Has -/
def f17_sem (p0_set : Int) (p1_i : Int) (h0 : H) (post : Value → H → Prop) : Prop :=
 0 ≤ p1_i ∧ p1_i ≤ 63 ∧
 VRet h0 (Value.bool ((bitsV .and (Int.fdiv p0_set (2 ^ (p1_i).toNat)) (1 : Int)) == (1 : Int))) post

def f17_hint : Hint := .leaf

theorem f17_eq (p0_set : Int) (p1_i : Int) (h0 : H) (post : Value → H → Prop) : exec Try.prog (bodyOf Try.f17) f17_hint (retQ Try.prog Try.f17 post) (F0 [(Value.int .i64 p0_set), (Value.int .i64 p1_i)]) h0 = f17_sem p0_set p1_i h0 post := by kernel_rfl

set_option maxRecDepth 20000 in
theorem f17_call (p0_set : Int) (p1_i : Int) (h0 : H) (post : Value → H → Prop) (hx : f17_sem p0_set p1_i h0 post) : SemCall Try.prog 17 (List.toArray [(Value.int .i64 p0_set), (Value.int .i64 p1_i)]) h0 post :=
 sem_of_exec (g := f17_hint) mixed Try.func17 (bodyOf_eq (by kernel_rfl)) (by kernel_rfl) ((f17_eq p0_set p1_i h0 post).mpr hx)

end Go.Proofs.Ytnepjdobknjecaa
