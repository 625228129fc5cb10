
import Derived.Test.YtnppmcgmmdcpiaaGreatDoorEngG
import Derived.Test.YtnppmcgmmdcpiaaGreatDoorRows
import Derived.Test.YtnppmcgmmdcpiaaGreatDoorT
namespace Go.Proofs.YtnppmcgmmdcpiaaGreatDoor
open Go.Eng
def f6_sem (p0_text : ByteArray) (h0 : H) (post : Value → H → Prop) : Prop :=
 SemCall Go.Proofs.Tryz.prog 20 (List.toArray [(Value.string p0_text)]) h0 fun v1 h2 =>
 ∃ x3 : ByteArray, v1 = (Value.string x3) ∧
 SemCall Go.Proofs.Tryz.prog 21 (List.toArray [(Value.string p0_text)]) h2 fun v4 h5 =>
 ∃ x6 : ByteArray, v4 = (Value.string x6) ∧
 VRet h5 (Value.bool (ByteArray.toList x3 == ByteArray.toList x6)) post
def f6_hint : Hint := .leaf
theorem f6_eq (p0_text : ByteArray) (h0 : H) (post : Value → H → Prop) : exec Tryz.prog (bodyOf Tryz.f6) f6_hint (retQ Tryz.prog Tryz.f6 post) (F0 [(Value.string p0_text)]) h0 = f6_sem p0_text h0 post := by kernel_rfl
set_option maxRecDepth 20000 in
theorem f6_call (p0_text : ByteArray) (h0 : H) (post : Value → H → Prop) (hx : f6_sem p0_text h0 post) : SemCall Tryz.prog 6 (List.toArray [(Value.string p0_text)]) h0 post :=
 sem_of_exec (g := f6_hint) mixed Tryz.func6 (bodyOf_eq (by kernel_rfl)) (by kernel_rfl) ((f6_eq p0_text h0 post).mpr hx)
def f7_L1 (p0_text : ByteArray) (R10 : Int → H → Prop) (I11 : Nat → Int → H → Prop) (n12 : Nat) (x15_k : Int) (h16 : H) : Prop :=
 ∃ R17 : Bool → H → Prop, (
 VIf (decide (x15_k > (0 : Int))) (
 In64 (x15_k - (1 : Int)) ∧
 0 ≤ (x15_k - (1 : Int)) ∧ (x15_k - (1 : Int)) < ((ByteArray.size p0_text : Nat) : Int) ∧
 (∃ h18, Gh h16 h18 ∧ R17 (((((ByteArray.data p0_text).toList.getD ((x15_k - (1 : Int))).toNat 0).toNat : Nat) : Int) != (10 : Int)) h18)) (
 (∃ h19, Gh h16 h19 ∧ R17 false h19))) ∧
 ∀ (_ : F) (x20 : Bool) (h21 : H), R17 x20 h21 →
 VIf x20 (
 In64 (x15_k - (1 : Int)) ∧
 ∃ m13, m13 < n12 ∧ (∃ h22, Gh h21 h22 ∧ I11 m13 (x15_k - (1 : Int)) h22)) (
 (∃ h23, Gh h21 h23 ∧ R10 x15_k h23))
def f7_J2 (p0_text : ByteArray) (post : Value → H → Prop) (x24_k : Int) (h25 : H) : Prop :=
 0 ≤ x24_k ∧ x24_k ≤ ((ByteArray.size p0_text : Nat) : Int) ∧
 SemCall Go.Proofs.Tryz.prog 20 (List.toArray [(Value.string (ByteArray.extract p0_text 0 (x24_k).toNat))]) h25 fun v26 h27 =>
 ∃ x28 : ByteArray, v26 = (Value.string x28) ∧
 SemCall Go.Proofs.Tryz.prog 20 (List.toArray [(Value.string p0_text)]) h27 fun v29 h30 =>
 ∃ x31 : ByteArray, v29 = (Value.string x31) ∧
 ∃ R32 : Bool → H → Prop, (
 VIf (decide (((ByteArray.size x28 : Nat) : Int) ≤ ((ByteArray.size x31 : Nat) : Int))) (
 0 ≤ ((ByteArray.size x28 : Nat) : Int) ∧ ((ByteArray.size x28 : Nat) : Int) ≤ ((ByteArray.size x31 : Nat) : Int) ∧
 (∃ h33, Gh h30 h33 ∧ R32 (ByteArray.toList (ByteArray.extract x31 0 (((ByteArray.size x28 : Nat) : Int)).toNat) == ByteArray.toList x28) h33)) (
 (∃ h34, Gh h30 h34 ∧ R32 false h34))) ∧
 ∀ (_ : F) (x35 : Bool) (h36 : H), R32 x35 h36 →
 VRet h36 (Value.bool x35) post
def f7_sem (p0_text : ByteArray) (p1_k : Int) (h0 : H) (post : Value → H → Prop) : Prop :=
 SemCall Go.Proofs.Tryz.prog 20 (List.toArray [(Value.string (ByteArray.mk (List.toArray [(102 : UInt8), (114 : UInt8), (101 : UInt8), (101 : UInt8)])))]) h0 fun v1 h2 =>
 ∃ x3 : ByteArray, v1 = (Value.string x3) ∧
 VIf (!(ByteArray.toList x3 == ByteArray.toList (ByteArray.mk (List.toArray [(102 : UInt8), (114 : UInt8), (101 : UInt8), (101 : UInt8), (32 : UInt8), (54 : UInt8), (32 : UInt8), (52 : UInt8), (10 : UInt8)])))) (
 VRet h2 (Value.bool false) post) (
 ∃ R4 : Bool → H → Prop, (
 VIf (decide (((ByteArray.size p0_text : Nat) : Int) > (3000 : Int))) (
 (∃ h5, Gh h2 h5 ∧ R4 true h5)) (
 VIf (decide (p1_k < (0 : Int))) (
 (∃ h6, Gh h2 h6 ∧ R4 true h6)) (
 (∃ h7, Gh h2 h7 ∧ R4 (decide (p1_k > ((ByteArray.size p0_text : Nat) : Int))) h7)))) ∧
 ∀ (_ : F) (x8 : Bool) (h9 : H), R4 x8 h9 →
 VIf x8 (
 VRet h9 (Value.bool true) post) (
 ∃ R10 : Int → H → Prop, (
 ∃ I11 : Nat → Int → H → Prop, (∃ n12, (∃ h14, Gh h9 h14 ∧ I11 n12 p1_k h14)) ∧
 ∀ (n12 : Nat) (_ : F) (x15_k : Int) (h16 : H), I11 n12 x15_k h16 →
 f7_L1 p0_text R10 I11 n12 x15_k h16) ∧
 ∀ (_ : F) (x24_k : Int) (h25 : H), R10 x24_k h25 →
 f7_J2 p0_text post x24_k h25))
def f7_hint : Hint := (.node .leaf (.node .leaf (.node .leaf (.node (.node (.join [(23, .bool)] .leaf) .leaf) (.node (.join [(1, .int)] (.node (.loop [(1, .int)] (.node (.node (.join [(32, .bool)] .leaf) .leaf) .leaf)) .leaf)) (.node .leaf (.node .leaf (.node (.join [(4, .bool)] .leaf) .leaf))))))))
theorem f7_eq (p0_text : ByteArray) (p1_k : Int) (h0 : H) (post : Value → H → Prop) : exec Tryz.prog (bodyOf Tryz.f7) f7_hint (retQ Tryz.prog Tryz.f7 post) (F0 [(Value.string p0_text), (Value.int .i64 p1_k)]) h0 = f7_sem p0_text p1_k h0 post := by kernel_rfl
set_option maxRecDepth 20000 in
theorem f7_call (p0_text : ByteArray) (p1_k : Int) (h0 : H) (post : Value → H → Prop) (hx : f7_sem p0_text p1_k h0 post) : SemCall Tryz.prog 7 (List.toArray [(Value.string p0_text), (Value.int .i64 p1_k)]) h0 post :=
 sem_of_exec (g := f7_hint) mixed Tryz.func7 (bodyOf_eq (by kernel_rfl)) (by kernel_rfl) ((f7_eq p0_text p1_k h0 post).mpr hx)
def f8_L1 (p0_text : ByteArray) (R7 : Int → H → Prop) (I8 : Nat → Int → Int → H → Prop) (n9 : Nat) (x12_lines : Int) (x13_i : Int) (h14 : H) : Prop :=
 VIf (decide (x13_i < ((ByteArray.size p0_text : Nat) : Int))) (
 ∃ R15 : Bool → H → Prop, (
 0 ≤ x13_i ∧ x13_i < ((ByteArray.size p0_text : Nat) : Int) ∧
 VIf (((((ByteArray.data p0_text).toList.getD (x13_i).toNat 0).toNat : Nat) : Int) == (10 : Int)) (
 (∃ h16, Gh h14 h16 ∧ R15 true h16)) (
 In64 (((ByteArray.size p0_text : Nat) : Int) - (1 : Int)) ∧
 (∃ h17, Gh h14 h17 ∧ R15 (x13_i == (((ByteArray.size p0_text : Nat) : Int) - (1 : Int))) h17))) ∧
 ∀ (_ : F) (x18 : Bool) (h19 : H), R15 x18 h19 →
 VIf x18 (
 In64 (x12_lines + (1 : Int)) ∧
 In64 (x13_i + (1 : Int)) ∧
 ∃ m10, m10 < n9 ∧ (∃ h20, Gh h19 h20 ∧ I8 m10 (x12_lines + (1 : Int)) (x13_i + (1 : Int)) h20)) (
 In64 (x13_i + (1 : Int)) ∧
 ∃ m10, m10 < n9 ∧ (∃ h21, Gh h19 h21 ∧ I8 m10 x12_lines (x13_i + (1 : Int)) h21))) (
 (∃ h22, Gh h14 h22 ∧ R7 x12_lines h22))
def f8_L2 (x6 : ByteArray) (R25 : Int → H → Prop) (I26 : Nat → Int → Int → H → Prop) (n27 : Nat) (x30_ends : Int) (x31_i : Int) (h32 : H) : Prop :=
 VIf (decide (x31_i < ((ByteArray.size x6 : Nat) : Int))) (
 0 ≤ x31_i ∧ x31_i < ((ByteArray.size x6 : Nat) : Int) ∧
 VIf (((((ByteArray.data x6).toList.getD (x31_i).toNat 0).toNat : Nat) : Int) == (10 : Int)) (
 In64 (x30_ends + (1 : Int)) ∧
 In64 (x31_i + (1 : Int)) ∧
 ∃ m28, m28 < n27 ∧ (∃ h33, Gh h32 h33 ∧ I26 m28 (x30_ends + (1 : Int)) (x31_i + (1 : Int)) h33)) (
 In64 (x31_i + (1 : Int)) ∧
 ∃ m28, m28 < n27 ∧ (∃ h34, Gh h32 h34 ∧ I26 m28 x30_ends (x31_i + (1 : Int)) h34))) (
 (∃ h35, Gh h32 h35 ∧ R25 x30_ends h35))
def f8_J3 (post : Value → H → Prop) (x6 : ByteArray) (x23_lines : Int) (x36_ends : Int) (h37 : H) : Prop :=
 ∃ R38 : Bool → H → Prop, (
 VIf (x36_ends == x23_lines) (
 VIf (((ByteArray.size x6 : Nat) : Int) == (0 : Int)) (
 (∃ h39, Gh h37 h39 ∧ R38 true h39)) (
 In64 (((ByteArray.size x6 : Nat) : Int) - (1 : Int)) ∧
 0 ≤ (((ByteArray.size x6 : Nat) : Int) - (1 : Int)) ∧ (((ByteArray.size x6 : Nat) : Int) - (1 : Int)) < ((ByteArray.size x6 : Nat) : Int) ∧
 (∃ h40, Gh h37 h40 ∧ R38 (((((ByteArray.data x6).toList.getD ((((ByteArray.size x6 : Nat) : Int) - (1 : Int))).toNat 0).toNat : Nat) : Int) == (10 : Int)) h40))) (
 (∃ h41, Gh h37 h41 ∧ R38 false h41))) ∧
 ∀ (_ : F) (x42 : Bool) (h43 : H), R38 x42 h43 →
 VRet h43 (Value.bool x42) post
def f8_sem (p0_text : ByteArray) (h0 : H) (post : Value → H → Prop) : Prop :=
 SemCall Go.Proofs.Tryz.prog 20 (List.toArray [(Value.string (ByteArray.mk (List.toArray [(114 : UInt8), (111 : UInt8), (119 : UInt8), (10 : UInt8), (10 : UInt8), (98 : UInt8)])))]) h0 fun v1 h2 =>
 ∃ x3 : ByteArray, v1 = (Value.string x3) ∧
 VIf (!(ByteArray.toList x3 == ByteArray.toList (ByteArray.mk (List.toArray [(114 : UInt8), (111 : UInt8), (119 : UInt8), (32 : UInt8), (48 : UInt8), (32 : UInt8), (49 : UInt8), (32 : UInt8), (50 : UInt8), (10 : UInt8), (98 : UInt8), (97 : UInt8), (100 : UInt8), (10 : UInt8), (98 : UInt8), (97 : UInt8), (100 : UInt8), (10 : UInt8)])))) (
 VRet h2 (Value.bool false) post) (
 SemCall Go.Proofs.Tryz.prog 20 (List.toArray [(Value.string p0_text)]) h2 fun v4 h5 =>
 ∃ x6 : ByteArray, v4 = (Value.string x6) ∧
 VIf (decide (((ByteArray.size p0_text : Nat) : Int) > (3000 : Int))) (
 VRet h5 (Value.bool (ByteArray.toList x6 == ByteArray.toList (ByteArray.mk (List.toArray [(116 : UInt8), (111 : UInt8), (111 : UInt8), (32 : UInt8), (108 : UInt8), (111 : UInt8), (110 : UInt8), (103 : UInt8), (10 : UInt8)])))) post) (
 ∃ R7 : Int → H → Prop, (
 ∃ I8 : Nat → Int → Int → H → Prop, (∃ n9, (∃ h11, Gh h5 h11 ∧ I8 n9 (0 : Int) (0 : Int) h11)) ∧
 ∀ (n9 : Nat) (_ : F) (x12_lines : Int) (x13_i : Int) (h14 : H), I8 n9 x12_lines x13_i h14 →
 f8_L1 p0_text R7 I8 n9 x12_lines x13_i h14) ∧
 ∀ (_ : F) (x23_lines : Int) (h24 : H), R7 x23_lines h24 →
 ∃ R25 : Int → H → Prop, (
 ∃ I26 : Nat → Int → Int → H → Prop, (∃ n27, (∃ h29, Gh h24 h29 ∧ I26 n27 (0 : Int) (0 : Int) h29)) ∧
 ∀ (n27 : Nat) (_ : F) (x30_ends : Int) (x31_i : Int) (h32 : H), I26 n27 x30_ends x31_i h32 →
 f8_L2 x6 R25 I26 n27 x30_ends x31_i h32) ∧
 ∀ (_ : F) (x36_ends : Int) (h37 : H), R25 x36_ends h37 →
 f8_J3 post x6 x23_lines x36_ends h37))
def f8_hint : Hint := (.node .leaf (.node .leaf (.node .leaf (.node .leaf (.node .leaf (.node .leaf (.node (.node .leaf (.join [(5, .int)] (.node (.loop [(5, .int), (6, .int)] (.node .leaf (.node (.node (.node (.join [(35, .bool)] .leaf) .leaf) .leaf) .leaf))) .leaf))) (.node .leaf (.node (.node .leaf (.join [(7, .int)] (.node (.loop [(7, .int), (8, .int)] .leaf) .leaf))) (.node (.join [(2, .bool)] .leaf) .leaf))))))))))
theorem f8_eq (p0_text : ByteArray) (h0 : H) (post : Value → H → Prop) : exec Tryz.prog (bodyOf Tryz.f8) f8_hint (retQ Tryz.prog Tryz.f8 post) (F0 [(Value.string p0_text)]) h0 = f8_sem p0_text h0 post := by kernel_rfl
set_option maxRecDepth 20000 in
theorem f8_call (p0_text : ByteArray) (h0 : H) (post : Value → H → Prop) (hx : f8_sem p0_text h0 post) : SemCall Tryz.prog 8 (List.toArray [(Value.string p0_text)]) h0 post :=
 sem_of_exec (g := f8_hint) mixed Tryz.func8 (bodyOf_eq (by kernel_rfl)) (by kernel_rfl) ((f8_eq p0_text h0 post).mpr hx)
def f9_J1 (post : Value → H → Prop) (x15 : ByteArray) (I22 : Nat → Int → Int → H → Prop) (n23 : Nat) (x26_set : Int) (x27_k : Int) (x33 : Bool) (h34 : H) : Prop :=
 VIf x33 (
 VRet h34 (Value.bool false) post) (
 H.new h34 [(Value.int .i64 (1 : Int)), (Value.int .i64 (10 : Int)), (Value.int .i64 (100 : Int))] fun r35 h36 =>
 In64 ((((ByteArray.data x15).toList.getD (((4 : Int) + ((2 : Int) * x27_k))).toNat 0).toNat : Nat) : Int) ∧
 In64 (((((ByteArray.data x15).toList.getD (((4 : Int) + ((2 : Int) * x27_k))).toNat 0).toNat : Nat) : Int) - (48 : Int)) ∧
 ∃ b37 : Addr, (some (Addr.mk r35 0 none)) = some b37 ∧ 0 ≤ (((((ByteArray.data x15).toList.getD (((4 : Int) + ((2 : Int) * x27_k))).toNat 0).toNat : Nat) : Int) - (48 : Int)) ∧ (((((ByteArray.data x15).toList.getD (((4 : Int) + ((2 : Int) * x27_k))).toNat 0).toNat : Nat) : Int) - (48 : Int)) < ((3 : Nat) : Int) ∧
 ∃ x38 : Int, H.rd h36 (Addr.add (Addr.add b37 (((((((ByteArray.data x15).toList.getD (((4 : Int) + ((2 : Int) * x27_k))).toNat 0).toNat : Nat) : Int) - (48 : Int))).toNat * 1)) 0) (Value.int .i64 x38) ∧
 In64 (x26_set + x38) ∧
 In64 (x27_k + (1 : Int)) ∧
 ∃ m24, m24 < n23 ∧ (∃ h39, Gh h36 h39 ∧ I22 m24 (x26_set + x38) (x27_k + (1 : Int)) h39))
def f9_L2 (post : Value → H → Prop) (x15 : ByteArray) (R21 : Int → H → Prop) (I22 : Nat → Int → Int → H → Prop) (n23 : Nat) (x26_set : Int) (x27_k : Int) (h28 : H) : Prop :=
 VIf (decide (x27_k < (3 : Int))) (
 In64 ((2 : Int) * x27_k) ∧
 In64 ((4 : Int) + ((2 : Int) * x27_k)) ∧
 0 ≤ ((4 : Int) + ((2 : Int) * x27_k)) ∧ ((4 : Int) + ((2 : Int) * x27_k)) < ((ByteArray.size x15 : Nat) : Int) ∧
 ∃ R29 : Bool → H → Prop, (
 In64 ((2 : Int) * x27_k) ∧
 In64 ((3 : Int) + ((2 : Int) * x27_k)) ∧
 0 ≤ ((3 : Int) + ((2 : Int) * x27_k)) ∧ ((3 : Int) + ((2 : Int) * x27_k)) < ((ByteArray.size x15 : Nat) : Int) ∧
 VIf (((((ByteArray.data x15).toList.getD (((3 : Int) + ((2 : Int) * x27_k))).toNat 0).toNat : Nat) : Int) != (32 : Int)) (
 (∃ h30, Gh h28 h30 ∧ R29 true h30)) (
 VIf (decide (((((ByteArray.data x15).toList.getD (((4 : Int) + ((2 : Int) * x27_k))).toNat 0).toNat : Nat) : Int) < (48 : Int))) (
 (∃ h31, Gh h28 h31 ∧ R29 true h31)) (
 (∃ h32, Gh h28 h32 ∧ R29 (decide (((((ByteArray.data x15).toList.getD (((4 : Int) + ((2 : Int) * x27_k))).toNat 0).toNat : Nat) : Int) > (50 : Int))) h32)))) ∧
 ∀ (_ : F) (x33 : Bool) (h34 : H), R29 x33 h34 →
 f9_J1 post x15 I22 n23 x26_set x27_k x33 h34) (
 (∃ h40, Gh h28 h40 ∧ R21 x26_set h40))
def f9_J3 (p0_text : ByteArray) (post : Value → H → Prop) (x8 : Bool) (h9 : H) : Prop :=
 VIf x8 (
 VRet h9 (Value.bool true) post) (
 ((ByteArray.size p0_text + ByteArray.size (ByteArray.mk (List.toArray [(114 : UInt8), (111 : UInt8), (119 : UInt8), (10 : UInt8)])) : Nat) : Int) ≤ 9223372036854775807 ∧
 SemCall Go.Proofs.Tryz.prog 20 (List.toArray [(Value.string (p0_text ++ (ByteArray.mk (List.toArray [(114 : UInt8), (111 : UInt8), (119 : UInt8), (10 : UInt8)]))))]) h9 fun v10 h11 =>
 ∃ x12 : ByteArray, v10 = (Value.string x12) ∧
 SemCall Go.Proofs.Tryz.prog 22 (List.toArray [(Value.string x12)]) h11 fun v13 h14 =>
 ∃ x15 : ByteArray, v13 = (Value.string x15) ∧
 ∃ R16 : Bool → H → Prop, (
 VIf (((ByteArray.size x15 : Nat) : Int) != (10 : Int)) (
 (∃ h17, Gh h14 h17 ∧ R16 true h17)) (
 0 ≤ (3 : Int) ∧ (3 : Int) ≤ ((ByteArray.size x15 : Nat) : Int) ∧
 (∃ h18, Gh h14 h18 ∧ R16 (!(ByteArray.toList (ByteArray.extract x15 0 ((3 : Int)).toNat) == ByteArray.toList (ByteArray.mk (List.toArray [(114 : UInt8), (111 : UInt8), (119 : UInt8)])))) h18))) ∧
 ∀ (_ : F) (x19 : Bool) (h20 : H), R16 x19 h20 →
 VIf x19 (
 VRet h20 (Value.bool false) post) (
 ∃ R21 : Int → H → Prop, (
 ∃ I22 : Nat → Int → Int → H → Prop, (∃ n23, (∃ h25, Gh h20 h25 ∧ I22 n23 (0 : Int) (0 : Int) h25)) ∧
 ∀ (n23 : Nat) (_ : F) (x26_set : Int) (x27_k : Int) (h28 : H), I22 n23 x26_set x27_k h28 →
 f9_L2 post x15 R21 I22 n23 x26_set x27_k h28) ∧
 ∀ (_ : F) (x41_set : Int) (h42 : H), R21 x41_set h42 →
 VRet h42 (Value.bool (x41_set == (111 : Int))) post))
def f9_sem (p0_text : ByteArray) (h0 : H) (post : Value → H → Prop) : Prop :=
 SemCall Go.Proofs.Tryz.prog 20 (List.toArray [(Value.string (ByteArray.mk (List.toArray [(102 : UInt8), (114 : UInt8), (101 : UInt8), (101 : UInt8)])))]) h0 fun v1 h2 =>
 ∃ x3 : ByteArray, v1 = (Value.string x3) ∧
 VIf (!(ByteArray.toList x3 == ByteArray.toList (ByteArray.mk (List.toArray [(102 : UInt8), (114 : UInt8), (101 : UInt8), (101 : UInt8), (32 : UInt8), (54 : UInt8), (32 : UInt8), (52 : UInt8), (10 : UInt8)])))) (
 VRet h2 (Value.bool false) post) (
 ∃ R4 : Bool → H → Prop, (
 VIf (decide (((ByteArray.size p0_text : Nat) : Int) > (2900 : Int))) (
 (∃ h5, Gh h2 h5 ∧ R4 true h5)) (
 VIf (decide (((ByteArray.size p0_text : Nat) : Int) > (0 : Int))) (
 In64 (((ByteArray.size p0_text : Nat) : Int) - (1 : Int)) ∧
 0 ≤ (((ByteArray.size p0_text : Nat) : Int) - (1 : Int)) ∧ (((ByteArray.size p0_text : Nat) : Int) - (1 : Int)) < ((ByteArray.size p0_text : Nat) : Int) ∧
 (∃ h6, Gh h2 h6 ∧ R4 (((((ByteArray.data p0_text).toList.getD ((((ByteArray.size p0_text : Nat) : Int) - (1 : Int))).toNat 0).toNat : Nat) : Int) != (10 : Int)) h6)) (
 (∃ h7, Gh h2 h7 ∧ R4 false h7)))) ∧
 ∀ (_ : F) (x8 : Bool) (h9 : H), R4 x8 h9 →
 f9_J3 p0_text post x8 h9)
def f9_hint : Hint := (.node .leaf (.node .leaf (.node .leaf (.node (.node (.join [(26, .bool)] .leaf) .leaf) (.node .leaf (.node (.node (.join [(38, .bool)] .leaf) .leaf) (.node .leaf (.node (.node .leaf (.join [(5, .int)] (.node (.loop [(5, .int), (6, .int)] (.node .leaf (.node (.node (.node .leaf (.node (.node (.join [(61, .bool)] .leaf) .leaf) .leaf)) .leaf) .leaf))) .leaf))) .leaf))))))))
theorem f9_eq (p0_text : ByteArray) (h0 : H) (post : Value → H → Prop) : exec Tryz.prog (bodyOf Tryz.f9) f9_hint (retQ Tryz.prog Tryz.f9 post) (F0 [(Value.string p0_text)]) h0 = f9_sem p0_text h0 post := by kernel_rfl
set_option maxRecDepth 20000 in
theorem f9_call (p0_text : ByteArray) (h0 : H) (post : Value → H → Prop) (hx : f9_sem p0_text h0 post) : SemCall Tryz.prog 9 (List.toArray [(Value.string p0_text)]) h0 post :=
 sem_of_exec (g := f9_hint) mixed Tryz.func9 (bodyOf_eq (by kernel_rfl)) (by kernel_rfl) ((f9_eq p0_text h0 post).mpr hx)
def f10_J1 (p0_text : ByteArray) (post : Value → H → Prop) (x8 : Bool) (h9 : H) : Prop :=
 VIf x8 (
 VRet h9 (Value.bool true) post) (
 ((ByteArray.size p0_text + ByteArray.size (ByteArray.mk (List.toArray [(102 : UInt8), (114 : UInt8), (101 : UInt8), (101 : UInt8), (10 : UInt8)])) : Nat) : Int) ≤ 9223372036854775807 ∧
 SemCall Go.Proofs.Tryz.prog 20 (List.toArray [(Value.string (p0_text ++ (ByteArray.mk (List.toArray [(102 : UInt8), (114 : UInt8), (101 : UInt8), (101 : UInt8), (10 : UInt8)]))))]) h9 fun v10 h11 =>
 ∃ x12 : ByteArray, v10 = (Value.string x12) ∧
 SemCall Go.Proofs.Tryz.prog 23 (List.toArray [(Value.string x12)]) h11 fun v13 h14 =>
 ∃ x15 : ByteArray, v13 = (Value.string x15) ∧
 ((ByteArray.size p0_text + ByteArray.size (ByteArray.mk (List.toArray [(99 : UInt8), (114 : UInt8), (97 : UInt8), (115 : UInt8), (104 : UInt8), (32 : UInt8), (57 : UInt8), (57 : UInt8), (57 : UInt8), (57 : UInt8), (57 : UInt8), (57 : UInt8), (57 : UInt8), (10 : UInt8), (102 : UInt8), (114 : UInt8), (101 : UInt8), (101 : UInt8), (10 : UInt8)])) : Nat) : Int) ≤ 9223372036854775807 ∧
 SemCall Go.Proofs.Tryz.prog 20 (List.toArray [(Value.string (p0_text ++ (ByteArray.mk (List.toArray [(99 : UInt8), (114 : UInt8), (97 : UInt8), (115 : UInt8), (104 : UInt8), (32 : UInt8), (57 : UInt8), (57 : UInt8), (57 : UInt8), (57 : UInt8), (57 : UInt8), (57 : UInt8), (57 : UInt8), (10 : UInt8), (102 : UInt8), (114 : UInt8), (101 : UInt8), (101 : UInt8), (10 : UInt8)]))))]) h14 fun v16 h17 =>
 ∃ x18 : ByteArray, v16 = (Value.string x18) ∧
 SemCall Go.Proofs.Tryz.prog 23 (List.toArray [(Value.string x18)]) h17 fun v19 h20 =>
 ∃ x21 : ByteArray, v19 = (Value.string x21) ∧
 ∃ R22 : Bool → H → Prop, (
 VIf (ByteArray.toList x15 == ByteArray.toList x21) (
 (∃ h23, Gh h20 h23 ∧ R22 (decide (((ByteArray.size x15 : Nat) : Int) > (0 : Int))) h23)) (
 (∃ h24, Gh h20 h24 ∧ R22 false h24))) ∧
 ∀ (_ : F) (x25 : Bool) (h26 : H), R22 x25 h26 →
 VRet h26 (Value.bool x25) post)
def f10_sem (p0_text : ByteArray) (h0 : H) (post : Value → H → Prop) : Prop :=
 SemCall Go.Proofs.Tryz.prog 20 (List.toArray [(Value.string (ByteArray.mk (List.toArray [(102 : UInt8), (114 : UInt8), (101 : UInt8), (101 : UInt8)])))]) h0 fun v1 h2 =>
 ∃ x3 : ByteArray, v1 = (Value.string x3) ∧
 VIf (!(ByteArray.toList x3 == ByteArray.toList (ByteArray.mk (List.toArray [(102 : UInt8), (114 : UInt8), (101 : UInt8), (101 : UInt8), (32 : UInt8), (54 : UInt8), (32 : UInt8), (52 : UInt8), (10 : UInt8)])))) (
 VRet h2 (Value.bool false) post) (
 ∃ R4 : Bool → H → Prop, (
 VIf (decide (((ByteArray.size p0_text : Nat) : Int) > (2900 : Int))) (
 (∃ h5, Gh h2 h5 ∧ R4 true h5)) (
 VIf (decide (((ByteArray.size p0_text : Nat) : Int) > (0 : Int))) (
 In64 (((ByteArray.size p0_text : Nat) : Int) - (1 : Int)) ∧
 0 ≤ (((ByteArray.size p0_text : Nat) : Int) - (1 : Int)) ∧ (((ByteArray.size p0_text : Nat) : Int) - (1 : Int)) < ((ByteArray.size p0_text : Nat) : Int) ∧
 (∃ h6, Gh h2 h6 ∧ R4 (((((ByteArray.data p0_text).toList.getD ((((ByteArray.size p0_text : Nat) : Int) - (1 : Int))).toNat 0).toNat : Nat) : Int) != (10 : Int)) h6)) (
 (∃ h7, Gh h2 h7 ∧ R4 false h7)))) ∧
 ∀ (_ : F) (x8 : Bool) (h9 : H), R4 x8 h9 →
 f10_J1 p0_text post x8 h9)
def f10_hint : Hint := (.node .leaf (.node .leaf (.node .leaf (.node (.node (.join [(24, .bool)] .leaf) .leaf) (.node .leaf (.node .leaf (.node (.join [(2, .bool)] .leaf) .leaf)))))))
theorem f10_eq (p0_text : ByteArray) (h0 : H) (post : Value → H → Prop) : exec Tryz.prog (bodyOf Tryz.f10) f10_hint (retQ Tryz.prog Tryz.f10 post) (F0 [(Value.string p0_text)]) h0 = f10_sem p0_text h0 post := by kernel_rfl
set_option maxRecDepth 20000 in
theorem f10_call (p0_text : ByteArray) (h0 : H) (post : Value → H → Prop) (hx : f10_sem p0_text h0 post) : SemCall Tryz.prog 10 (List.toArray [(Value.string p0_text)]) h0 post :=
 sem_of_exec (g := f10_hint) mixed Tryz.func10 (bodyOf_eq (by kernel_rfl)) (by kernel_rfl) ((f10_eq p0_text h0 post).mpr hx)
def f22_L1 (p0_s : ByteArray) (R1 : Int → H → Prop) (I2 : Nat → Int → H → Prop) (n3 : Nat) (x6_i : Int) (h7 : H) : Prop :=
 ∃ R8 : Bool → H → Prop, (
 VIf (decide (x6_i > (0 : Int))) (
 In64 (x6_i - (1 : Int)) ∧
 0 ≤ (x6_i - (1 : Int)) ∧ (x6_i - (1 : Int)) < ((ByteArray.size p0_s : Nat) : Int) ∧
 (∃ h9, Gh h7 h9 ∧ R8 (((((ByteArray.data p0_s).toList.getD ((x6_i - (1 : Int))).toNat 0).toNat : Nat) : Int) != (10 : Int)) h9)) (
 (∃ h10, Gh h7 h10 ∧ R8 false h10))) ∧
 ∀ (_ : F) (x11 : Bool) (h12 : H), R8 x11 h12 →
 VIf x11 (
 In64 (x6_i - (1 : Int)) ∧
 ∃ m4, m4 < n3 ∧ (∃ h13, Gh h12 h13 ∧ I2 m4 (x6_i - (1 : Int)) h13)) (
 (∃ h14, Gh h12 h14 ∧ R1 x6_i h14))
def f22_sem (p0_s : ByteArray) (h0 : H) (post : Value → H → Prop) : Prop :=
 In64 (((ByteArray.size p0_s : Nat) : Int) - (1 : Int)) ∧
 ∃ R1 : Int → H → Prop, (
 ∃ I2 : Nat → Int → H → Prop, (∃ n3, (∃ h5, Gh h0 h5 ∧ I2 n3 (((ByteArray.size p0_s : Nat) : Int) - (1 : Int)) h5)) ∧
 ∀ (n3 : Nat) (_ : F) (x6_i : Int) (h7 : H), I2 n3 x6_i h7 →
 f22_L1 p0_s R1 I2 n3 x6_i h7) ∧
 ∀ (_ : F) (x15_i : Int) (h16 : H), R1 x15_i h16 →
 VIf (decide (x15_i < (0 : Int))) (
 VRet h16 (Value.string (ByteArray.mk (List.toArray []))) post) (
 0 ≤ x15_i ∧ x15_i ≤ ((ByteArray.size p0_s : Nat) : Int) ∧
 VRet h16 (Value.string (ByteArray.extract p0_s (x15_i).toNat (ByteArray.size p0_s))) post)
def f22_hint : Hint := (.node .leaf (.node .leaf (.node (.join [(3, .int)] (.node (.loop [(3, .int)] (.node (.node (.join [(15, .bool)] .leaf) .leaf) .leaf)) .leaf)) .leaf)))
theorem f22_eq (p0_s : ByteArray) (h0 : H) (post : Value → H → Prop) : exec Tryz.prog (bodyOf Tryz.f22) f22_hint (retQ Tryz.prog Tryz.f22 post) (F0 [(Value.string p0_s)]) h0 = f22_sem p0_s h0 post := by kernel_rfl
set_option maxRecDepth 20000 in
theorem f22_call (p0_s : ByteArray) (h0 : H) (post : Value → H → Prop) (hx : f22_sem p0_s h0 post) : SemCall Tryz.prog 22 (List.toArray [(Value.string p0_s)]) h0 post :=
 sem_of_exec (g := f22_hint) mixed Tryz.func22 (bodyOf_eq (by kernel_rfl)) (by kernel_rfl) ((f22_eq p0_s h0 post).mpr hx)
def f23_L1 (p0_s : ByteArray) (R1 : Int → H → Prop) (I2 : Nat → Int → H → Prop) (n3 : Nat) (x6_i : Int) (h7 : H) : Prop :=
 ∃ R8 : Bool → H → Prop, (
 VIf (decide (x6_i > (0 : Int))) (
 In64 (x6_i - (1 : Int)) ∧
 0 ≤ (x6_i - (1 : Int)) ∧ (x6_i - (1 : Int)) < ((ByteArray.size p0_s : Nat) : Int) ∧
 (∃ h9, Gh h7 h9 ∧ R8 (((((ByteArray.data p0_s).toList.getD ((x6_i - (1 : Int))).toNat 0).toNat : Nat) : Int) != (10 : Int)) h9)) (
 (∃ h10, Gh h7 h10 ∧ R8 false h10))) ∧
 ∀ (_ : F) (x11 : Bool) (h12 : H), R8 x11 h12 →
 VIf x11 (
 In64 (x6_i - (1 : Int)) ∧
 ∃ m4, m4 < n3 ∧ (∃ h13, Gh h12 h13 ∧ I2 m4 (x6_i - (1 : Int)) h13)) (
 (∃ h14, Gh h12 h14 ∧ R1 x6_i h14))
def f23_sem (p0_s : ByteArray) (h0 : H) (post : Value → H → Prop) : Prop :=
 In64 (((ByteArray.size p0_s : Nat) : Int) - (1 : Int)) ∧
 ∃ R1 : Int → H → Prop, (
 ∃ I2 : Nat → Int → H → Prop, (∃ n3, (∃ h5, Gh h0 h5 ∧ I2 n3 (((ByteArray.size p0_s : Nat) : Int) - (1 : Int)) h5)) ∧
 ∀ (n3 : Nat) (_ : F) (x6_i : Int) (h7 : H), I2 n3 x6_i h7 →
 f23_L1 p0_s R1 I2 n3 x6_i h7) ∧
 ∀ (_ : F) (x15_i : Int) (h16 : H), R1 x15_i h16 →
 VIf (decide (x15_i < (0 : Int))) (
 VRet h16 (Value.string (ByteArray.mk (List.toArray []))) post) (
 0 ≤ x15_i ∧ x15_i ≤ ((ByteArray.size p0_s : Nat) : Int) ∧
 VRet h16 (Value.string (ByteArray.extract p0_s (x15_i).toNat (ByteArray.size p0_s))) post)
def f23_hint : Hint := (.node .leaf (.node .leaf (.node (.join [(3, .int)] (.node (.loop [(3, .int)] (.node (.node (.join [(15, .bool)] .leaf) .leaf) .leaf)) .leaf)) .leaf)))
theorem f23_eq (p0_s : ByteArray) (h0 : H) (post : Value → H → Prop) : exec Tryz.prog (bodyOf Tryz.f23) f23_hint (retQ Tryz.prog Tryz.f23 post) (F0 [(Value.string p0_s)]) h0 = f23_sem p0_s h0 post := by kernel_rfl
set_option maxRecDepth 20000 in
theorem f23_call (p0_s : ByteArray) (h0 : H) (post : Value → H → Prop) (hx : f23_sem p0_s h0 post) : SemCall Tryz.prog 23 (List.toArray [(Value.string p0_s)]) h0 post :=
 sem_of_exec (g := f23_hint) mixed Tryz.func23 (bodyOf_eq (by kernel_rfl)) (by kernel_rfl) ((f23_eq p0_s h0 post).mpr hx)
end Go.Proofs.YtnppmcgmmdcpiaaGreatDoor
