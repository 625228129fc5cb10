import Derived.Test.YtnepjdobknjecaaDoorEngG
import Derived.Test.YtnepjdobknjecaaDoorRows
import Derived.Test.YtnepjdobknjecaaDoorT
namespace Go.Proofs.YtnepjdobknjecaaDoor
open Go.Eng
/- latchgarth/latchgarthlaw4.BankRow -/
def f3_L1 (p1_row : SV) (post : Value → H → Prop) (x12 : SV) (R36 : H → Prop) (I37 : Nat → Int → H → Prop) (n38 : Nat) (x41_k : Int) (h42 : H) : Prop :=
 VIf (decide (x41_k < ((x12.len : Nat) : Int))) (
 ∃ b43 : Addr, x12.a = some b43 ∧ 0 ≤ x41_k ∧ x41_k < ((x12.len : Nat) : Int) ∧
 ∃ x44 : Int, H.rd h42 (Addr.add (Addr.add b43 ((x41_k).toNat * 1)) 0) (Value.int .i64 x44) ∧
 ∃ b45 : Addr, p1_row.a = some b45 ∧ 0 ≤ x41_k ∧ x41_k < ((p1_row.len : Nat) : Int) ∧
 ∃ x46 : Int, H.rd h42 (Addr.add (Addr.add b45 ((x41_k).toNat * 1)) 0) (Value.int .i64 x46) ∧
 VIf (x44 != x46) (
 ∃ b47 : Addr, x12.a = some b47 ∧ 0 ≤ x41_k ∧ x41_k < ((x12.len : Nat) : Int) ∧
 ∃ x48 : Int, H.rd h42 (Addr.add (Addr.add b47 ((x41_k).toNat * 1)) 0) (Value.int .i64 x48) ∧
 ∃ b49 : Addr, p1_row.a = some b49 ∧ 0 ≤ x41_k ∧ x41_k < ((p1_row.len : Nat) : Int) ∧
 ∃ x50 : Int, H.rd h42 (Addr.add (Addr.add b49 ((x41_k).toNat * 1)) 0) (Value.int .i64 x50) ∧
 VRet h42 (Value.bool (decide (x48 < x50))) post) (
 In64 (x41_k + (1 : Int)) ∧
 ∃ m39, m39 < n38 ∧ (∃ h51, Gh h42 h51 ∧ I37 m39 (x41_k + (1 : Int)) h51))) (
 (∃ h52, Gh h42 h52 ∧ R36 h52))

def f3_J2 (p1_row : SV) (post : Value → H → Prop) (r1 : Nat) (x11 : Bool) (x12 : SV) (x28 : Bool) (h29 : H) : Prop :=
 VIf x28 (
 VRet h29 (Value.bool false) post) (
 ∃ x30 : SV, H.rd h29 (Addr.add (Addr.mk r1 0 none) 0) (Value.slice x30.a x30.len x30.cap) ∧
 ∃ x31 : SV, H.rd h29 (Addr.add (Addr.mk r1 0 none) 1) (Value.slice x31.a x31.len x31.cap) ∧
 ∃ x32 : SV, H.rd h29 (Addr.add (Addr.mk r1 0 none) 2) (Value.slice x32.a x32.len x32.cap) ∧
 SemCall Go.Proofs.Tryd.prog 11 (List.toArray [(Value.agg (List.toArray [(Value.slice x30.a x30.len x30.cap), (Value.slice x31.a x31.len x31.cap), (Value.slice x32.a x32.len x32.cap)])), (Value.slice p1_row.a p1_row.len p1_row.cap)]) h29 fun v33 h34 =>
 ∃ x35 : Bool, v33 = (Value.bool x35) ∧
 VIf (!x35) (
 VRet h34 (Value.bool true) post) (
 VIf (!x11) (
 VRet h34 (Value.bool false) post) (
 ∃ R36 : H → Prop, (
 ∃ I37 : Nat → Int → H → Prop, (∃ n38, (∃ h40, Gh h34 h40 ∧ I37 n38 (0 : Int) h40)) ∧
 ∀ (n38 : Nat) (_ : F) (x41_k : Int) (h42 : H), I37 n38 x41_k h42 →
 f3_L1 p1_row post x12 R36 I37 n38 x41_k h42) ∧
 ∀ (_ : F) (h53 : H), R36 h53 →
 VRet h53 (Value.bool true) post)))

def f3_sem (p0_0_b : SV) (p0_1_b : SV) (p0_2_b : SV) (p1_row : SV) (h0 : H) (post : Value → H → Prop) : Prop :=
 H.new h0 [(Value.slice p0_0_b.a p0_0_b.len p0_0_b.cap), (Value.slice p0_1_b.a p0_1_b.len p0_1_b.cap), (Value.slice p0_2_b.a p0_2_b.len p0_2_b.cap)] fun r1 h2 =>
 SemCall Go.Proofs.Tryd.prog 9 (List.toArray []) h2 fun v3 h4 =>
 ∃ x5 : Bool, v3 = (Value.bool x5) ∧
 VIf (!x5) (
 VRet h4 (Value.bool false) post) (
 ∃ x6 : SV, H.rd h4 (Addr.add (Addr.mk r1 0 none) 0) (Value.slice x6.a x6.len x6.cap) ∧
 ∃ x7 : SV, H.rd h4 (Addr.add (Addr.mk r1 0 none) 1) (Value.slice x7.a x7.len x7.cap) ∧
 ∃ x8 : SV, H.rd h4 (Addr.add (Addr.mk r1 0 none) 2) (Value.slice x8.a x8.len x8.cap) ∧
 SemCall Go.Proofs.Tryd.prog 10 (List.toArray [(Value.agg (List.toArray [(Value.slice x6.a x6.len x6.cap), (Value.slice x7.a x7.len x7.cap), (Value.slice x8.a x8.len x8.cap)]))]) h4 fun v9 h10 =>
 ∃ x11 : Bool, ∃ x12 : SV, ∃ x13 : Option (TypeId × Value), v9 = (Value.tuple (List.toArray [(Value.bool x11), (Value.slice x12.a x12.len x12.cap), (errV x13)])) ∧
 isIfaceV (errV x13) = true ∧
 VIf (!(isNilV (errV x13))) (
 ∃ R14 : Bool → H → Prop, (
 VIf (!x11) (
 (∃ h15, Gh h10 h15 ∧ R14 (((x12.len : Nat) : Int) == (0 : Int)) h15)) (
 (∃ h16, Gh h10 h16 ∧ R14 false h16))) ∧
 ∀ (_ : F) (x17 : Bool) (h18 : H), R14 x17 h18 →
 VRet h18 (Value.bool x17) post) (
 ∃ R19 : Bool → H → Prop, (
 VIf x11 (
 ∃ x20 : SV, H.rd h10 (Addr.add (Addr.mk r1 0 none) 0) (Value.slice x20.a x20.len x20.cap) ∧
 ∃ x21 : SV, H.rd h10 (Addr.add (Addr.mk r1 0 none) 1) (Value.slice x21.a x21.len x21.cap) ∧
 ∃ x22 : SV, H.rd h10 (Addr.add (Addr.mk r1 0 none) 2) (Value.slice x22.a x22.len x22.cap) ∧
 SemCall Go.Proofs.Tryd.prog 11 (List.toArray [(Value.agg (List.toArray [(Value.slice x20.a x20.len x20.cap), (Value.slice x21.a x21.len x21.cap), (Value.slice x22.a x22.len x22.cap)])), (Value.slice x12.a x12.len x12.cap)]) h10 fun v23 h24 =>
 ∃ x25 : Bool, v23 = (Value.bool x25) ∧
 (∃ h26, Gh h24 h26 ∧ R19 (!x25) h26)) (
 (∃ h27, Gh h10 h27 ∧ R19 false h27))) ∧
 ∀ (_ : F) (x28 : Bool) (h29 : H), R19 x28 h29 →
 f3_J2 p1_row post r1 x11 x12 x28 h29))

def f3_hint : Hint := (.node .leaf (.node .leaf (.node .leaf (.node .leaf (.node (.node .leaf (.node (.node (.join [(4, .bool)] .leaf) .leaf) .leaf)) (.node (.node (.join [(34, .bool)] .leaf) .leaf) (.node .leaf (.node .leaf (.node (.node .leaf (.join [] (.node (.loop [(9, .int)] .leaf) .leaf))) .leaf)))))))))

theorem f3_eq (p0_0_b : SV) (p0_1_b : SV) (p0_2_b : SV) (p1_row : SV) (h0 : H) (post : Value → H → Prop) : exec Tryd.prog (bodyOf Tryd.f3) f3_hint (retQ Tryd.prog Tryd.f3 post) (F0 [(Value.agg (List.toArray [(Value.slice p0_0_b.a p0_0_b.len p0_0_b.cap), (Value.slice p0_1_b.a p0_1_b.len p0_1_b.cap), (Value.slice p0_2_b.a p0_2_b.len p0_2_b.cap)])), (Value.slice p1_row.a p1_row.len p1_row.cap)]) h0 = f3_sem p0_0_b p0_1_b p0_2_b p1_row h0 post := by kernel_rfl

set_option maxRecDepth 20000 in
theorem f3_call (p0_0_b : SV) (p0_1_b : SV) (p0_2_b : SV) (p1_row : SV) (h0 : H) (post : Value → H → Prop) (hx : f3_sem p0_0_b p0_1_b p0_2_b p1_row h0 post) : SemCall Tryd.prog 3 (List.toArray [(Value.agg (List.toArray [(Value.slice p0_0_b.a p0_0_b.len p0_0_b.cap), (Value.slice p0_1_b.a p0_1_b.len p0_1_b.cap), (Value.slice p0_2_b.a p0_2_b.len p0_2_b.cap)])), (Value.slice p1_row.a p1_row.len p1_row.cap)]) h0 post :=
 sem_of_exec (g := f3_hint) mixed Tryd.func3 (bodyOf_eq (by kernel_rfl)) (by kernel_rfl) ((f3_eq p0_0_b p0_1_b p0_2_b p1_row h0 post).mpr hx)

/- latchgarth/latchgarthlaw4.BankMore -/
def f4_L1 (post : Value → H → Prop) (x12 : SV) (x48 : SV) (R58 : H → Prop) (I59 : Nat → Int → H → Prop) (n60 : Nat) (x63_i : Int) (h64 : H) : Prop :=
 VIf (decide (x63_i < ((x12.len : Nat) : Int))) (
 ∃ b65 : Addr, x48.a = some b65 ∧ 0 ≤ x63_i ∧ x63_i < ((x48.len : Nat) : Int) ∧
 ∃ x66 : Int, H.rd h64 (Addr.add (Addr.add b65 ((x63_i).toNat * 1)) 0) (Value.int .i64 x66) ∧
 ∃ b67 : Addr, x12.a = some b67 ∧ 0 ≤ x63_i ∧ x63_i < ((x12.len : Nat) : Int) ∧
 ∃ x68 : Int, H.rd h64 (Addr.add (Addr.add b67 ((x63_i).toNat * 1)) 0) (Value.int .i64 x68) ∧
 VIf (x66 != x68) (
 ∃ b69 : Addr, x48.a = some b69 ∧ 0 ≤ x63_i ∧ x63_i < ((x48.len : Nat) : Int) ∧
 ∃ x70 : Int, H.rd h64 (Addr.add (Addr.add b69 ((x63_i).toNat * 1)) 0) (Value.int .i64 x70) ∧
 ∃ b71 : Addr, x12.a = some b71 ∧ 0 ≤ x63_i ∧ x63_i < ((x12.len : Nat) : Int) ∧
 ∃ x72 : Int, H.rd h64 (Addr.add (Addr.add b71 ((x63_i).toNat * 1)) 0) (Value.int .i64 x72) ∧
 VRet h64 (Value.bool (decide (x70 < x72))) post) (
 In64 (x63_i + (1 : Int)) ∧
 ∃ m61, m61 < n60 ∧ (∃ h73, Gh h64 h73 ∧ I59 m61 (x63_i + (1 : Int)) h73))) (
 (∃ h74, Gh h64 h74 ∧ R58 h74))

def f4_J2 (p1_k : Int) (p2_more : Int) (post : Value → H → Prop) (r1 : Nat) (x11 : Bool) (x12 : SV) (x24 : Bool) (h25 : H) : Prop :=
 VIf x24 (
 VRet h25 (Value.bool true) post) (
 ∃ x26 : SV, H.rd h25 (Addr.add (Addr.add (Addr.mk r1 0 none) 1) 0) (Value.slice x26.a x26.len x26.cap) ∧
 ∃ x27 : SV, H.rd h25 (Addr.add (Addr.add (Addr.mk r1 0 none) 2) 0) (Value.slice x27.a x27.len x27.cap) ∧
 H.new h25 [(Value.slice none 0 0), (Value.slice none 0 0), (Value.slice none 0 0)] fun r28 h29 =>
 ([(Value.slice none 0 0), (Value.slice x26.a x26.len x26.cap), (Value.slice x27.a x27.len x27.cap)]).length = 3 ∧ (Program.underlying Go.Proofs.Tryd.prog 25).isSome = true ∧
 H.wr h29 (Addr.mk r28 0 none) ([(Value.slice none 0 0), (Value.slice x26.a x26.len x26.cap), (Value.slice x27.a x27.len x27.cap)]) fun h30 =>
 ∃ x31 : SV, H.rd h30 (Addr.add (Addr.add (Addr.mk r28 0 none) 0) 0) (Value.slice x31.a x31.len x31.cap) ∧
 ∃ x32 : SV, H.rd h30 (Addr.add (Addr.add (Addr.mk r1 0 none) 0) 0) (Value.slice x32.a x32.len x32.cap) ∧
 appVC Go.Proofs.Tryd.prog 22 (Value.slice x31.a x31.len x31.cap) (Value.slice x32.a x32.len x32.cap) h30 fun x33 h34 =>
 H.wr h34 (Addr.add (Addr.mk r28 0 none) 0) ([(Value.slice x33.a x33.len x33.cap)]) fun h35 =>
 ∃ x36 : SV, H.rd h35 (Addr.add (Addr.add (Addr.mk r28 0 none) 0) 0) (Value.slice x36.a x36.len x36.cap) ∧
 ∃ x37 : SV, H.rd h35 (Addr.add (Addr.add (Addr.mk r28 0 none) 0) 0) (Value.slice x37.a x37.len x37.cap) ∧
 ∃ b38 : Addr, x37.a = some b38 ∧ 0 ≤ p1_k ∧ p1_k < ((x37.len : Nat) : Int) ∧
 ∃ x39 : Int, H.rd h35 (Addr.add (Addr.add b38 ((p1_k).toNat * 1)) 0) (Value.int .i64 x39) ∧
 In64 (x39 + p2_more) ∧
 ∃ b40 : Addr, x36.a = some b40 ∧ 0 ≤ p1_k ∧ p1_k < ((x36.len : Nat) : Int) ∧
 H.wr h35 (Addr.add b40 ((p1_k).toNat * 1)) ([(Value.int .i64 (x39 + p2_more))]) fun h41 =>
 ∃ x42 : SV, H.rd h41 (Addr.add (Addr.mk r28 0 none) 0) (Value.slice x42.a x42.len x42.cap) ∧
 ∃ x43 : SV, H.rd h41 (Addr.add (Addr.mk r28 0 none) 1) (Value.slice x43.a x43.len x43.cap) ∧
 ∃ x44 : SV, H.rd h41 (Addr.add (Addr.mk r28 0 none) 2) (Value.slice x44.a x44.len x44.cap) ∧
 SemCall Go.Proofs.Tryd.prog 10 (List.toArray [(Value.agg (List.toArray [(Value.slice x42.a x42.len x42.cap), (Value.slice x43.a x43.len x43.cap), (Value.slice x44.a x44.len x44.cap)]))]) h41 fun v45 h46 =>
 ∃ x47 : Bool, ∃ x48 : SV, ∃ x49 : Option (TypeId × Value), v45 = (Value.tuple (List.toArray [(Value.bool x47), (Value.slice x48.a x48.len x48.cap), (errV x49)])) ∧
 isIfaceV (errV x49) = true ∧
 VIf (!(isNilV (errV x49))) (
 ∃ x50 : SV, H.rd h46 (Addr.add (Addr.add (Addr.mk r1 0 none) 0) 0) (Value.slice x50.a x50.len x50.cap) ∧
 ∃ b51 : Addr, x50.a = some b51 ∧ 0 ≤ p1_k ∧ p1_k < ((x50.len : Nat) : Int) ∧
 ∃ x52 : Int, H.rd h46 (Addr.add (Addr.add b51 ((p1_k).toNat * 1)) 0) (Value.int .i64 x52) ∧
 In64 (x52 + p2_more) ∧
 VRet h46 (Value.bool (decide ((x52 + p2_more) > (1000 : Int)))) post) (
 VIf (!x11) (
 VRet h46 (Value.bool true) post) (
 ∃ R53 : Bool → H → Prop, (
 VIf (!x47) (
 (∃ h54, Gh h46 h54 ∧ R53 true h54)) (
 (∃ h55, Gh h46 h55 ∧ R53 (((x48.len : Nat) : Int) != ((x12.len : Nat) : Int)) h55))) ∧
 ∀ (_ : F) (x56 : Bool) (h57 : H), R53 x56 h57 →
 VIf x56 (
 VRet h57 (Value.bool false) post) (
 ∃ R58 : H → Prop, (
 ∃ I59 : Nat → Int → H → Prop, (∃ n60, (∃ h62, Gh h57 h62 ∧ I59 n60 (0 : Int) h62)) ∧
 ∀ (n60 : Nat) (_ : F) (x63_i : Int) (h64 : H), I59 n60 x63_i h64 →
 f4_L1 post x12 x48 R58 I59 n60 x63_i h64) ∧
 ∀ (_ : F) (h75 : H), R58 h75 →
 VRet h75 (Value.bool true) post))))

def f4_sem (p0_0_b : SV) (p0_1_b : SV) (p0_2_b : SV) (p1_k : Int) (p2_more : Int) (h0 : H) (post : Value → H → Prop) : Prop :=
 H.new h0 [(Value.slice p0_0_b.a p0_0_b.len p0_0_b.cap), (Value.slice p0_1_b.a p0_1_b.len p0_1_b.cap), (Value.slice p0_2_b.a p0_2_b.len p0_2_b.cap)] fun r1 h2 =>
 SemCall Go.Proofs.Tryd.prog 9 (List.toArray []) h2 fun v3 h4 =>
 ∃ x5 : Bool, v3 = (Value.bool x5) ∧
 VIf (!x5) (
 VRet h4 (Value.bool false) post) (
 ∃ x6 : SV, H.rd h4 (Addr.add (Addr.mk r1 0 none) 0) (Value.slice x6.a x6.len x6.cap) ∧
 ∃ x7 : SV, H.rd h4 (Addr.add (Addr.mk r1 0 none) 1) (Value.slice x7.a x7.len x7.cap) ∧
 ∃ x8 : SV, H.rd h4 (Addr.add (Addr.mk r1 0 none) 2) (Value.slice x8.a x8.len x8.cap) ∧
 SemCall Go.Proofs.Tryd.prog 10 (List.toArray [(Value.agg (List.toArray [(Value.slice x6.a x6.len x6.cap), (Value.slice x7.a x7.len x7.cap), (Value.slice x8.a x8.len x8.cap)]))]) h4 fun v9 h10 =>
 ∃ x11 : Bool, ∃ x12 : SV, ∃ x13 : Option (TypeId × Value), v9 = (Value.tuple (List.toArray [(Value.bool x11), (Value.slice x12.a x12.len x12.cap), (errV x13)])) ∧
 isIfaceV (errV x13) = true ∧
 VIf (!(isNilV (errV x13))) (
 VRet h10 (Value.bool (!x11)) post) (
 ∃ R14 : Bool → H → Prop, (
 ∃ x15 : SV, H.rd h10 (Addr.add (Addr.add (Addr.mk r1 0 none) 0) 0) (Value.slice x15.a x15.len x15.cap) ∧
 In64 (((x15.len : Nat) : Int) - (1 : Int)) ∧
 SemCall Go.Proofs.Tryd.prog 12 (List.toArray [(Value.int .i64 p1_k), (Value.int .i64 0), (Value.int .i64 (((x15.len : Nat) : Int) - (1 : Int)))]) h10 fun v16 h17 =>
 ∃ x18 : Bool, v16 = (Value.bool x18) ∧
 VIf (!x18) (
 (∃ h19, Gh h17 h19 ∧ R14 true h19)) (
 SemCall Go.Proofs.Tryd.prog 12 (List.toArray [(Value.int .i64 p2_more), (Value.int .i64 0), (Value.int .i64 (100 : Int))]) h17 fun v20 h21 =>
 ∃ x22 : Bool, v20 = (Value.bool x22) ∧
 (∃ h23, Gh h21 h23 ∧ R14 (!x22) h23))) ∧
 ∀ (_ : F) (x24 : Bool) (h25 : H), R14 x24 h25 →
 f4_J2 p1_k p2_more post r1 x11 x12 x24 h25))

def f4_hint : Hint := (.node .leaf (.node .leaf (.node .leaf (.node .leaf (.node .leaf (.node (.node (.join [(40, .bool)] .leaf) .leaf) (.node .leaf (.node .leaf (.node (.tail 11) (.node .leaf (.node .leaf (.node .leaf (.node (.node (.join [(89, .bool)] .leaf) .leaf) (.node (.node .leaf (.join [] (.node (.loop [(15, .int)] .leaf) .leaf))) .leaf))))))))))))))

theorem f4_eq (p0_0_b : SV) (p0_1_b : SV) (p0_2_b : SV) (p1_k : Int) (p2_more : Int) (h0 : H) (post : Value → H → Prop) : exec Tryd.prog (bodyOf Tryd.f4) f4_hint (retQ Tryd.prog Tryd.f4 post) (F0 [(Value.agg (List.toArray [(Value.slice p0_0_b.a p0_0_b.len p0_0_b.cap), (Value.slice p0_1_b.a p0_1_b.len p0_1_b.cap), (Value.slice p0_2_b.a p0_2_b.len p0_2_b.cap)])), (Value.int .i64 p1_k), (Value.int .i64 p2_more)]) h0 = f4_sem p0_0_b p0_1_b p0_2_b p1_k p2_more h0 post := by kernel_rfl

set_option maxRecDepth 20000 in
theorem f4_call (p0_0_b : SV) (p0_1_b : SV) (p0_2_b : SV) (p1_k : Int) (p2_more : Int) (h0 : H) (post : Value → H → Prop) (hx : f4_sem p0_0_b p0_1_b p0_2_b p1_k p2_more h0 post) : SemCall Tryd.prog 4 (List.toArray [(Value.agg (List.toArray [(Value.slice p0_0_b.a p0_0_b.len p0_0_b.cap), (Value.slice p0_1_b.a p0_1_b.len p0_1_b.cap), (Value.slice p0_2_b.a p0_2_b.len p0_2_b.cap)])), (Value.int .i64 p1_k), (Value.int .i64 p2_more)]) h0 post :=
 sem_of_exec (g := f4_hint) mixed Tryd.func4 (bodyOf_eq (by kernel_rfl)) (by kernel_rfl) ((f4_eq p0_0_b p0_1_b p0_2_b p1_k p2_more h0 post).mpr hx)

/- latchgarth/latchgarthlaw4.BankSays -/
def f5_J1 (p1_t : Int) (p2_want : SV) (post : Value → H → Prop) (r1 : Nat) (x17 : Bool) (x49_two : Bool) (r60 : Nat) (r72 : Nat) (x90_three : Bool) (h91 : H) : Prop :=
 ∃ x92 : SV, H.rd h91 (Addr.add (Addr.mk r1 0 none) 0) (Value.slice x92.a x92.len x92.cap) ∧
 ∃ x93 : SV, H.rd h91 (Addr.add (Addr.mk r1 0 none) 1) (Value.slice x93.a x93.len x93.cap) ∧
 ∃ x94 : SV, H.rd h91 (Addr.add (Addr.mk r1 0 none) 2) (Value.slice x94.a x94.len x94.cap) ∧
 SemCall Go.Proofs.Tryd.prog 18 (List.toArray [(Value.agg (List.toArray [(Value.slice x92.a x92.len x92.cap), (Value.slice x93.a x93.len x93.cap), (Value.slice x94.a x94.len x94.cap)])), (Value.int .i64 p1_t), (Value.slice p2_want.a p2_want.len p2_want.cap), (Value.bool true)]) h91 fun v95 h96 =>
 ∃ x97 : SV, ∃ x98 : SV, ∃ x99 : SV, ∃ x100 : Int, v95 = (Value.tuple (List.toArray [(Value.agg (List.toArray [(Value.slice x97.a x97.len x97.cap), (Value.slice x98.a x98.len x98.cap), (Value.slice x99.a x99.len x99.cap)])), (Value.int .i64 x100)])) ∧
 ([(Value.slice x97.a x97.len x97.cap), (Value.slice x98.a x98.len x98.cap), (Value.slice x99.a x99.len x99.cap)]).length = 3 ∧ (Program.underlying Go.Proofs.Tryd.prog 25).isSome = true ∧
 H.wr h96 (Addr.mk r60 0 none) ([(Value.slice x97.a x97.len x97.cap), (Value.slice x98.a x98.len x98.cap), (Value.slice x99.a x99.len x99.cap)]) fun h101 =>
 ∃ x102 : SV, H.rd h101 (Addr.add (Addr.mk r1 0 none) 0) (Value.slice x102.a x102.len x102.cap) ∧
 ∃ x103 : SV, H.rd h101 (Addr.add (Addr.mk r1 0 none) 1) (Value.slice x103.a x103.len x103.cap) ∧
 ∃ x104 : SV, H.rd h101 (Addr.add (Addr.mk r1 0 none) 2) (Value.slice x104.a x104.len x104.cap) ∧
 SemCall Go.Proofs.Tryd.prog 21 (List.toArray [(Value.agg (List.toArray [(Value.slice x102.a x102.len x102.cap), (Value.slice x103.a x103.len x103.cap), (Value.slice x104.a x104.len x104.cap)])), (Value.int .i64 p1_t), (Value.slice p2_want.a p2_want.len p2_want.cap)]) h101 fun v105 h106 =>
 ∃ x107 : SV, ∃ x108 : SV, ∃ x109 : SV, ∃ x110 : Option (TypeId × Value), v105 = (Value.tuple (List.toArray [(Value.agg (List.toArray [(Value.slice x107.a x107.len x107.cap), (Value.slice x108.a x108.len x108.cap), (Value.slice x109.a x109.len x109.cap)])), (errV x110)])) ∧
 ([(Value.slice x107.a x107.len x107.cap), (Value.slice x108.a x108.len x108.cap), (Value.slice x109.a x109.len x109.cap)]).length = 3 ∧ (Program.underlying Go.Proofs.Tryd.prog 25).isSome = true ∧
 H.wr h106 (Addr.mk r72 0 none) ([(Value.slice x107.a x107.len x107.cap), (Value.slice x108.a x108.len x108.cap), (Value.slice x109.a x109.len x109.cap)]) fun h111 =>
 ∃ R112 : Bool → H → Prop, (
 VIf x17 (
 VIf x49_two (
 VIf x90_three (
 SemCall Go.Proofs.Tryd.prog 14 (List.toArray [(errV x110), (Value.int .i64 x100)]) h111 fun v113 h114 =>
 ∃ x115 : Bool, v113 = (Value.bool x115) ∧
 VIf x115 (
 ∃ x116 : SV, H.rd h114 (Addr.add (Addr.mk r72 0 none) 0) (Value.slice x116.a x116.len x116.cap) ∧
 ∃ x117 : SV, H.rd h114 (Addr.add (Addr.mk r72 0 none) 1) (Value.slice x117.a x117.len x117.cap) ∧
 ∃ x118 : SV, H.rd h114 (Addr.add (Addr.mk r72 0 none) 2) (Value.slice x118.a x118.len x118.cap) ∧
 ∃ x119 : SV, H.rd h114 (Addr.add (Addr.mk r60 0 none) 0) (Value.slice x119.a x119.len x119.cap) ∧
 ∃ x120 : SV, H.rd h114 (Addr.add (Addr.mk r60 0 none) 1) (Value.slice x120.a x120.len x120.cap) ∧
 ∃ x121 : SV, H.rd h114 (Addr.add (Addr.mk r60 0 none) 2) (Value.slice x121.a x121.len x121.cap) ∧
 SemCall Go.Proofs.Tryd.prog 20 (List.toArray [(Value.agg (List.toArray [(Value.slice x116.a x116.len x116.cap), (Value.slice x117.a x117.len x117.cap), (Value.slice x118.a x118.len x118.cap)])), (Value.agg (List.toArray [(Value.slice x119.a x119.len x119.cap), (Value.slice x120.a x120.len x120.cap), (Value.slice x121.a x121.len x121.cap)]))]) h114 fun v122 h123 =>
 ∃ x124 : Bool, v122 = (Value.bool x124) ∧
 (∃ h125, Gh h123 h125 ∧ R112 x124 h125)) (
 (∃ h126, Gh h114 h126 ∧ R112 false h126))) (
 (∃ h127, Gh h111 h127 ∧ R112 false h127))) (
 (∃ h128, Gh h111 h128 ∧ R112 false h128))) (
 (∃ h129, Gh h111 h129 ∧ R112 false h129))) ∧
 ∀ (_ : F) (x130 : Bool) (h131 : H), R112 x130 h131 →
 VRet h131 (Value.bool x130) post

def f5_J2 (p1_t : Int) (p2_want : SV) (post : Value → H → Prop) (r1 : Nat) (x17 : Bool) (x49_two : Bool) (h50 : H) : Prop :=
 ∃ x51 : SV, H.rd h50 (Addr.add (Addr.mk r1 0 none) 0) (Value.slice x51.a x51.len x51.cap) ∧
 ∃ x52 : SV, H.rd h50 (Addr.add (Addr.mk r1 0 none) 1) (Value.slice x52.a x52.len x52.cap) ∧
 ∃ x53 : SV, H.rd h50 (Addr.add (Addr.mk r1 0 none) 2) (Value.slice x53.a x53.len x53.cap) ∧
 SemCall Go.Proofs.Tryd.prog 18 (List.toArray [(Value.agg (List.toArray [(Value.slice x51.a x51.len x51.cap), (Value.slice x52.a x52.len x52.cap), (Value.slice x53.a x53.len x53.cap)])), (Value.int .i64 p1_t), (Value.slice p2_want.a p2_want.len p2_want.cap), (Value.bool false)]) h50 fun v54 h55 =>
 ∃ x56 : SV, ∃ x57 : SV, ∃ x58 : SV, ∃ x59 : Int, v54 = (Value.tuple (List.toArray [(Value.agg (List.toArray [(Value.slice x56.a x56.len x56.cap), (Value.slice x57.a x57.len x57.cap), (Value.slice x58.a x58.len x58.cap)])), (Value.int .i64 x59)])) ∧
 H.new h55 [(Value.slice none 0 0), (Value.slice none 0 0), (Value.slice none 0 0)] fun r60 h61 =>
 ([(Value.slice x56.a x56.len x56.cap), (Value.slice x57.a x57.len x57.cap), (Value.slice x58.a x58.len x58.cap)]).length = 3 ∧ (Program.underlying Go.Proofs.Tryd.prog 25).isSome = true ∧
 H.wr h61 (Addr.mk r60 0 none) ([(Value.slice x56.a x56.len x56.cap), (Value.slice x57.a x57.len x57.cap), (Value.slice x58.a x58.len x58.cap)]) fun h62 =>
 ∃ x63 : SV, H.rd h62 (Addr.add (Addr.mk r1 0 none) 0) (Value.slice x63.a x63.len x63.cap) ∧
 ∃ x64 : SV, H.rd h62 (Addr.add (Addr.mk r1 0 none) 1) (Value.slice x64.a x64.len x64.cap) ∧
 ∃ x65 : SV, H.rd h62 (Addr.add (Addr.mk r1 0 none) 2) (Value.slice x65.a x65.len x65.cap) ∧
 SemCall Go.Proofs.Tryd.prog 19 (List.toArray [(Value.agg (List.toArray [(Value.slice x63.a x63.len x63.cap), (Value.slice x64.a x64.len x64.cap), (Value.slice x65.a x65.len x65.cap)])), (Value.int .i64 p1_t), (Value.slice p2_want.a p2_want.len p2_want.cap)]) h62 fun v66 h67 =>
 ∃ x68 : SV, ∃ x69 : SV, ∃ x70 : SV, ∃ x71 : Option (TypeId × Value), v66 = (Value.tuple (List.toArray [(Value.agg (List.toArray [(Value.slice x68.a x68.len x68.cap), (Value.slice x69.a x69.len x69.cap), (Value.slice x70.a x70.len x70.cap)])), (errV x71)])) ∧
 H.new h67 [(Value.slice none 0 0), (Value.slice none 0 0), (Value.slice none 0 0)] fun r72 h73 =>
 ([(Value.slice x68.a x68.len x68.cap), (Value.slice x69.a x69.len x69.cap), (Value.slice x70.a x70.len x70.cap)]).length = 3 ∧ (Program.underlying Go.Proofs.Tryd.prog 25).isSome = true ∧
 H.wr h73 (Addr.mk r72 0 none) ([(Value.slice x68.a x68.len x68.cap), (Value.slice x69.a x69.len x69.cap), (Value.slice x70.a x70.len x70.cap)]) fun h74 =>
 ∃ R75 : Bool → H → Prop, (
 SemCall Go.Proofs.Tryd.prog 14 (List.toArray [(errV x71), (Value.int .i64 x59)]) h74 fun v76 h77 =>
 ∃ x78 : Bool, v76 = (Value.bool x78) ∧
 VIf x78 (
 ∃ x79 : SV, H.rd h77 (Addr.add (Addr.mk r72 0 none) 0) (Value.slice x79.a x79.len x79.cap) ∧
 ∃ x80 : SV, H.rd h77 (Addr.add (Addr.mk r72 0 none) 1) (Value.slice x80.a x80.len x80.cap) ∧
 ∃ x81 : SV, H.rd h77 (Addr.add (Addr.mk r72 0 none) 2) (Value.slice x81.a x81.len x81.cap) ∧
 ∃ x82 : SV, H.rd h77 (Addr.add (Addr.mk r60 0 none) 0) (Value.slice x82.a x82.len x82.cap) ∧
 ∃ x83 : SV, H.rd h77 (Addr.add (Addr.mk r60 0 none) 1) (Value.slice x83.a x83.len x83.cap) ∧
 ∃ x84 : SV, H.rd h77 (Addr.add (Addr.mk r60 0 none) 2) (Value.slice x84.a x84.len x84.cap) ∧
 SemCall Go.Proofs.Tryd.prog 20 (List.toArray [(Value.agg (List.toArray [(Value.slice x79.a x79.len x79.cap), (Value.slice x80.a x80.len x80.cap), (Value.slice x81.a x81.len x81.cap)])), (Value.agg (List.toArray [(Value.slice x82.a x82.len x82.cap), (Value.slice x83.a x83.len x83.cap), (Value.slice x84.a x84.len x84.cap)]))]) h77 fun v85 h86 =>
 ∃ x87 : Bool, v85 = (Value.bool x87) ∧
 (∃ h88, Gh h86 h88 ∧ R75 x87 h88)) (
 (∃ h89, Gh h77 h89 ∧ R75 false h89))) ∧
 ∀ (_ : F) (x90_three : Bool) (h91 : H), R75 x90_three h91 →
 f5_J1 p1_t p2_want post r1 x17 x49_two r60 r72 x90_three h91

def f5_J3 (p1_t : Int) (p2_want : SV) (post : Value → H → Prop) (r1 : Nat) (x8 : Int) (x17 : Bool) (x28_row : SV) (x29_safe : Bool) (h30 : H) : Prop :=
 ∃ x31 : SV, H.rd h30 (Addr.add (Addr.mk r1 0 none) 0) (Value.slice x31.a x31.len x31.cap) ∧
 ∃ x32 : SV, H.rd h30 (Addr.add (Addr.mk r1 0 none) 1) (Value.slice x32.a x32.len x32.cap) ∧
 ∃ x33 : SV, H.rd h30 (Addr.add (Addr.mk r1 0 none) 2) (Value.slice x33.a x33.len x33.cap) ∧
 SemCall Go.Proofs.Tryd.prog 10 (List.toArray [(Value.agg (List.toArray [(Value.slice x31.a x31.len x31.cap), (Value.slice x32.a x32.len x32.cap), (Value.slice x33.a x33.len x33.cap)]))]) h30 fun v34 h35 =>
 ∃ x36 : Bool, ∃ x37 : SV, ∃ x38 : Option (TypeId × Value), v34 = (Value.tuple (List.toArray [(Value.bool x36), (Value.slice x37.a x37.len x37.cap), (errV x38)])) ∧
 ∃ R39 : Bool → H → Prop, (
 SemCall Go.Proofs.Tryd.prog 14 (List.toArray [(errV x38), (Value.int .i64 x8)]) h35 fun v40 h41 =>
 ∃ x42 : Bool, v40 = (Value.bool x42) ∧
 VIf x42 (
 VIf (x36 == x29_safe) (
 SemCall Go.Proofs.Tryd.prog 17 (List.toArray [(Value.slice x37.a x37.len x37.cap), (Value.slice x28_row.a x28_row.len x28_row.cap)]) h41 fun v43 h44 =>
 ∃ x45 : Bool, v43 = (Value.bool x45) ∧
 (∃ h46, Gh h44 h46 ∧ R39 x45 h46)) (
 (∃ h47, Gh h41 h47 ∧ R39 false h47))) (
 (∃ h48, Gh h41 h48 ∧ R39 false h48))) ∧
 ∀ (_ : F) (x49_two : Bool) (h50 : H), R39 x49_two h50 →
 f5_J2 p1_t p2_want post r1 x17 x49_two h50

def f5_sem (p0_0_b : SV) (p0_1_b : SV) (p0_2_b : SV) (p1_t : Int) (p2_want : SV) (h0 : H) (post : Value → H → Prop) : Prop :=
 H.new h0 [(Value.slice p0_0_b.a p0_0_b.len p0_0_b.cap), (Value.slice p0_1_b.a p0_1_b.len p0_1_b.cap), (Value.slice p0_2_b.a p0_2_b.len p0_2_b.cap)] fun r1 h2 =>
 ∃ x3 : SV, H.rd h2 (Addr.add (Addr.mk r1 0 none) 0) (Value.slice x3.a x3.len x3.cap) ∧
 ∃ x4 : SV, H.rd h2 (Addr.add (Addr.mk r1 0 none) 1) (Value.slice x4.a x4.len x4.cap) ∧
 ∃ x5 : SV, H.rd h2 (Addr.add (Addr.mk r1 0 none) 2) (Value.slice x5.a x5.len x5.cap) ∧
 SemCall Go.Proofs.Tryd.prog 13 (List.toArray [(Value.agg (List.toArray [(Value.slice x3.a x3.len x3.cap), (Value.slice x4.a x4.len x4.cap), (Value.slice x5.a x5.len x5.cap)]))]) h2 fun v6 h7 =>
 ∃ x8 : Int, v6 = (Value.int .i64 x8) ∧
 ∃ x9 : SV, H.rd h7 (Addr.add (Addr.mk r1 0 none) 0) (Value.slice x9.a x9.len x9.cap) ∧
 ∃ x10 : SV, H.rd h7 (Addr.add (Addr.mk r1 0 none) 1) (Value.slice x10.a x10.len x10.cap) ∧
 ∃ x11 : SV, H.rd h7 (Addr.add (Addr.mk r1 0 none) 2) (Value.slice x11.a x11.len x11.cap) ∧
 SemCall Go.Proofs.Tryd.prog 15 (List.toArray [(Value.agg (List.toArray [(Value.slice x9.a x9.len x9.cap), (Value.slice x10.a x10.len x10.cap), (Value.slice x11.a x11.len x11.cap)]))]) h7 fun v12 h13 =>
 ∃ x14 : Option (TypeId × Value), v12 = (errV x14) ∧
 SemCall Go.Proofs.Tryd.prog 14 (List.toArray [(errV x14), (Value.int .i64 x8)]) h13 fun v15 h16 =>
 ∃ x17 : Bool, v15 = (Value.bool x17) ∧
 ∃ R18 : SV → Bool → H → Prop, (
 VIf (x8 == (0 : Int)) (
 ∃ x19 : SV, H.rd h16 (Addr.add (Addr.mk r1 0 none) 0) (Value.slice x19.a x19.len x19.cap) ∧
 ∃ x20 : SV, H.rd h16 (Addr.add (Addr.mk r1 0 none) 1) (Value.slice x20.a x20.len x20.cap) ∧
 ∃ x21 : SV, H.rd h16 (Addr.add (Addr.mk r1 0 none) 2) (Value.slice x21.a x21.len x21.cap) ∧
 SemCall Go.Proofs.Tryd.prog 16 (List.toArray [(Value.agg (List.toArray [(Value.slice x19.a x19.len x19.cap), (Value.slice x20.a x20.len x20.cap), (Value.slice x21.a x21.len x21.cap)]))]) h16 fun v22 h23 =>
 ∃ x24 : SV, ∃ x25 : Bool, v22 = (Value.tuple (List.toArray [(Value.slice x24.a x24.len x24.cap), (Value.bool x25)])) ∧
 (∃ h26, Gh h23 h26 ∧ R18 x24 x25 h26)) (
 (∃ h27, Gh h16 h27 ∧ R18 (SV.mk none 0 0) false h27))) ∧
 ∀ (_ : F) (x28_row : SV) (x29_safe : Bool) (h30 : H), R18 x28_row x29_safe h30 →
 f5_J3 p1_t p2_want post r1 x8 x17 x28_row x29_safe h30

def f5_hint : Hint := (.node .leaf (.node .leaf (.node .leaf (.node .leaf (.node .leaf (.node (.node .leaf (.join [(9, .sl), (10, .bool)] .leaf)) (.node .leaf (.node (.join [(14, .bool)] .leaf) (.node .leaf (.node .leaf (.node (.join [(17, .bool)] .leaf) (.node .leaf (.node .leaf (.node (.join [(6, .bool)] .leaf) .leaf))))))))))))))

theorem f5_eq (p0_0_b : SV) (p0_1_b : SV) (p0_2_b : SV) (p1_t : Int) (p2_want : SV) (h0 : H) (post : Value → H → Prop) : exec Tryd.prog (bodyOf Tryd.f5) f5_hint (retQ Tryd.prog Tryd.f5 post) (F0 [(Value.agg (List.toArray [(Value.slice p0_0_b.a p0_0_b.len p0_0_b.cap), (Value.slice p0_1_b.a p0_1_b.len p0_1_b.cap), (Value.slice p0_2_b.a p0_2_b.len p0_2_b.cap)])), (Value.int .i64 p1_t), (Value.slice p2_want.a p2_want.len p2_want.cap)]) h0 = f5_sem p0_0_b p0_1_b p0_2_b p1_t p2_want h0 post := by kernel_rfl

set_option maxRecDepth 20000 in
theorem f5_call (p0_0_b : SV) (p0_1_b : SV) (p0_2_b : SV) (p1_t : Int) (p2_want : SV) (h0 : H) (post : Value → H → Prop) (hx : f5_sem p0_0_b p0_1_b p0_2_b p1_t p2_want h0 post) : SemCall Tryd.prog 5 (List.toArray [(Value.agg (List.toArray [(Value.slice p0_0_b.a p0_0_b.len p0_0_b.cap), (Value.slice p0_1_b.a p0_1_b.len p0_1_b.cap), (Value.slice p0_2_b.a p0_2_b.len p0_2_b.cap)])), (Value.int .i64 p1_t), (Value.slice p2_want.a p2_want.len p2_want.cap)]) h0 post :=
 sem_of_exec (g := f5_hint) mixed Tryd.func5 (bodyOf_eq (by kernel_rfl)) (by kernel_rfl) ((f5_eq p0_0_b p0_1_b p0_2_b p1_t p2_want h0 post).mpr hx)

/- latchgarth/latchgarthlaw4.BankKeeps -/
def f6_J1 (post : Value → H → Prop) (r1 : Nat) (x73 : Bool) (h74 : H) : Prop :=
 VIf x73 (
 VRet h74 (Value.bool false) post) (
 ∃ x75 : SV, H.rd h74 (Addr.add (Addr.mk r1 0 none) 0) (Value.slice x75.a x75.len x75.cap) ∧
 ∃ x76 : SV, H.rd h74 (Addr.add (Addr.mk r1 0 none) 1) (Value.slice x76.a x76.len x76.cap) ∧
 ∃ x77 : SV, H.rd h74 (Addr.add (Addr.mk r1 0 none) 2) (Value.slice x77.a x77.len x77.cap) ∧
 SemCall Go.Proofs.Tryd.prog 10 (List.toArray [(Value.agg (List.toArray [(Value.slice x75.a x75.len x75.cap), (Value.slice x76.a x76.len x76.cap), (Value.slice x77.a x77.len x77.cap)]))]) h74 fun v78 h79 =>
 ∃ x80 : Bool, ∃ x81 : SV, ∃ x82 : Option (TypeId × Value), v78 = (Value.tuple (List.toArray [(Value.bool x80), (Value.slice x81.a x81.len x81.cap), (errV x82)])) ∧
 ∃ R83 : Bool → H → Prop, (
 isIfaceV (errV x82) = true ∧
 VIf (isNilV (errV x82)) (
 (∃ h84, Gh h79 h84 ∧ R83 x80 h84)) (
 (∃ h85, Gh h79 h85 ∧ R83 false h85))) ∧
 ∀ (_ : F) (x86 : Bool) (h87 : H), R83 x86 h87 →
 VRet h87 (Value.bool x86) post)

def f6_sem (p0_0_b : SV) (p0_1_b : SV) (p0_2_b : SV) (p1_t : Int) (p2_want : SV) (h0 : H) (post : Value → H → Prop) : Prop :=
 H.new h0 [(Value.slice p0_0_b.a p0_0_b.len p0_0_b.cap), (Value.slice p0_1_b.a p0_1_b.len p0_1_b.cap), (Value.slice p0_2_b.a p0_2_b.len p0_2_b.cap)] fun r1 h2 =>
 SemCall Go.Proofs.Tryd.prog 9 (List.toArray []) h2 fun v3 h4 =>
 ∃ x5 : Bool, v3 = (Value.bool x5) ∧
 VIf (!x5) (
 VRet h4 (Value.bool false) post) (
 ∃ x6 : SV, H.rd h4 (Addr.add (Addr.mk r1 0 none) 0) (Value.slice x6.a x6.len x6.cap) ∧
 ∃ x7 : SV, H.rd h4 (Addr.add (Addr.mk r1 0 none) 1) (Value.slice x7.a x7.len x7.cap) ∧
 ∃ x8 : SV, H.rd h4 (Addr.add (Addr.mk r1 0 none) 2) (Value.slice x8.a x8.len x8.cap) ∧
 SemCall Go.Proofs.Tryd.prog 19 (List.toArray [(Value.agg (List.toArray [(Value.slice x6.a x6.len x6.cap), (Value.slice x7.a x7.len x7.cap), (Value.slice x8.a x8.len x8.cap)])), (Value.int .i64 p1_t), (Value.slice p2_want.a p2_want.len p2_want.cap)]) h4 fun v9 h10 =>
 ∃ x11 : SV, ∃ x12 : SV, ∃ x13 : SV, ∃ x14 : Option (TypeId × Value), v9 = (Value.tuple (List.toArray [(Value.agg (List.toArray [(Value.slice x11.a x11.len x11.cap), (Value.slice x12.a x12.len x12.cap), (Value.slice x13.a x13.len x13.cap)])), (errV x14)])) ∧
 H.new h10 [(Value.slice none 0 0), (Value.slice none 0 0), (Value.slice none 0 0)] fun r15 h16 =>
 ([(Value.slice x11.a x11.len x11.cap), (Value.slice x12.a x12.len x12.cap), (Value.slice x13.a x13.len x13.cap)]).length = 3 ∧ (Program.underlying Go.Proofs.Tryd.prog 25).isSome = true ∧
 H.wr h16 (Addr.mk r15 0 none) ([(Value.slice x11.a x11.len x11.cap), (Value.slice x12.a x12.len x12.cap), (Value.slice x13.a x13.len x13.cap)]) fun h17 =>
 isIfaceV (errV x14) = true ∧
 VIf (!(isNilV (errV x14))) (
 SemCall Go.Proofs.Tryd.prog 14 (List.toArray [(errV x14), (Value.int .i64 (7 : Int))]) h17 fun v18 h19 =>
 ∃ x20 : Bool, v18 = (Value.bool x20) ∧
 VIf (!x20) (
 VRet h19 (Value.bool true) post) (
 ∃ x21 : SV, H.rd h19 (Addr.add (Addr.mk r1 0 none) 0) (Value.slice x21.a x21.len x21.cap) ∧
 ∃ x22 : SV, H.rd h19 (Addr.add (Addr.mk r1 0 none) 1) (Value.slice x22.a x22.len x22.cap) ∧
 ∃ x23 : SV, H.rd h19 (Addr.add (Addr.mk r1 0 none) 2) (Value.slice x23.a x23.len x23.cap) ∧
 SemCall Go.Proofs.Tryd.prog 22 (List.toArray [(Value.agg (List.toArray [(Value.slice x21.a x21.len x21.cap), (Value.slice x22.a x22.len x22.cap), (Value.slice x23.a x23.len x23.cap)])), (Value.int .i64 p1_t), (Value.slice p2_want.a p2_want.len p2_want.cap), (Value.int .i64 (1 : Int))]) h19 fun v24 h25 =>
 ∃ x26 : SV, ∃ x27 : SV, ∃ x28 : SV, v24 = (Value.agg (List.toArray [(Value.slice x26.a x26.len x26.cap), (Value.slice x27.a x27.len x27.cap), (Value.slice x28.a x28.len x28.cap)])) ∧
 SemCall Go.Proofs.Tryd.prog 10 (List.toArray [(Value.agg (List.toArray [(Value.slice x26.a x26.len x26.cap), (Value.slice x27.a x27.len x27.cap), (Value.slice x28.a x28.len x28.cap)]))]) h25 fun v29 h30 =>
 ∃ x31 : Bool, ∃ x32 : SV, ∃ x33 : Option (TypeId × Value), v29 = (Value.tuple (List.toArray [(Value.bool x31), (Value.slice x32.a x32.len x32.cap), (errV x33)])) ∧
 ∃ R34 : Bool → H → Prop, (
 isIfaceV (errV x33) = true ∧
 VIf (isNilV (errV x33)) (
 (∃ h35, Gh h30 h35 ∧ R34 (!x31) h35)) (
 (∃ h36, Gh h30 h36 ∧ R34 false h36))) ∧
 ∀ (_ : F) (x37 : Bool) (h38 : H), R34 x37 h38 →
 VRet h38 (Value.bool x37) post)) (
 ∃ x39 : SV, H.rd h17 (Addr.add (Addr.mk r15 0 none) 0) (Value.slice x39.a x39.len x39.cap) ∧
 ∃ x40 : SV, H.rd h17 (Addr.add (Addr.mk r15 0 none) 1) (Value.slice x40.a x40.len x40.cap) ∧
 ∃ x41 : SV, H.rd h17 (Addr.add (Addr.mk r15 0 none) 2) (Value.slice x41.a x41.len x41.cap) ∧
 SemCall Go.Proofs.Tryd.prog 10 (List.toArray [(Value.agg (List.toArray [(Value.slice x39.a x39.len x39.cap), (Value.slice x40.a x40.len x40.cap), (Value.slice x41.a x41.len x41.cap)]))]) h17 fun v42 h43 =>
 ∃ x44 : Bool, ∃ x45 : SV, ∃ x46 : Option (TypeId × Value), v42 = (Value.tuple (List.toArray [(Value.bool x44), (Value.slice x45.a x45.len x45.cap), (errV x46)])) ∧
 ∃ x47 : SV, H.rd h43 (Addr.add (Addr.mk r15 0 none) 0) (Value.slice x47.a x47.len x47.cap) ∧
 ∃ x48 : SV, H.rd h43 (Addr.add (Addr.mk r15 0 none) 1) (Value.slice x48.a x48.len x48.cap) ∧
 ∃ x49 : SV, H.rd h43 (Addr.add (Addr.mk r15 0 none) 2) (Value.slice x49.a x49.len x49.cap) ∧
 SemCall Go.Proofs.Tryd.prog 21 (List.toArray [(Value.agg (List.toArray [(Value.slice x47.a x47.len x47.cap), (Value.slice x48.a x48.len x48.cap), (Value.slice x49.a x49.len x49.cap)])), (Value.int .i64 p1_t), (Value.slice p2_want.a p2_want.len p2_want.cap)]) h43 fun v50 h51 =>
 ∃ x52 : SV, ∃ x53 : SV, ∃ x54 : SV, ∃ x55 : Option (TypeId × Value), v50 = (Value.tuple (List.toArray [(Value.agg (List.toArray [(Value.slice x52.a x52.len x52.cap), (Value.slice x53.a x53.len x53.cap), (Value.slice x54.a x54.len x54.cap)])), (errV x55)])) ∧
 H.new h51 [(Value.slice none 0 0), (Value.slice none 0 0), (Value.slice none 0 0)] fun r56 h57 =>
 ([(Value.slice x52.a x52.len x52.cap), (Value.slice x53.a x53.len x53.cap), (Value.slice x54.a x54.len x54.cap)]).length = 3 ∧ (Program.underlying Go.Proofs.Tryd.prog 25).isSome = true ∧
 H.wr h57 (Addr.mk r56 0 none) ([(Value.slice x52.a x52.len x52.cap), (Value.slice x53.a x53.len x53.cap), (Value.slice x54.a x54.len x54.cap)]) fun h58 =>
 ∃ R59 : Bool → H → Prop, (
 isIfaceV (errV x46) = true ∧
 VIf (!(isNilV (errV x46))) (
 (∃ h60, Gh h58 h60 ∧ R59 true h60)) (
 VIf (!x44) (
 (∃ h61, Gh h58 h61 ∧ R59 true h61)) (
 isIfaceV (errV x55) = true ∧
 VIf (!(isNilV (errV x55))) (
 (∃ h62, Gh h58 h62 ∧ R59 true h62)) (
 ∃ x63 : SV, H.rd h58 (Addr.add (Addr.mk r56 0 none) 0) (Value.slice x63.a x63.len x63.cap) ∧
 ∃ x64 : SV, H.rd h58 (Addr.add (Addr.mk r56 0 none) 1) (Value.slice x64.a x64.len x64.cap) ∧
 ∃ x65 : SV, H.rd h58 (Addr.add (Addr.mk r56 0 none) 2) (Value.slice x65.a x65.len x65.cap) ∧
 ∃ x66 : SV, H.rd h58 (Addr.add (Addr.mk r1 0 none) 0) (Value.slice x66.a x66.len x66.cap) ∧
 ∃ x67 : SV, H.rd h58 (Addr.add (Addr.mk r1 0 none) 1) (Value.slice x67.a x67.len x67.cap) ∧
 ∃ x68 : SV, H.rd h58 (Addr.add (Addr.mk r1 0 none) 2) (Value.slice x68.a x68.len x68.cap) ∧
 SemCall Go.Proofs.Tryd.prog 20 (List.toArray [(Value.agg (List.toArray [(Value.slice x63.a x63.len x63.cap), (Value.slice x64.a x64.len x64.cap), (Value.slice x65.a x65.len x65.cap)])), (Value.agg (List.toArray [(Value.slice x66.a x66.len x66.cap), (Value.slice x67.a x67.len x67.cap), (Value.slice x68.a x68.len x68.cap)]))]) h58 fun v69 h70 =>
 ∃ x71 : Bool, v69 = (Value.bool x71) ∧
 (∃ h72, Gh h70 h72 ∧ R59 (!x71) h72))))) ∧
 ∀ (_ : F) (x73 : Bool) (h74 : H), R59 x73 h74 →
 f6_J1 post r1 x73 h74))

def f6_hint : Hint := (.node .leaf (.node .leaf (.node .leaf (.node .leaf (.node (.node .leaf (.node (.node .leaf (.node .leaf (.node (.join [(6, .bool)] .leaf) .leaf))) .leaf)) (.node .leaf (.node .leaf (.node (.node (.join [(79, .bool)] .leaf) .leaf) (.node .leaf (.node (.join [(6, .bool)] .leaf) .leaf))))))))))

theorem f6_eq (p0_0_b : SV) (p0_1_b : SV) (p0_2_b : SV) (p1_t : Int) (p2_want : SV) (h0 : H) (post : Value → H → Prop) : exec Tryd.prog (bodyOf Tryd.f6) f6_hint (retQ Tryd.prog Tryd.f6 post) (F0 [(Value.agg (List.toArray [(Value.slice p0_0_b.a p0_0_b.len p0_0_b.cap), (Value.slice p0_1_b.a p0_1_b.len p0_1_b.cap), (Value.slice p0_2_b.a p0_2_b.len p0_2_b.cap)])), (Value.int .i64 p1_t), (Value.slice p2_want.a p2_want.len p2_want.cap)]) h0 = f6_sem p0_0_b p0_1_b p0_2_b p1_t p2_want h0 post := by kernel_rfl

set_option maxRecDepth 20000 in
theorem f6_call (p0_0_b : SV) (p0_1_b : SV) (p0_2_b : SV) (p1_t : Int) (p2_want : SV) (h0 : H) (post : Value → H → Prop) (hx : f6_sem p0_0_b p0_1_b p0_2_b p1_t p2_want h0 post) : SemCall Tryd.prog 6 (List.toArray [(Value.agg (List.toArray [(Value.slice p0_0_b.a p0_0_b.len p0_0_b.cap), (Value.slice p0_1_b.a p0_1_b.len p0_1_b.cap), (Value.slice p0_2_b.a p0_2_b.len p0_2_b.cap)])), (Value.int .i64 p1_t), (Value.slice p2_want.a p2_want.len p2_want.cap)]) h0 post :=
 sem_of_exec (g := f6_hint) mixed Tryd.func6 (bodyOf_eq (by kernel_rfl)) (by kernel_rfl) ((f6_eq p0_0_b p0_1_b p0_2_b p1_t p2_want h0 post).mpr hx)

end Go.Proofs.YtnepjdobknjecaaDoor
