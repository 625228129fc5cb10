import Derived.Test.YtkokdeenniejjaaEngG
import Derived.Test.YtkokdeenniejjaaRows
namespace Go.Proofs.Ytkokdeenniejjaa
open Go.Eng
theorem mixed : Try.prog.follows .mixedOrders = true := by kernel_rfl
/- latchgarth/latchgarthlaw4.PmemWas -/
def f3_J1 (p1_steps : SV) (x17 : SV) (x23_i : Int) (R28 : Bool → H → Prop) (I29 : Nat → Bool → Int → H → Prop) (n30 : Nat) (x33_was : Bool) (x34_k : Int) (x39 : Bool) (h40 : H) : Prop :=
 VIf x39 (
 ∃ R41 : Bool → H → Prop, (
 VIf x33_was (
 (∃ h42, Gh h40 h42 ∧ R41 true h42)) (
 ∃ b43 : Addr, p1_steps.a = some b43 ∧ 0 ≤ x34_k ∧ x34_k < ((p1_steps.len : Nat) : Int) ∧
 ∃ x44 : SV, H.rd h40 (Addr.add (Addr.add b43 ((x34_k).toNat * 1)) 0) (Value.slice x44.a x44.len x44.cap) ∧
 VIf (((x44.len : Nat) : Int) == (3 : Int)) (
 ∃ b45 : Addr, p1_steps.a = some b45 ∧ 0 ≤ x34_k ∧ x34_k < ((p1_steps.len : Nat) : Int) ∧
 ∃ x46 : SV, H.rd h40 (Addr.add (Addr.add b45 ((x34_k).toNat * 1)) 0) (Value.slice x46.a x46.len x46.cap) ∧
 ∃ b47 : Addr, x46.a = some b47 ∧ 0 ≤ (1 : Int) ∧ (1 : Int) < ((x46.len : Nat) : Int) ∧
 ∃ x48 : Int, H.rd h40 (Addr.add (Addr.add b47 (((1 : Int)).toNat * 1)) 0) (Value.int .i64 x48) ∧
 VIf (x48 == x23_i) (
 ∃ b49 : Addr, p1_steps.a = some b49 ∧ 0 ≤ x34_k ∧ x34_k < ((p1_steps.len : Nat) : Int) ∧
 ∃ x50 : SV, H.rd h40 (Addr.add (Addr.add b49 ((x34_k).toNat * 1)) 0) (Value.slice x50.a x50.len x50.cap) ∧
 ∃ b51 : Addr, x50.a = some b51 ∧ 0 ≤ (2 : Int) ∧ (2 : Int) < ((x50.len : Nat) : Int) ∧
 ∃ x52 : Int, H.rd h40 (Addr.add (Addr.add b51 (((2 : Int)).toNat * 1)) 0) (Value.int .i64 x52) ∧
 ∃ b53 : Addr, x17.a = some b53 ∧ 0 ≤ x23_i ∧ x23_i < ((x17.len : Nat) : Int) ∧
 ∃ x54 : Int, H.rd h40 (Addr.add (Addr.add b53 ((x23_i).toNat * 1)) 0) (Value.int .i64 x54) ∧
 (∃ h55, Gh h40 h55 ∧ R41 (x52 == x54) h55)) (
 (∃ h56, Gh h40 h56 ∧ R41 false h56))) (
 (∃ h57, Gh h40 h57 ∧ R41 false h57)))) ∧
 ∀ (_ : F) (x58_was : Bool) (h59 : H), R41 x58_was h59 →
 In64 (x34_k + (1 : Int)) ∧
 ∃ m31, m31 < n30 ∧ (∃ h60, Gh h59 h60 ∧ I29 m31 x58_was (x34_k + (1 : Int)) h60)) (
 (∃ h61, Gh h40 h61 ∧ R28 x33_was h61))

def f3_L2 (p1_steps : SV) (x17 : SV) (x23_i : Int) (R28 : Bool → H → Prop) (I29 : Nat → Bool → Int → H → Prop) (n30 : Nat) (x33_was : Bool) (x34_k : Int) (h35 : H) : Prop :=
 ∃ R36 : Bool → H → Prop, (
 VIf (decide (x34_k < ((p1_steps.len : Nat) : Int))) (
 (∃ h37, Gh h35 h37 ∧ R36 (decide (x34_k < (60 : Int))) h37)) (
 (∃ h38, Gh h35 h38 ∧ R36 false h38))) ∧
 ∀ (_ : F) (x39 : Bool) (h40 : H), R36 x39 h40 →
 f3_J1 p1_steps x17 x23_i R28 I29 n30 x33_was x34_k x39 h40

def f3_L3 (p0_n : Int) (p1_steps : SV) (post : Value → H → Prop) (x17 : SV) (R18 : H → Prop) (I19 : Nat → Int → H → Prop) (n20 : Nat) (x23_i : Int) (h24 : H) : Prop :=
 VIf (decide (x23_i < p0_n)) (
 ∃ R25 : H → Prop, (
 ∃ b26 : Addr, x17.a = some b26 ∧ 0 ≤ x23_i ∧ x23_i < ((x17.len : Nat) : Int) ∧
 ∃ x27 : Int, H.rd h24 (Addr.add (Addr.add b26 ((x23_i).toNat * 1)) 0) (Value.int .i64 x27) ∧
 ∃ R28 : Bool → H → Prop, (
 ∃ I29 : Nat → Bool → Int → H → Prop, (∃ n30, (∃ h32, Gh h24 h32 ∧ I29 n30 (x27 == (0 : Int)) (0 : Int) h32)) ∧
 ∀ (n30 : Nat) (_ : F) (x33_was : Bool) (x34_k : Int) (h35 : H), I29 n30 x33_was x34_k h35 →
 f3_L2 p1_steps x17 x23_i R28 I29 n30 x33_was x34_k h35) ∧
 ∀ (_ : F) (x62_was : Bool) (h63 : H), R28 x62_was h63 →
 VIf (!x62_was) (
 VRet h63 (Value.bool false) post) (
 (∃ h64, Gh h63 h64 ∧ R25 h64))) ∧
 ∀ (_ : F) (h65 : H), R25 h65 →
 In64 (x23_i + (1 : Int)) ∧
 ∃ m21, m21 < n20 ∧ (∃ h66, Gh h65 h66 ∧ I19 m21 (x23_i + (1 : Int)) h66)) (
 (∃ h67, Gh h24 h67 ∧ R18 h67))

def f3_L4 (p0_n : Int) (R69 : Int → H → Prop) (I70 : Nat → Int → Int → H → Prop) (n71 : Nat) (x74_all : Int) (x75_i : Int) (h76 : H) : Prop :=
 VIf (decide (x75_i < p0_n)) (
 In64 (x74_all * (2 : Int)) ∧
 In64 (x75_i + (1 : Int)) ∧
 ∃ m72, m72 < n71 ∧ (∃ h77, Gh h76 h77 ∧ I70 m72 (x74_all * (2 : Int)) (x75_i + (1 : Int)) h77)) (
 (∃ h78, Gh h76 h78 ∧ R69 x74_all h78))

def f3_J5 (post : Value → H → Prop) (x6 : Option Addr) (x17 : SV) (x79_all : Int) (h80 : H) : Prop :=
 ∃ R81 : Bool → H → Prop, (
 In64 (x79_all - (1 : Int)) ∧
 SemCall Go.Proofs.Try.prog 14 (List.toArray [(Value.pointer x6), (Value.int .i64 (x79_all - (1 : Int)))]) h80 fun v82 h83 =>
 ∃ x84 : Option (TypeId × Value), v82 = (errV x84) ∧
 isIfaceV (errV x84) = true ∧
 VIf (isNilV (errV x84)) (
 SemCall Go.Proofs.Try.prog 13 (List.toArray [(Value.pointer x6)]) h83 fun v85 h86 =>
 ∃ x87 : SV, v85 = (Value.slice x87.a x87.len x87.cap) ∧
 SemCall Go.Proofs.Try.prog 15 (List.toArray [(Value.slice x87.a x87.len x87.cap), (Value.slice x17.a x17.len x17.cap)]) h86 fun v88 h89 =>
 ∃ x90 : Bool, v88 = (Value.bool x90) ∧
 VIf x90 (
 SemCall Go.Proofs.Try.prog 14 (List.toArray [(Value.pointer x6), (Value.int .i64 0)]) h89 fun v91 h92 =>
 ∃ x93 : Option (TypeId × Value), v91 = (errV x93) ∧
 isIfaceV (errV x93) = true ∧
 VIf (isNilV (errV x93)) (
 SemCall Go.Proofs.Try.prog 13 (List.toArray [(Value.pointer x6)]) h92 fun v94 h95 =>
 ∃ x96 : SV, v94 = (Value.slice x96.a x96.len x96.cap) ∧
 SemCall Go.Proofs.Try.prog 15 (List.toArray [(Value.slice x96.a x96.len x96.cap), (Value.slice x17.a x17.len x17.cap)]) h95 fun v97 h98 =>
 ∃ x99 : Bool, v97 = (Value.bool x99) ∧
 (∃ h100, Gh h98 h100 ∧ R81 x99 h100)) (
 (∃ h101, Gh h92 h101 ∧ R81 false h101))) (
 (∃ h102, Gh h89 h102 ∧ R81 false h102))) (
 (∃ h103, Gh h83 h103 ∧ R81 false h103))) ∧
 ∀ (_ : F) (x104 : Bool) (h105 : H), R81 x104 h105 →
 VRet h105 (Value.bool x104) post

def f3_sem (p0_n : Int) (p1_steps : SV) (h0 : H) (post : Value → H → Prop) : Prop :=
 SemCall Go.Proofs.Try.prog 10 (List.toArray []) h0 fun v1 h2 =>
 ∃ x3 : Bool, v1 = (Value.bool x3) ∧
 VIf (!x3) (
 VRet h2 (Value.bool false) post) (
 SemCall Go.Proofs.Try.prog 11 (List.toArray [(Value.int .i64 p0_n)]) h2 fun v4 h5 =>
 ∃ x6 : Option Addr, ∃ x7 : Option (TypeId × Value), v4 = (Value.tuple (List.toArray [(Value.pointer x6), (errV x7)])) ∧
 isIfaceV (errV x7) = true ∧
 VIf (!(isNilV (errV x7))) (
 ∃ R8 : Bool → H → Prop, (
 VIf (decide (p0_n < (1 : Int))) (
 (∃ h9, Gh h5 h9 ∧ R8 true h9)) (
 (∃ h10, Gh h5 h10 ∧ R8 (decide (p0_n > (8 : Int))) h10))) ∧
 ∀ (_ : F) (x11 : Bool) (h12 : H), R8 x11 h12 →
 VRet h12 (Value.bool x11) post) (
 SemCall Go.Proofs.Try.prog 12 (List.toArray [(Value.pointer x6), (Value.slice p1_steps.a p1_steps.len p1_steps.cap), (Value.int .i64 (-1 : Int))]) h5 fun v13 h14 =>
 v13 = (Value.tuple (List.toArray [])) ∧
 SemCall Go.Proofs.Try.prog 13 (List.toArray [(Value.pointer x6)]) h14 fun v15 h16 =>
 ∃ x17 : SV, v15 = (Value.slice x17.a x17.len x17.cap) ∧
 VIf (((x17.len : Nat) : Int) != p0_n) (
 VRet h16 (Value.bool false) post) (
 ∃ R18 : H → Prop, (
 ∃ I19 : Nat → Int → H → Prop, (∃ n20, (∃ h22, Gh h16 h22 ∧ I19 n20 (0 : Int) h22)) ∧
 ∀ (n20 : Nat) (_ : F) (x23_i : Int) (h24 : H), I19 n20 x23_i h24 →
 f3_L3 p0_n p1_steps post x17 R18 I19 n20 x23_i h24) ∧
 ∀ (_ : F) (h68 : H), R18 h68 →
 ∃ R69 : Int → H → Prop, (
 ∃ I70 : Nat → Int → Int → H → Prop, (∃ n71, (∃ h73, Gh h68 h73 ∧ I70 n71 (1 : Int) (0 : Int) h73)) ∧
 ∀ (n71 : Nat) (_ : F) (x74_all : Int) (x75_i : Int) (h76 : H), I70 n71 x74_all x75_i h76 →
 f3_L4 p0_n R69 I70 n71 x74_all x75_i h76) ∧
 ∀ (_ : F) (x79_all : Int) (h80 : H), R69 x79_all h80 →
 f3_J5 post x6 x17 x79_all h80)))

def f3_hint : Hint := (.node .leaf (.node .leaf (.node .leaf (.node .leaf (.node (.node .leaf (.node (.node (.join [(4, .bool)] .leaf) .leaf) .leaf)) (.node .leaf (.node .leaf (.node .leaf (.node (.node .leaf (.join [] (.node (.loop [(9, .int)] (.node .leaf (.node (.join [] (.node (.node .leaf (.node (.node .leaf (.join [(10, .bool)] (.node (.loop [(10, .bool), (11, .int)] (.node (.node (.join [(56, .bool)] .leaf) .leaf) (.node (.node (.join [(10, .bool)] .leaf) .leaf) .leaf))) .leaf))) .leaf)) .leaf)) .leaf))) .leaf))) (.node .leaf (.node (.node .leaf (.join [(12, .int)] (.node (.loop [(12, .int), (13, .int)] .leaf) .leaf))) (.node (.join [(4, .bool)] .leaf) .leaf))))))))))))

theorem f3_eq (p0_n : Int) (p1_steps : SV) (h0 : H) (post : Value → H → Prop) : exec Try.prog (bodyOf Try.f3) f3_hint (retQ Try.prog Try.f3 post) (F0 [(Value.int .i64 p0_n), (Value.slice p1_steps.a p1_steps.len p1_steps.cap)]) h0 = f3_sem p0_n p1_steps h0 post := by kernel_rfl

set_option maxRecDepth 20000 in
theorem f3_call (p0_n : Int) (p1_steps : SV) (h0 : H) (post : Value → H → Prop) (hx : f3_sem p0_n p1_steps h0 post) : SemCall Try.prog 3 (List.toArray [(Value.int .i64 p0_n), (Value.slice p1_steps.a p1_steps.len p1_steps.cap)]) h0 post :=
 sem_of_exec (g := f3_hint) mixed Try.func3 (bodyOf_eq (by kernel_rfl)) (by kernel_rfl) ((f3_eq p0_n p1_steps h0 post).mpr hx)

/- latchgarth/latchgarthlaw4.PmemLasts -/
def f6_sem (p0_n : Int) (p1_steps : SV) (p2_i : Int) (p3_value : Int) (p4_more : SV) (h0 : H) (post : Value → H → Prop) : Prop :=
 SemCall Go.Proofs.Try.prog 10 (List.toArray []) h0 fun v1 h2 =>
 ∃ x3 : Bool, v1 = (Value.bool x3) ∧
 VIf (!x3) (
 VRet h2 (Value.bool false) post) (
 SemCall Go.Proofs.Try.prog 11 (List.toArray [(Value.int .i64 p0_n)]) h2 fun v4 h5 =>
 ∃ x6 : Option Addr, ∃ x7 : Option (TypeId × Value), v4 = (Value.tuple (List.toArray [(Value.pointer x6), (errV x7)])) ∧
 isIfaceV (errV x7) = true ∧
 VIf (!(isNilV (errV x7))) (
 ∃ R8 : Bool → H → Prop, (
 VIf (decide (p0_n < (1 : Int))) (
 (∃ h9, Gh h5 h9 ∧ R8 true h9)) (
 (∃ h10, Gh h5 h10 ∧ R8 (decide (p0_n > (8 : Int))) h10))) ∧
 ∀ (_ : F) (x11 : Bool) (h12 : H), R8 x11 h12 →
 VRet h12 (Value.bool x11) post) (
 SemCall Go.Proofs.Try.prog 12 (List.toArray [(Value.pointer x6), (Value.slice p1_steps.a p1_steps.len p1_steps.cap), (Value.int .i64 (-1 : Int))]) h5 fun v13 h14 =>
 v13 = (Value.tuple (List.toArray [])) ∧
 SemCall Go.Proofs.Try.prog 23 (List.toArray [(Value.pointer x6), (Value.int .i64 p2_i), (Value.int .i64 p3_value)]) h14 fun v15 h16 =>
 ∃ x17 : Option (TypeId × Value), v15 = (errV x17) ∧
 isIfaceV (errV x17) = true ∧
 VIf (!(isNilV (errV x17))) (
 ∃ R18 : Bool → H → Prop, (
 In64 (p0_n - (1 : Int)) ∧
 SemCall Go.Proofs.Try.prog 18 (List.toArray [(Value.int .i64 p2_i), (Value.int .i64 0), (Value.int .i64 (p0_n - (1 : Int)))]) h16 fun v19 h20 =>
 ∃ x21 : Bool, v19 = (Value.bool x21) ∧
 VIf (!x21) (
 (∃ h22, Gh h20 h22 ∧ R18 true h22)) (
 SemCall Go.Proofs.Try.prog 18 (List.toArray [(Value.int .i64 p3_value), (Value.int .i64 0), (Value.int .i64 (1000 : Int))]) h20 fun v23 h24 =>
 ∃ x25 : Bool, v23 = (Value.bool x25) ∧
 (∃ h26, Gh h24 h26 ∧ R18 (!x25) h26))) ∧
 ∀ (_ : F) (x27 : Bool) (h28 : H), R18 x27 h28 →
 VRet h28 (Value.bool x27) post) (
 SemCall Go.Proofs.Try.prog 24 (List.toArray [(Value.pointer x6), (Value.int .i64 p2_i)]) h16 fun v29 h30 =>
 ∃ x31 : Option (TypeId × Value), v29 = (errV x31) ∧
 isIfaceV (errV x31) = true ∧
 VIf (!(isNilV (errV x31))) (
 VRet h30 (Value.bool false) post) (
 SemCall Go.Proofs.Try.prog 25 (List.toArray [(Value.pointer x6)]) h30 fun v32 h33 =>
 v32 = (Value.tuple (List.toArray [])) ∧
 SemCall Go.Proofs.Try.prog 12 (List.toArray [(Value.pointer x6), (Value.slice p4_more.a p4_more.len p4_more.cap), (Value.int .i64 p2_i)]) h33 fun v34 h35 =>
 v34 = (Value.tuple (List.toArray [])) ∧
 SemCall Go.Proofs.Try.prog 14 (List.toArray [(Value.pointer x6), (Value.int .i64 0)]) h35 fun v36 h37 =>
 ∃ x38 : Option (TypeId × Value), v36 = (errV x38) ∧
 isIfaceV (errV x38) = true ∧
 VIf (!(isNilV (errV x38))) (
 VRet h37 (Value.bool false) post) (
 SemCall Go.Proofs.Try.prog 26 (List.toArray [(Value.pointer x6), (Value.int .i64 p2_i)]) h37 fun v39 h40 =>
 ∃ x41 : Int, v39 = (Value.int .i64 x41) ∧
 VRet h40 (Value.bool (x41 == p3_value)) post)))))

def f6_hint : Hint := (.node .leaf (.node .leaf (.node .leaf (.node .leaf (.node (.node .leaf (.node (.node (.join [(10, .bool)] .leaf) .leaf) .leaf)) (.node .leaf (.node (.node .leaf (.node (.node (.join [(10, .bool)] .leaf) .leaf) .leaf)) .leaf)))))))

theorem f6_eq (p0_n : Int) (p1_steps : SV) (p2_i : Int) (p3_value : Int) (p4_more : SV) (h0 : H) (post : Value → H → Prop) : exec Try.prog (bodyOf Try.f6) f6_hint (retQ Try.prog Try.f6 post) (F0 [(Value.int .i64 p0_n), (Value.slice p1_steps.a p1_steps.len p1_steps.cap), (Value.int .i64 p2_i), (Value.int .i64 p3_value), (Value.slice p4_more.a p4_more.len p4_more.cap)]) h0 = f6_sem p0_n p1_steps p2_i p3_value p4_more h0 post := by kernel_rfl

set_option maxRecDepth 20000 in
theorem f6_call (p0_n : Int) (p1_steps : SV) (p2_i : Int) (p3_value : Int) (p4_more : SV) (h0 : H) (post : Value → H → Prop) (hx : f6_sem p0_n p1_steps p2_i p3_value p4_more h0 post) : SemCall Try.prog 6 (List.toArray [(Value.int .i64 p0_n), (Value.slice p1_steps.a p1_steps.len p1_steps.cap), (Value.int .i64 p2_i), (Value.int .i64 p3_value), (Value.slice p4_more.a p4_more.len p4_more.cap)]) h0 post :=
 sem_of_exec (g := f6_hint) mixed Try.func6 (bodyOf_eq (by kernel_rfl)) (by kernel_rfl) ((f6_eq p0_n p1_steps p2_i p3_value p4_more h0 post).mpr hx)

/- latchgarth/latchgarthlaw4.pmemFact -/
def f10_J1 (post : Value → H → Prop) (x3 : Option Addr) (x19 : Bool) (h20 : H) : Prop :=
 VIf x19 (
 VRet h20 (Value.bool false) post) (
 SemCall Go.Proofs.Try.prog 25 (List.toArray [(Value.pointer x3)]) h20 fun v21 h22 =>
 v21 = (Value.tuple (List.toArray [])) ∧
 ∃ R23 : Bool → H → Prop, (
 SemCall Go.Proofs.Try.prog 14 (List.toArray [(Value.pointer x3), (Value.int .i64 0)]) h22 fun v24 h25 =>
 ∃ x26 : Option (TypeId × Value), v24 = (errV x26) ∧
 isIfaceV (errV x26) = true ∧
 VIf (isNilV (errV x26)) (
 SemCall Go.Proofs.Try.prog 13 (List.toArray [(Value.pointer x3)]) h25 fun v27 h28 =>
 ∃ x29 : SV, v27 = (Value.slice x29.a x29.len x29.cap) ∧
 H.new h28 [(Value.int .i64 (5 : Int)), (Value.int .i64 0)] fun r30 h31 =>
 SemCall Go.Proofs.Try.prog 15 (List.toArray [(Value.slice x29.a x29.len x29.cap), (Value.slice (some (Addr.mk r30 0 none)) 2 2)]) h31 fun v32 h33 =>
 ∃ x34 : Bool, v32 = (Value.bool x34) ∧
 (∃ h35, Gh h33 h35 ∧ R23 x34 h35)) (
 (∃ h36, Gh h25 h36 ∧ R23 false h36))) ∧
 ∀ (_ : F) (x37 : Bool) (h38 : H), R23 x37 h38 →
 VRet h38 (Value.bool x37) post)

def f10_sem (h0 : H) (post : Value → H → Prop) : Prop :=
 SemCall Go.Proofs.Try.prog 11 (List.toArray [(Value.int .i64 (2 : Int))]) h0 fun v1 h2 =>
 ∃ x3 : Option Addr, ∃ x4 : Option (TypeId × Value), v1 = (Value.tuple (List.toArray [(Value.pointer x3), (errV x4)])) ∧
 ∃ R5 : Bool → H → Prop, (
 isIfaceV (errV x4) = true ∧
 VIf (!(isNilV (errV x4))) (
 (∃ h6, Gh h2 h6 ∧ R5 true h6)) (
 SemCall Go.Proofs.Try.prog 23 (List.toArray [(Value.pointer x3), (Value.int .i64 0), (Value.int .i64 (5 : Int))]) h2 fun v7 h8 =>
 ∃ x9 : Option (TypeId × Value), v7 = (errV x9) ∧
 isIfaceV (errV x9) = true ∧
 VIf (!(isNilV (errV x9))) (
 (∃ h10, Gh h8 h10 ∧ R5 true h10)) (
 SemCall Go.Proofs.Try.prog 23 (List.toArray [(Value.pointer x3), (Value.int .i64 (1 : Int)), (Value.int .i64 (6 : Int))]) h8 fun v11 h12 =>
 ∃ x13 : Option (TypeId × Value), v11 = (errV x13) ∧
 isIfaceV (errV x13) = true ∧
 VIf (!(isNilV (errV x13))) (
 (∃ h14, Gh h12 h14 ∧ R5 true h14)) (
 SemCall Go.Proofs.Try.prog 24 (List.toArray [(Value.pointer x3), (Value.int .i64 0)]) h12 fun v15 h16 =>
 ∃ x17 : Option (TypeId × Value), v15 = (errV x17) ∧
 isIfaceV (errV x17) = true ∧
 (∃ h18, Gh h16 h18 ∧ R5 (!(isNilV (errV x17))) h18))))) ∧
 ∀ (_ : F) (x19 : Bool) (h20 : H), R5 x19 h20 →
 f10_J1 post x3 x19 h20

def f10_hint : Hint := (.node .leaf (.node .leaf (.node (.node (.join [(23, .bool)] .leaf) .leaf) (.node .leaf (.node (.join [(0, .bool)] .leaf) .leaf)))))

theorem f10_eq (h0 : H) (post : Value → H → Prop) : exec Try.prog (bodyOf Try.f10) f10_hint (retQ Try.prog Try.f10 post) (F0 []) h0 = f10_sem h0 post := by kernel_rfl

set_option maxRecDepth 20000 in
theorem f10_call (h0 : H) (post : Value → H → Prop) (hx : f10_sem h0 post) : SemCall Try.prog 10 (List.toArray []) h0 post :=
 sem_of_exec (g := f10_hint) mixed Try.func10 (bodyOf_eq (by kernel_rfl)) (by kernel_rfl) ((f10_eq h0 post).mpr hx)

/- latchgarth/pmem.New -/
def f11_sem (p0_n : Int) (h0 : H) (post : Value → H → Prop) : Prop :=
 SemCall Go.Proofs.Try.prog 34 (List.toArray [(Value.int .i64 p0_n), (Value.int .i64 (1 : Int)), (Value.int .i64 (8 : Int))]) h0 fun v1 h2 =>
 ∃ x3 : Bool, v1 = (Value.bool x3) ∧
 VIf (!x3) (
 VRet h2 (Value.tuple (List.toArray [(Value.pointer none), (Value.iface 56 (Value.int .i64 (1 : Int)))])) post) (
 0 ≤ p0_n ∧ p0_n ≤ p0_n ∧ ((32 : Nat) : Int) * p0_n ≤ 140737488355328 ∧ p0_n ≤ 1000000000 ∧
 H.new h2 (repl (p0_n).toNat [(Value.int .i64 0), (Value.int .i64 0), (Value.int .i64 0), (Value.bool false)]) fun r4 h5 =>
 H.new h5 [(Value.slice (some (Addr.mk r4 0 none)) ((p0_n).toNat) ((p0_n).toNat))] fun r6 h7 =>
 VRet h7 (Value.tuple (List.toArray [(Value.pointer (some (Addr.mk r6 0 none))), Value.nilIface])) post)

def f11_hint : Hint := .leaf

theorem f11_eq (p0_n : Int) (h0 : H) (post : Value → H → Prop) : exec Try.prog (bodyOf Try.f11) f11_hint (retQ Try.prog Try.f11 post) (F0 [(Value.int .i64 p0_n)]) h0 = f11_sem p0_n h0 post := by kernel_rfl

set_option maxRecDepth 20000 in
theorem f11_call (p0_n : Int) (h0 : H) (post : Value → H → Prop) (hx : f11_sem p0_n h0 post) : SemCall Try.prog 11 (List.toArray [(Value.int .i64 p0_n)]) h0 post :=
 sem_of_exec (g := f11_hint) mixed Try.func11 (bodyOf_eq (by kernel_rfl)) (by kernel_rfl) ((f11_eq p0_n h0 post).mpr hx)

/- latchgarth/latchgarthlaw4.done -/
def f12_J1 (p0_m : Option Addr) (I2 : Nat → Int → H → Prop) (n3 : Nat) (x6_k : Int) (x14 : SV) (x54 : Bool) (h55 : H) : Prop :=
 ∃ R56 : H → Prop, (
 VIf x54 (
 ∃ b57 : Addr, x14.a = some b57 ∧ 0 ≤ (1 : Int) ∧ (1 : Int) < ((x14.len : Nat) : Int) ∧
 ∃ x58 : Int, H.rd h55 (Addr.add (Addr.add b57 (((1 : Int)).toNat * 1)) 0) (Value.int .i64 x58) ∧
 SemCall Go.Proofs.Try.prog 14 (List.toArray [(Value.pointer p0_m), (Value.int .i64 x58)]) h55 fun v59 h60 =>
 ∃ x61 : Option (TypeId × Value), v59 = (errV x61) ∧
 (∃ h62, Gh h60 h62 ∧ R56 h62)) (
 (∃ h63, Gh h55 h63 ∧ R56 h63))) ∧
 ∀ (_ : F) (h64 : H), R56 h64 →
 VIf (((x14.len : Nat) : Int) == (1 : Int)) (
 SemCall Go.Proofs.Try.prog 25 (List.toArray [(Value.pointer p0_m)]) h64 fun v65 h66 =>
 v65 = (Value.tuple (List.toArray [])) ∧
 In64 (x6_k + (1 : Int)) ∧
 ∃ m4, m4 < n3 ∧ (∃ h67, Gh h66 h67 ∧ I2 m4 (x6_k + (1 : Int)) h67)) (
 In64 (x6_k + (1 : Int)) ∧
 ∃ m4, m4 < n3 ∧ (∃ h68, Gh h64 h68 ∧ I2 m4 (x6_k + (1 : Int)) h68))

def f12_J2 (p0_m : Option Addr) (I2 : Nat → Int → H → Prop) (n3 : Nat) (x6_k : Int) (x14 : SV) (x38 : Bool) (h39 : H) : Prop :=
 ∃ R40 : H → Prop, (
 VIf x38 (
 ∃ b41 : Addr, x14.a = some b41 ∧ 0 ≤ (1 : Int) ∧ (1 : Int) < ((x14.len : Nat) : Int) ∧
 ∃ x42 : Int, H.rd h39 (Addr.add (Addr.add b41 (((1 : Int)).toNat * 1)) 0) (Value.int .i64 x42) ∧
 SemCall Go.Proofs.Try.prog 24 (List.toArray [(Value.pointer p0_m), (Value.int .i64 x42)]) h39 fun v43 h44 =>
 ∃ x45 : Option (TypeId × Value), v43 = (errV x45) ∧
 (∃ h46, Gh h44 h46 ∧ R40 h46)) (
 (∃ h47, Gh h39 h47 ∧ R40 h47))) ∧
 ∀ (_ : F) (h48 : H), R40 h48 →
 ∃ R49 : Bool → H → Prop, (
 VIf (((x14.len : Nat) : Int) == (2 : Int)) (
 ∃ b50 : Addr, x14.a = some b50 ∧ 0 ≤ (0 : Int) ∧ (0 : Int) < ((x14.len : Nat) : Int) ∧
 ∃ x51 : Int, H.rd h48 (Addr.add (Addr.add b50 (((0 : Int)).toNat * 1)) 0) (Value.int .i64 x51) ∧
 (∃ h52, Gh h48 h52 ∧ R49 (x51 == (1 : Int)) h52)) (
 (∃ h53, Gh h48 h53 ∧ R49 false h53))) ∧
 ∀ (_ : F) (x54 : Bool) (h55 : H), R49 x54 h55 →
 f12_J1 p0_m I2 n3 x6_k x14 x54 h55

def f12_J3 (p0_m : Option Addr) (I2 : Nat → Int → H → Prop) (n3 : Nat) (x6_k : Int) (x14 : SV) (x20 : Bool) (h21 : H) : Prop :=
 ∃ R22 : H → Prop, (
 VIf x20 (
 ∃ b23 : Addr, x14.a = some b23 ∧ 0 ≤ (1 : Int) ∧ (1 : Int) < ((x14.len : Nat) : Int) ∧
 ∃ x24 : Int, H.rd h21 (Addr.add (Addr.add b23 (((1 : Int)).toNat * 1)) 0) (Value.int .i64 x24) ∧
 ∃ b25 : Addr, x14.a = some b25 ∧ 0 ≤ (2 : Int) ∧ (2 : Int) < ((x14.len : Nat) : Int) ∧
 ∃ x26 : Int, H.rd h21 (Addr.add (Addr.add b25 (((2 : Int)).toNat * 1)) 0) (Value.int .i64 x26) ∧
 SemCall Go.Proofs.Try.prog 23 (List.toArray [(Value.pointer p0_m), (Value.int .i64 x24), (Value.int .i64 x26)]) h21 fun v27 h28 =>
 ∃ x29 : Option (TypeId × Value), v27 = (errV x29) ∧
 (∃ h30, Gh h28 h30 ∧ R22 h30)) (
 (∃ h31, Gh h21 h31 ∧ R22 h31))) ∧
 ∀ (_ : F) (h32 : H), R22 h32 →
 ∃ R33 : Bool → H → Prop, (
 VIf (((x14.len : Nat) : Int) == (2 : Int)) (
 ∃ b34 : Addr, x14.a = some b34 ∧ 0 ≤ (0 : Int) ∧ (0 : Int) < ((x14.len : Nat) : Int) ∧
 ∃ x35 : Int, H.rd h32 (Addr.add (Addr.add b34 (((0 : Int)).toNat * 1)) 0) (Value.int .i64 x35) ∧
 (∃ h36, Gh h32 h36 ∧ R33 (x35 == (0 : Int)) h36)) (
 (∃ h37, Gh h32 h37 ∧ R33 false h37))) ∧
 ∀ (_ : F) (x38 : Bool) (h39 : H), R33 x38 h39 →
 f12_J2 p0_m I2 n3 x6_k x14 x38 h39

def f12_J4 (p0_m : Option Addr) (p1_steps : SV) (p2_but : Int) (R1 : H → Prop) (I2 : Nat → Int → H → Prop) (n3 : Nat) (x6_k : Int) (x11 : Bool) (h12 : H) : Prop :=
 VIf x11 (
 ∃ b13 : Addr, p1_steps.a = some b13 ∧ 0 ≤ x6_k ∧ x6_k < ((p1_steps.len : Nat) : Int) ∧
 ∃ x14 : SV, H.rd h12 (Addr.add (Addr.add b13 ((x6_k).toNat * 1)) 0) (Value.slice x14.a x14.len x14.cap) ∧
 ∃ R15 : Bool → H → Prop, (
 VIf (((x14.len : Nat) : Int) == (3 : Int)) (
 ∃ b16 : Addr, x14.a = some b16 ∧ 0 ≤ (1 : Int) ∧ (1 : Int) < ((x14.len : Nat) : Int) ∧
 ∃ x17 : Int, H.rd h12 (Addr.add (Addr.add b16 (((1 : Int)).toNat * 1)) 0) (Value.int .i64 x17) ∧
 (∃ h18, Gh h12 h18 ∧ R15 (x17 != p2_but) h18)) (
 (∃ h19, Gh h12 h19 ∧ R15 false h19))) ∧
 ∀ (_ : F) (x20 : Bool) (h21 : H), R15 x20 h21 →
 f12_J3 p0_m I2 n3 x6_k x14 x20 h21) (
 (∃ h69, Gh h12 h69 ∧ R1 h69))

def f12_L5 (p0_m : Option Addr) (p1_steps : SV) (p2_but : Int) (R1 : H → Prop) (I2 : Nat → Int → H → Prop) (n3 : Nat) (x6_k : Int) (h7 : H) : Prop :=
 ∃ R8 : Bool → H → Prop, (
 VIf (decide (x6_k < ((p1_steps.len : Nat) : Int))) (
 (∃ h9, Gh h7 h9 ∧ R8 (decide (x6_k < (60 : Int))) h9)) (
 (∃ h10, Gh h7 h10 ∧ R8 false h10))) ∧
 ∀ (_ : F) (x11 : Bool) (h12 : H), R8 x11 h12 →
 f12_J4 p0_m p1_steps p2_but R1 I2 n3 x6_k x11 h12

def f12_sem (p0_m : Option Addr) (p1_steps : SV) (p2_but : Int) (h0 : H) (post : Value → H → Prop) : Prop :=
 ∃ R1 : H → Prop, (
 ∃ I2 : Nat → Int → H → Prop, (∃ n3, (∃ h5, Gh h0 h5 ∧ I2 n3 (0 : Int) h5)) ∧
 ∀ (n3 : Nat) (_ : F) (x6_k : Int) (h7 : H), I2 n3 x6_k h7 →
 f12_L5 p0_m p1_steps p2_but R1 I2 n3 x6_k h7) ∧
 ∀ (_ : F) (h70 : H), R1 h70 →
 VRet h70 (Value.tuple (List.toArray [])) post

def f12_hint : Hint := (.node .leaf (.join [] (.node (.loop [(6, .int)] (.node (.node (.join [(15, .bool)] .leaf) .leaf) (.node (.node (.node .leaf (.node (.node (.join [(31, .bool)] .leaf) (.join [] (.node (.tail 7) .leaf))) (.node (.node (.join [(48, .bool)] .leaf) (.join [] .leaf)) (.node (.node (.join [(62, .bool)] .leaf) (.join [] .leaf)) .leaf)))) .leaf) .leaf))) .leaf)))

theorem f12_eq (p0_m : Option Addr) (p1_steps : SV) (p2_but : Int) (h0 : H) (post : Value → H → Prop) : exec Try.prog (bodyOf Try.f12) f12_hint (retQ Try.prog Try.f12 post) (F0 [(Value.pointer p0_m), (Value.slice p1_steps.a p1_steps.len p1_steps.cap), (Value.int .i64 p2_but)]) h0 = f12_sem p0_m p1_steps p2_but h0 post := by kernel_rfl

set_option maxRecDepth 20000 in
theorem f12_call (p0_m : Option Addr) (p1_steps : SV) (p2_but : Int) (h0 : H) (post : Value → H → Prop) (hx : f12_sem p0_m p1_steps p2_but h0 post) : SemCall Try.prog 12 (List.toArray [(Value.pointer p0_m), (Value.slice p1_steps.a p1_steps.len p1_steps.cap), (Value.int .i64 p2_but)]) h0 post :=
 sem_of_exec (g := f12_hint) mixed Try.func12 (bodyOf_eq (by kernel_rfl)) (by kernel_rfl) ((f12_eq p0_m p1_steps p2_but h0 post).mpr hx)

/- (*latchgarth/pmem.Mem).Crash -/
def f14_L1 (p0_m : Option Addr) (p1_keep : Int) (x7 : SV) (R8 : H → Prop) (I9 : Nat → Int → H → Prop) (n10 : Nat) (x13 : Int) (h14 : H) : Prop :=
 VIf (decide (x13 < ((x7.len : Nat) : Int))) (
 ∃ a15 : Addr, p0_m = some a15 ∧
 ∃ x16 : SV, H.rd h14 (Addr.add (Addr.add a15 0) 0) (Value.slice x16.a x16.len x16.cap) ∧
 ∃ b17 : Addr, x16.a = some b17 ∧ 0 ≤ x13 ∧ x13 < ((x16.len : Nat) : Int) ∧
 SemCall Go.Proofs.Try.prog 38 (List.toArray [(Value.int .i64 p1_keep), (Value.int .i64 x13)]) h14 fun v18 h19 =>
 ∃ x20 : Bool, v18 = (Value.bool x20) ∧
 ∃ R21 : H → Prop, (
 VIf x20 (
 ∃ a22 : Addr, (some (Addr.add b17 ((x13).toNat * 4))) = some a22 ∧
 ∃ x23 : Int, H.rd h19 (Addr.add (Addr.add a22 0) 0) (Value.int .i64 x23) ∧
 ∃ a24 : Addr, (some (Addr.add b17 ((x13).toNat * 4))) = some a24 ∧
 H.wr h19 (Addr.add a24 1) ([(Value.int .i64 x23)]) fun h25 =>
 (∃ h26, Gh h25 h26 ∧ R21 h26)) (
 (∃ h27, Gh h19 h27 ∧ R21 h27))) ∧
 ∀ (_ : F) (h28 : H), R21 h28 →
 ∃ a29 : Addr, (some (Addr.add b17 ((x13).toNat * 4))) = some a29 ∧
 ∃ x30 : Int, H.rd h28 (Addr.add (Addr.add a29 1) 0) (Value.int .i64 x30) ∧
 ∃ a31 : Addr, (some (Addr.add b17 ((x13).toNat * 4))) = some a31 ∧
 ∃ x32 : Int, H.rd h28 (Addr.add (Addr.add a31 1) 0) (Value.int .i64 x32) ∧
 ∃ a33 : Addr, (some (Addr.add b17 ((x13).toNat * 4))) = some a33 ∧
 ([(Value.int .i64 x30), (Value.int .i64 x32), (Value.int .i64 0), (Value.bool false)]).length = 4 ∧ (Program.underlying Go.Proofs.Try.prog 63).isSome = true ∧
 H.wr h28 a33 ([(Value.int .i64 x30), (Value.int .i64 x32), (Value.int .i64 0), (Value.bool false)]) fun h34 =>
 In64 (x13 + (1 : Int)) ∧
 ∃ m11, m11 < n10 ∧ (∃ h35, Gh h34 h35 ∧ I9 m11 (x13 + (1 : Int)) h35)) (
 (∃ h36, Gh h14 h36 ∧ R8 h36))

def f14_sem (p0_m : Option Addr) (p1_keep : Int) (h0 : H) (post : Value → H → Prop) : Prop :=
 ∃ a1 : Addr, p0_m = some a1 ∧
 ∃ x2 : SV, H.rd h0 (Addr.add (Addr.add a1 0) 0) (Value.slice x2.a x2.len x2.cap) ∧
 SemCall Go.Proofs.Try.prog 37 (List.toArray [(Value.int .i64 p1_keep), (Value.int .i64 ((x2.len : Nat) : Int))]) h0 fun v3 h4 =>
 ∃ x5 : Bool, v3 = (Value.bool x5) ∧
 VIf (!x5) (
 VRet h4 (Value.iface 56 (Value.int .i64 (1 : Int))) post) (
 ∃ a6 : Addr, p0_m = some a6 ∧
 ∃ x7 : SV, H.rd h4 (Addr.add (Addr.add a6 0) 0) (Value.slice x7.a x7.len x7.cap) ∧
 ∃ R8 : H → Prop, (
 ∃ I9 : Nat → Int → H → Prop, (∃ n10, (∃ h12, Gh h4 h12 ∧ I9 n10 (0 : Int) h12)) ∧
 ∀ (n10 : Nat) (_ : F) (x13 : Int) (h14 : H), I9 n10 x13 h14 →
 f14_L1 p0_m p1_keep x7 R8 I9 n10 x13 h14) ∧
 ∀ (_ : F) (h37 : H), R8 h37 →
 VRet h37 Value.nilIface post)

def f14_hint : Hint := (.node .leaf (.node .leaf (.node (.node .leaf (.join [] (.node (.loop [(21, .int)] (.node .leaf (.node .leaf (.node (.node (.node .leaf (.node .leaf (.node (.node .leaf (.join [] .leaf)) (.tail 11)))) .leaf) .leaf)))) .leaf))) .leaf)))

theorem f14_eq (p0_m : Option Addr) (p1_keep : Int) (h0 : H) (post : Value → H → Prop) : exec Try.prog (bodyOf Try.f14) f14_hint (retQ Try.prog Try.f14 post) (F0 [(Value.pointer p0_m), (Value.int .i64 p1_keep)]) h0 = f14_sem p0_m p1_keep h0 post := by kernel_rfl

set_option maxRecDepth 20000 in
theorem f14_call (p0_m : Option Addr) (p1_keep : Int) (h0 : H) (post : Value → H → Prop) (hx : f14_sem p0_m p1_keep h0 post) : SemCall Try.prog 14 (List.toArray [(Value.pointer p0_m), (Value.int .i64 p1_keep)]) h0 post :=
 sem_of_exec (g := f14_hint) mixed Try.func14 (bodyOf_eq (by kernel_rfl)) (by kernel_rfl) ((f14_eq p0_m p1_keep h0 post).mpr hx)

/- latchgarth/latchgarthsame.Ints -/
def f15_L1 (p0_a : SV) (p1_b : SV) (post : Value → H → Prop) (R1 : H → Prop) (I2 : Nat → Int → H → Prop) (n3 : Nat) (x6_i : Int) (h7 : H) : Prop :=
 VIf (decide (x6_i < ((p0_a.len : Nat) : Int))) (
 ∃ b8 : Addr, p0_a.a = some b8 ∧ 0 ≤ x6_i ∧ x6_i < ((p0_a.len : Nat) : Int) ∧
 ∃ x9 : Int, H.rd h7 (Addr.add (Addr.add b8 ((x6_i).toNat * 1)) 0) (Value.int .i64 x9) ∧
 ∃ b10 : Addr, p1_b.a = some b10 ∧ 0 ≤ x6_i ∧ x6_i < ((p1_b.len : Nat) : Int) ∧
 ∃ x11 : Int, H.rd h7 (Addr.add (Addr.add b10 ((x6_i).toNat * 1)) 0) (Value.int .i64 x11) ∧
 VIf (x9 != x11) (
 VRet h7 (Value.bool false) post) (
 In64 (x6_i + (1 : Int)) ∧
 ∃ m4, m4 < n3 ∧ (∃ h12, Gh h7 h12 ∧ I2 m4 (x6_i + (1 : Int)) h12))) (
 (∃ h13, Gh h7 h13 ∧ R1 h13))

def f15_sem (p0_a : SV) (p1_b : SV) (h0 : H) (post : Value → H → Prop) : Prop :=
 VIf (((p0_a.len : Nat) : Int) != ((p1_b.len : Nat) : Int)) (
 VRet h0 (Value.bool false) post) (
 ∃ R1 : H → Prop, (
 ∃ I2 : Nat → Int → H → Prop, (∃ n3, (∃ h5, Gh h0 h5 ∧ I2 n3 (0 : Int) h5)) ∧
 ∀ (n3 : Nat) (_ : F) (x6_i : Int) (h7 : H), I2 n3 x6_i h7 →
 f15_L1 p0_a p1_b post R1 I2 n3 x6_i h7) ∧
 ∀ (_ : F) (h14 : H), R1 h14 →
 VRet h14 (Value.bool true) post)

def f15_hint : Hint := (.node .leaf (.node .leaf (.node (.node .leaf (.join [] (.node (.loop [(5, .int)] .leaf) .leaf))) .leaf)))

theorem f15_eq (p0_a : SV) (p1_b : SV) (h0 : H) (post : Value → H → Prop) : exec Try.prog (bodyOf Try.f15) f15_hint (retQ Try.prog Try.f15 post) (F0 [(Value.slice p0_a.a p0_a.len p0_a.cap), (Value.slice p1_b.a p1_b.len p1_b.cap)]) h0 = f15_sem p0_a p1_b h0 post := by kernel_rfl

set_option maxRecDepth 20000 in
theorem f15_call (p0_a : SV) (p1_b : SV) (h0 : H) (post : Value → H → Prop) (hx : f15_sem p0_a p1_b h0 post) : SemCall Try.prog 15 (List.toArray [(Value.slice p0_a.a p0_a.len p0_a.cap), (Value.slice p1_b.a p1_b.len p1_b.cap)]) h0 post :=
 sem_of_exec (g := f15_hint) mixed Try.func15 (bodyOf_eq (by kernel_rfl)) (by kernel_rfl) ((f15_eq p0_a p1_b h0 post).mpr hx)

/- latchgarth/latchgarthlaw4.in -/
def f18_sem (p0_n : Int) (p1_low : Int) (p2_high : Int) (h0 : H) (post : Value → H → Prop) : Prop :=
 ∃ R1 : Bool → H → Prop, (
 VIf (decide (p0_n ≥ p1_low)) (
 (∃ h2, Gh h0 h2 ∧ R1 (decide (p0_n ≤ p2_high)) h2)) (
 (∃ h3, Gh h0 h3 ∧ R1 false h3))) ∧
 ∀ (_ : F) (x4 : Bool) (h5 : H), R1 x4 h5 →
 VRet h5 (Value.bool x4) post

def f18_hint : Hint := (.node .leaf (.node (.join [(6, .bool)] .leaf) .leaf))

theorem f18_eq (p0_n : Int) (p1_low : Int) (p2_high : Int) (h0 : H) (post : Value → H → Prop) : exec Try.prog (bodyOf Try.f18) f18_hint (retQ Try.prog Try.f18 post) (F0 [(Value.int .i64 p0_n), (Value.int .i64 p1_low), (Value.int .i64 p2_high)]) h0 = f18_sem p0_n p1_low p2_high h0 post := by kernel_rfl

set_option maxRecDepth 20000 in
theorem f18_call (p0_n : Int) (p1_low : Int) (p2_high : Int) (h0 : H) (post : Value → H → Prop) (hx : f18_sem p0_n p1_low p2_high h0 post) : SemCall Try.prog 18 (List.toArray [(Value.int .i64 p0_n), (Value.int .i64 p1_low), (Value.int .i64 p2_high)]) h0 post :=
 sem_of_exec (g := f18_hint) mixed Try.func18 (bodyOf_eq (by kernel_rfl)) (by kernel_rfl) ((f18_eq p0_n p1_low p2_high h0 post).mpr hx)

/- (*latchgarth/pmem.Mem).Write -/
def f23_sem (p0_m : Option Addr) (p1_i : Int) (p2_value : Int) (h0 : H) (post : Value → H → Prop) : Prop :=
 ∃ R1 : Bool → H → Prop, (
 SemCall Go.Proofs.Try.prog 42 (List.toArray [(Value.pointer p0_m), (Value.int .i64 p1_i)]) h0 fun v2 h3 =>
 ∃ x4 : Bool, v2 = (Value.bool x4) ∧
 VIf (!x4) (
 (∃ h5, Gh h3 h5 ∧ R1 true h5)) (
 SemCall Go.Proofs.Try.prog 34 (List.toArray [(Value.int .i64 p2_value), (Value.int .i64 0), (Value.int .i64 (1000 : Int))]) h3 fun v6 h7 =>
 ∃ x8 : Bool, v6 = (Value.bool x8) ∧
 (∃ h9, Gh h7 h9 ∧ R1 (!x8) h9))) ∧
 ∀ (_ : F) (x10 : Bool) (h11 : H), R1 x10 h11 →
 VIf x10 (
 VRet h11 (Value.iface 56 (Value.int .i64 (1 : Int))) post) (
 ∃ a12 : Addr, p0_m = some a12 ∧
 ∃ x13 : SV, H.rd h11 (Addr.add (Addr.add a12 0) 0) (Value.slice x13.a x13.len x13.cap) ∧
 ∃ b14 : Addr, x13.a = some b14 ∧ 0 ≤ p1_i ∧ p1_i < ((x13.len : Nat) : Int) ∧
 H.wr h11 (Addr.add (Addr.add b14 ((p1_i).toNat * 4)) 0) ([(Value.int .i64 p2_value)]) fun h15 =>
 VRet h15 Value.nilIface post)

def f23_hint : Hint := (.node .leaf (.node (.node (.join [(15, .bool)] .leaf) .leaf) .leaf))

theorem f23_eq (p0_m : Option Addr) (p1_i : Int) (p2_value : Int) (h0 : H) (post : Value → H → Prop) : exec Try.prog (bodyOf Try.f23) f23_hint (retQ Try.prog Try.f23 post) (F0 [(Value.pointer p0_m), (Value.int .i64 p1_i), (Value.int .i64 p2_value)]) h0 = f23_sem p0_m p1_i p2_value h0 post := by kernel_rfl

set_option maxRecDepth 20000 in
theorem f23_call (p0_m : Option Addr) (p1_i : Int) (p2_value : Int) (h0 : H) (post : Value → H → Prop) (hx : f23_sem p0_m p1_i p2_value h0 post) : SemCall Try.prog 23 (List.toArray [(Value.pointer p0_m), (Value.int .i64 p1_i), (Value.int .i64 p2_value)]) h0 post :=
 sem_of_exec (g := f23_hint) mixed Try.func23 (bodyOf_eq (by kernel_rfl)) (by kernel_rfl) ((f23_eq p0_m p1_i p2_value h0 post).mpr hx)

/- (*latchgarth/pmem.Mem).Flush -/
def f24_sem (p0_m : Option Addr) (p1_i : Int) (h0 : H) (post : Value → H → Prop) : Prop :=
 SemCall Go.Proofs.Try.prog 42 (List.toArray [(Value.pointer p0_m), (Value.int .i64 p1_i)]) h0 fun v1 h2 =>
 ∃ x3 : Bool, v1 = (Value.bool x3) ∧
 VIf (!x3) (
 VRet h2 (Value.iface 56 (Value.int .i64 (1 : Int))) post) (
 ∃ a4 : Addr, p0_m = some a4 ∧
 ∃ x5 : SV, H.rd h2 (Addr.add (Addr.add a4 0) 0) (Value.slice x5.a x5.len x5.cap) ∧
 ∃ b6 : Addr, x5.a = some b6 ∧ 0 ≤ p1_i ∧ p1_i < ((x5.len : Nat) : Int) ∧
 ∃ a7 : Addr, (some (Addr.add b6 ((p1_i).toNat * 4))) = some a7 ∧
 ∃ x8 : Int, H.rd h2 (Addr.add (Addr.add a7 0) 0) (Value.int .i64 x8) ∧
 ∃ a9 : Addr, (some (Addr.add b6 ((p1_i).toNat * 4))) = some a9 ∧
 H.wr h2 (Addr.add a9 2) ([(Value.int .i64 x8)]) fun h10 =>
 ∃ a11 : Addr, (some (Addr.add b6 ((p1_i).toNat * 4))) = some a11 ∧
 H.wr h10 (Addr.add a11 3) ([(Value.bool true)]) fun h12 =>
 VRet h12 Value.nilIface post)

def f24_hint : Hint := .leaf

theorem f24_eq (p0_m : Option Addr) (p1_i : Int) (h0 : H) (post : Value → H → Prop) : exec Try.prog (bodyOf Try.f24) f24_hint (retQ Try.prog Try.f24 post) (F0 [(Value.pointer p0_m), (Value.int .i64 p1_i)]) h0 = f24_sem p0_m p1_i h0 post := by kernel_rfl

set_option maxRecDepth 20000 in
theorem f24_call (p0_m : Option Addr) (p1_i : Int) (h0 : H) (post : Value → H → Prop) (hx : f24_sem p0_m p1_i h0 post) : SemCall Try.prog 24 (List.toArray [(Value.pointer p0_m), (Value.int .i64 p1_i)]) h0 post :=
 sem_of_exec (g := f24_hint) mixed Try.func24 (bodyOf_eq (by kernel_rfl)) (by kernel_rfl) ((f24_eq p0_m p1_i h0 post).mpr hx)

/- (*latchgarth/pmem.Mem).Fence -/
def f25_L1 (p0_m : Option Addr) (x2 : SV) (R3 : H → Prop) (I4 : Nat → Int → H → Prop) (n5 : Nat) (x8 : Int) (h9 : H) : Prop :=
 VIf (decide (x8 < ((x2.len : Nat) : Int))) (
 ∃ a10 : Addr, p0_m = some a10 ∧
 ∃ x11 : SV, H.rd h9 (Addr.add (Addr.add a10 0) 0) (Value.slice x11.a x11.len x11.cap) ∧
 ∃ b12 : Addr, x11.a = some b12 ∧ 0 ≤ x8 ∧ x8 < ((x11.len : Nat) : Int) ∧
 ∃ a13 : Addr, (some (Addr.add b12 ((x8).toNat * 4))) = some a13 ∧
 ∃ x14 : Bool, H.rd h9 (Addr.add (Addr.add a13 3) 0) (Value.bool x14) ∧
 VIf x14 (
 ∃ a15 : Addr, (some (Addr.add b12 ((x8).toNat * 4))) = some a15 ∧
 ∃ x16 : Int, H.rd h9 (Addr.add (Addr.add a15 2) 0) (Value.int .i64 x16) ∧
 ∃ a17 : Addr, (some (Addr.add b12 ((x8).toNat * 4))) = some a17 ∧
 H.wr h9 (Addr.add a17 1) ([(Value.int .i64 x16)]) fun h18 =>
 ∃ a19 : Addr, (some (Addr.add b12 ((x8).toNat * 4))) = some a19 ∧
 H.wr h18 (Addr.add a19 3) ([(Value.bool false)]) fun h20 =>
 In64 (x8 + (1 : Int)) ∧
 ∃ m6, m6 < n5 ∧ (∃ h21, Gh h20 h21 ∧ I4 m6 (x8 + (1 : Int)) h21)) (
 In64 (x8 + (1 : Int)) ∧
 ∃ m6, m6 < n5 ∧ (∃ h22, Gh h9 h22 ∧ I4 m6 (x8 + (1 : Int)) h22))) (
 (∃ h23, Gh h9 h23 ∧ R3 h23))

def f25_sem (p0_m : Option Addr) (h0 : H) (post : Value → H → Prop) : Prop :=
 ∃ a1 : Addr, p0_m = some a1 ∧
 ∃ x2 : SV, H.rd h0 (Addr.add (Addr.add a1 0) 0) (Value.slice x2.a x2.len x2.cap) ∧
 ∃ R3 : H → Prop, (
 ∃ I4 : Nat → Int → H → Prop, (∃ n5, (∃ h7, Gh h0 h7 ∧ I4 n5 (0 : Int) h7)) ∧
 ∀ (n5 : Nat) (_ : F) (x8 : Int) (h9 : H), I4 n5 x8 h9 →
 f25_L1 p0_m x2 R3 I4 n5 x8 h9) ∧
 ∀ (_ : F) (h24 : H), R3 h24 →
 VRet h24 (Value.tuple (List.toArray [])) post

def f25_hint : Hint := (.node .leaf (.join [] (.node (.loop [(9, .int)] .leaf) .leaf)))

theorem f25_eq (p0_m : Option Addr) (h0 : H) (post : Value → H → Prop) : exec Try.prog (bodyOf Try.f25) f25_hint (retQ Try.prog Try.f25 post) (F0 [(Value.pointer p0_m)]) h0 = f25_sem p0_m h0 post := by kernel_rfl

set_option maxRecDepth 20000 in
theorem f25_call (p0_m : Option Addr) (h0 : H) (post : Value → H → Prop) (hx : f25_sem p0_m h0 post) : SemCall Try.prog 25 (List.toArray [(Value.pointer p0_m)]) h0 post :=
 sem_of_exec (g := f25_hint) mixed Try.func25 (bodyOf_eq (by kernel_rfl)) (by kernel_rfl) ((f25_eq p0_m h0 post).mpr hx)

/- (*latchgarth/pmem.Mem).Read -/
def f26_sem (p0_m : Option Addr) (p1_i : Int) (h0 : H) (post : Value → H → Prop) : Prop :=
 SemCall Go.Proofs.Try.prog 42 (List.toArray [(Value.pointer p0_m), (Value.int .i64 p1_i)]) h0 fun v1 h2 =>
 ∃ x3 : Bool, v1 = (Value.bool x3) ∧
 VIf (!x3) (
 VRet h2 (Value.int .i64 (-1 : Int)) post) (
 ∃ a4 : Addr, p0_m = some a4 ∧
 ∃ x5 : SV, H.rd h2 (Addr.add (Addr.add a4 0) 0) (Value.slice x5.a x5.len x5.cap) ∧
 ∃ b6 : Addr, x5.a = some b6 ∧ 0 ≤ p1_i ∧ p1_i < ((x5.len : Nat) : Int) ∧
 ∃ x7 : Int, H.rd h2 (Addr.add (Addr.add (Addr.add b6 ((p1_i).toNat * 4)) 0) 0) (Value.int .i64 x7) ∧
 VRet h2 (Value.int .i64 x7) post)

def f26_hint : Hint := .leaf

theorem f26_eq (p0_m : Option Addr) (p1_i : Int) (h0 : H) (post : Value → H → Prop) : exec Try.prog (bodyOf Try.f26) f26_hint (retQ Try.prog Try.f26 post) (F0 [(Value.pointer p0_m), (Value.int .i64 p1_i)]) h0 = f26_sem p0_m p1_i h0 post := by kernel_rfl

set_option maxRecDepth 20000 in
theorem f26_call (p0_m : Option Addr) (p1_i : Int) (h0 : H) (post : Value → H → Prop) (hx : f26_sem p0_m p1_i h0 post) : SemCall Try.prog 26 (List.toArray [(Value.pointer p0_m), (Value.int .i64 p1_i)]) h0 post :=
 sem_of_exec (g := f26_hint) mixed Try.func26 (bodyOf_eq (by kernel_rfl)) (by kernel_rfl) ((f26_eq p0_m p1_i h0 post).mpr hx)

/- latchgarth/core.Within -/
def f34_sem (p0_n : Int) (p1_low : Int) (p2_high : Int) (h0 : H) (post : Value → H → Prop) : Prop :=
 ∃ R1 : Bool → H → Prop, (
 VIf (decide (p0_n ≥ p1_low)) (
 (∃ h2, Gh h0 h2 ∧ R1 (decide (p0_n ≤ p2_high)) h2)) (
 (∃ h3, Gh h0 h3 ∧ R1 false h3))) ∧
 ∀ (_ : F) (x4 : Bool) (h5 : H), R1 x4 h5 →
 VRet h5 (Value.bool x4) post

def f34_hint : Hint := (.node .leaf (.node (.join [(6, .bool)] .leaf) .leaf))

theorem f34_eq (p0_n : Int) (p1_low : Int) (p2_high : Int) (h0 : H) (post : Value → H → Prop) : exec Try.prog (bodyOf Try.f34) f34_hint (retQ Try.prog Try.f34 post) (F0 [(Value.int .i64 p0_n), (Value.int .i64 p1_low), (Value.int .i64 p2_high)]) h0 = f34_sem p0_n p1_low p2_high h0 post := by kernel_rfl

set_option maxRecDepth 20000 in
theorem f34_call (p0_n : Int) (p1_low : Int) (p2_high : Int) (h0 : H) (post : Value → H → Prop) (hx : f34_sem p0_n p1_low p2_high h0 post) : SemCall Try.prog 34 (List.toArray [(Value.int .i64 p0_n), (Value.int .i64 p1_low), (Value.int .i64 p2_high)]) h0 post :=
 sem_of_exec (g := f34_hint) mixed Try.func34 (bodyOf_eq (by kernel_rfl)) (by kernel_rfl) ((f34_eq p0_n p1_low p2_high h0 post).mpr hx)

/- latchgarth/core.Mask -/
def f37_sem (p0_set : Int) (p1_n : Int) (h0 : H) (post : Value → H → Prop) : Prop :=
 ∃ R1 : Bool → H → Prop, (
 VIf (decide (p0_set ≥ (0 : Int))) (
 0 ≤ p1_n ∧ p1_n ≤ 63 ∧ In64 ((1 : Int) * 2 ^ (p1_n).toNat) ∧
 (∃ h2, Gh h0 h2 ∧ R1 (decide (p0_set < ((1 : Int) * 2 ^ (p1_n).toNat))) h2)) (
 (∃ h3, Gh h0 h3 ∧ R1 false h3))) ∧
 ∀ (_ : F) (x4 : Bool) (h5 : H), R1 x4 h5 →
 VRet h5 (Value.bool x4) post

def f37_hint : Hint := (.node .leaf (.node (.join [(4, .bool)] .leaf) .leaf))

theorem f37_eq (p0_set : Int) (p1_n : Int) (h0 : H) (post : Value → H → Prop) : exec Try.prog (bodyOf Try.f37) f37_hint (retQ Try.prog Try.f37 post) (F0 [(Value.int .i64 p0_set), (Value.int .i64 p1_n)]) h0 = f37_sem p0_set p1_n h0 post := by kernel_rfl

set_option maxRecDepth 20000 in
theorem f37_call (p0_set : Int) (p1_n : Int) (h0 : H) (post : Value → H → Prop) (hx : f37_sem p0_set p1_n h0 post) : SemCall Try.prog 37 (List.toArray [(Value.int .i64 p0_set), (Value.int .i64 p1_n)]) h0 post :=
 sem_of_exec (g := f37_hint) mixed Try.func37 (bodyOf_eq (by kernel_rfl)) (by kernel_rfl) ((f37_eq p0_set p1_n h0 post).mpr hx)

/- latchgarth/core.Has -/
def f38_sem (p0_set : Int) (p1_i : Int) (h0 : H) (post : Value → H → Prop) : Prop :=
 0 ≤ p1_i ∧ p1_i ≤ 63 ∧
 VRet h0 (Value.bool ((bitsV .and (Int.fdiv p0_set (2 ^ (p1_i).toNat)) (1 : Int)) == (1 : Int))) post

def f38_hint : Hint := .leaf

theorem f38_eq (p0_set : Int) (p1_i : Int) (h0 : H) (post : Value → H → Prop) : exec Try.prog (bodyOf Try.f38) f38_hint (retQ Try.prog Try.f38 post) (F0 [(Value.int .i64 p0_set), (Value.int .i64 p1_i)]) h0 = f38_sem p0_set p1_i h0 post := by kernel_rfl

set_option maxRecDepth 20000 in
theorem f38_call (p0_set : Int) (p1_i : Int) (h0 : H) (post : Value → H → Prop) (hx : f38_sem p0_set p1_i h0 post) : SemCall Try.prog 38 (List.toArray [(Value.int .i64 p0_set), (Value.int .i64 p1_i)]) h0 post :=
 sem_of_exec (g := f38_hint) mixed Try.func38 (bodyOf_eq (by kernel_rfl)) (by kernel_rfl) ((f38_eq p0_set p1_i h0 post).mpr hx)

/- (*latchgarth/pmem.Mem).is -/
def f42_sem (p0_m : Option Addr) (p1_i : Int) (h0 : H) (post : Value → H → Prop) : Prop :=
 ∃ a1 : Addr, p0_m = some a1 ∧
 ∃ x2 : SV, H.rd h0 (Addr.add (Addr.add a1 0) 0) (Value.slice x2.a x2.len x2.cap) ∧
 In64 (((x2.len : Nat) : Int) - (1 : Int)) ∧
 SemCall Go.Proofs.Try.prog 34 (List.toArray [(Value.int .i64 p1_i), (Value.int .i64 0), (Value.int .i64 (((x2.len : Nat) : Int) - (1 : Int)))]) h0 fun v3 h4 =>
 ∃ x5 : Bool, v3 = (Value.bool x5) ∧
 VRet h4 (Value.bool x5) post

def f42_hint : Hint := .leaf

theorem f42_eq (p0_m : Option Addr) (p1_i : Int) (h0 : H) (post : Value → H → Prop) : exec Try.prog (bodyOf Try.f42) f42_hint (retQ Try.prog Try.f42 post) (F0 [(Value.pointer p0_m), (Value.int .i64 p1_i)]) h0 = f42_sem p0_m p1_i h0 post := by kernel_rfl

set_option maxRecDepth 20000 in
theorem f42_call (p0_m : Option Addr) (p1_i : Int) (h0 : H) (post : Value → H → Prop) (hx : f42_sem p0_m p1_i h0 post) : SemCall Try.prog 42 (List.toArray [(Value.pointer p0_m), (Value.int .i64 p1_i)]) h0 post :=
 sem_of_exec (g := f42_hint) mixed Try.func42 (bodyOf_eq (by kernel_rfl)) (by kernel_rfl) ((f42_eq p0_m p1_i h0 post).mpr hx)

/- slices.Clone[[]int,int] -/
def f39_sem (p0_s : SV) (h0 : H) (post : Value → H → Prop) : Prop :=
 VIf (Option.isNone p0_s.a) (
 VRet h0 (Value.slice none 0 0) post) (
 H.new h0 [] fun r1 h2 =>
 appVC Go.Proofs.Try.prog 30 (Value.slice (some (Addr.mk r1 0 none)) 0 0) (Value.slice p0_s.a p0_s.len p0_s.cap) h2 fun x3 h4 =>
 VRet h4 (Value.slice x3.a x3.len x3.cap) post)

def f39_hint : Hint := .leaf

theorem f39_eq (p0_s : SV) (h0 : H) (post : Value → H → Prop) : exec Try.prog (bodyOf Try.f39) f39_hint (retQ Try.prog Try.f39 post) (F0 [(Value.slice p0_s.a p0_s.len p0_s.cap)]) h0 = f39_sem p0_s h0 post := by kernel_rfl

set_option maxRecDepth 20000 in
theorem f39_call (p0_s : SV) (h0 : H) (post : Value → H → Prop) (hx : f39_sem p0_s h0 post) : SemCall Try.prog 39 (List.toArray [(Value.slice p0_s.a p0_s.len p0_s.cap)]) h0 post :=
 sem_of_exec (g := f39_hint) mixed Try.func39 (bodyOf_eq (by kernel_rfl)) (by kernel_rfl) ((f39_eq p0_s h0 post).mpr hx)

/- slices.Delete[[]int,int] -/
def f40_sem (p0_s : SV) (p1_i : Int) (p2_j : Int) (h0 : H) (post : Value → H → Prop) : Prop :=
 0 ≤ ((p0_s.len : Nat) : Int) ∧ ((p0_s.len : Nat) : Int) ≤ ((p0_s.cap : Nat) : Int) ∧ 0 ≤ p2_j ∧ p2_j ≤ ((p0_s.len : Nat) : Int) ∧ 0 ≤ p1_i ∧ p1_i ≤ p2_j ∧
 VIf (p1_i == p2_j) (
 VRet h0 (Value.slice p0_s.a p0_s.len p0_s.cap) post) (
 0 ≤ p1_i ∧ p1_i ≤ ((p0_s.cap : Nat) : Int) ∧
 0 ≤ p2_j ∧ p2_j ≤ ((p0_s.len : Nat) : Int) ∧
 appVC Go.Proofs.Try.prog 30 (Value.slice p0_s.a ((p1_i).toNat) p0_s.cap) (Value.slice (if p0_s.cap = (p2_j).toNat then p0_s.a else Option.map (fun z => Addr.add z ((p2_j).toNat * 1)) p0_s.a) (p0_s.len - (p2_j).toNat) (p0_s.cap - (p2_j).toNat)) h0 fun x1 h2 =>
 0 ≤ ((p0_s.len : Nat) : Int) ∧ ((p0_s.len : Nat) : Int) ≤ ((x1.cap : Nat) : Int) ∧ 0 ≤ ((x1.len : Nat) : Int) ∧ ((x1.len : Nat) : Int) ≤ ((p0_s.len : Nat) : Int) ∧
 clearVC Go.Proofs.Try.prog 30 (Value.slice (if x1.cap = (((x1.len : Nat) : Int)).toNat then x1.a else Option.map (fun z => Addr.add z ((((x1.len : Nat) : Int)).toNat * 1)) x1.a) ((((p0_s.len : Nat) : Int)).toNat - (((x1.len : Nat) : Int)).toNat) (x1.cap - (((x1.len : Nat) : Int)).toNat)) h2 fun h3 =>
 VRet h3 (Value.slice x1.a x1.len x1.cap) post)

def f40_hint : Hint := (.node .leaf (.node .leaf (.node .leaf (.node .leaf (.node (.tail 6) .leaf)))))

theorem f40_eq (p0_s : SV) (p1_i : Int) (p2_j : Int) (h0 : H) (post : Value → H → Prop) : exec Try.prog (bodyOf Try.f40) f40_hint (retQ Try.prog Try.f40 post) (F0 [(Value.slice p0_s.a p0_s.len p0_s.cap), (Value.int .i64 p1_i), (Value.int .i64 p2_j)]) h0 = f40_sem p0_s p1_i p2_j h0 post := by kernel_rfl

set_option maxRecDepth 20000 in
theorem f40_call (p0_s : SV) (p1_i : Int) (p2_j : Int) (h0 : H) (post : Value → H → Prop) (hx : f40_sem p0_s p1_i p2_j h0 post) : SemCall Try.prog 40 (List.toArray [(Value.slice p0_s.a p0_s.len p0_s.cap), (Value.int .i64 p1_i), (Value.int .i64 p2_j)]) h0 post :=
 sem_of_exec (g := f40_hint) mixed Try.func40 (bodyOf_eq (by kernel_rfl)) (by kernel_rfl) ((f40_eq p0_s p1_i p2_j h0 post).mpr hx)

/- slices.Contains[[]int,int] -/
def f41_sem (p0_s : SV) (p1_v : Int) (h0 : H) (post : Value → H → Prop) : Prop :=
 SemCall Go.Proofs.Try.prog 48 (List.toArray [(Value.slice p0_s.a p0_s.len p0_s.cap), (Value.int .i64 p1_v)]) h0 fun v1 h2 =>
 ∃ x3 : Int, v1 = (Value.int .i64 x3) ∧
 VRet h2 (Value.bool (decide (x3 ≥ (0 : Int)))) post

def f41_hint : Hint := .leaf

theorem f41_eq (p0_s : SV) (p1_v : Int) (h0 : H) (post : Value → H → Prop) : exec Try.prog (bodyOf Try.f41) f41_hint (retQ Try.prog Try.f41 post) (F0 [(Value.slice p0_s.a p0_s.len p0_s.cap), (Value.int .i64 p1_v)]) h0 = f41_sem p0_s p1_v h0 post := by kernel_rfl

set_option maxRecDepth 20000 in
theorem f41_call (p0_s : SV) (p1_v : Int) (h0 : H) (post : Value → H → Prop) (hx : f41_sem p0_s p1_v h0 post) : SemCall Try.prog 41 (List.toArray [(Value.slice p0_s.a p0_s.len p0_s.cap), (Value.int .i64 p1_v)]) h0 post :=
 sem_of_exec (g := f41_hint) mixed Try.func41 (bodyOf_eq (by kernel_rfl)) (by kernel_rfl) ((f41_eq p0_s p1_v h0 post).mpr hx)

/- slices.Index[[]int,int] -/
def f48_L1 (p0_s : SV) (p1_v : Int) (post : Value → H → Prop) (R1 : H → Prop) (I2 : Nat → Int → H → Prop) (n3 : Nat) (x6 : Int) (h7 : H) : Prop :=
 VIf (decide (x6 < ((p0_s.len : Nat) : Int))) (
 ∃ b8 : Addr, p0_s.a = some b8 ∧ 0 ≤ x6 ∧ x6 < ((p0_s.len : Nat) : Int) ∧
 ∃ x9 : Int, H.rd h7 (Addr.add (Addr.add b8 ((x6).toNat * 1)) 0) (Value.int .i64 x9) ∧
 VIf (p1_v == x9) (
 VRet h7 (Value.int .i64 x6) post) (
 In64 (x6 + (1 : Int)) ∧
 ∃ m4, m4 < n3 ∧ (∃ h10, Gh h7 h10 ∧ I2 m4 (x6 + (1 : Int)) h10))) (
 (∃ h11, Gh h7 h11 ∧ R1 h11))

def f48_sem (p0_s : SV) (p1_v : Int) (h0 : H) (post : Value → H → Prop) : Prop :=
 ∃ R1 : H → Prop, (
 ∃ I2 : Nat → Int → H → Prop, (∃ n3, (∃ h5, Gh h0 h5 ∧ I2 n3 (0 : Int) h5)) ∧
 ∀ (n3 : Nat) (_ : F) (x6 : Int) (h7 : H), I2 n3 x6 h7 →
 f48_L1 p0_s p1_v post R1 I2 n3 x6 h7) ∧
 ∀ (_ : F) (h12 : H), R1 h12 →
 VRet h12 (Value.int .i64 (-1 : Int)) post

def f48_hint : Hint := (.node .leaf (.node (.node .leaf (.join [] (.node (.loop [(8, .int)] .leaf) .leaf))) .leaf))

theorem f48_eq (p0_s : SV) (p1_v : Int) (h0 : H) (post : Value → H → Prop) : exec Try.prog (bodyOf Try.f48) f48_hint (retQ Try.prog Try.f48 post) (F0 [(Value.slice p0_s.a p0_s.len p0_s.cap), (Value.int .i64 p1_v)]) h0 = f48_sem p0_s p1_v h0 post := by kernel_rfl

set_option maxRecDepth 20000 in
theorem f48_call (p0_s : SV) (p1_v : Int) (h0 : H) (post : Value → H → Prop) (hx : f48_sem p0_s p1_v h0 post) : SemCall Try.prog 48 (List.toArray [(Value.slice p0_s.a p0_s.len p0_s.cap), (Value.int .i64 p1_v)]) h0 post :=
 sem_of_exec (g := f48_hint) mixed Try.func48 (bodyOf_eq (by kernel_rfl)) (by kernel_rfl) ((f48_eq p0_s p1_v h0 post).mpr hx)

end Go.Proofs.Ytkokdeenniejjaa
