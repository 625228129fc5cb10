import Derived.Test.YtnppmcgmmdcpiaaGreatDoorKE
import Derived.Test.YtnppmcgmmdcpiaaGreatDoorEngG
import Derived.Test.YtnppmcgmmdcpiaaGreatDoorRows
import Derived.Test.YtnppmcgmmdcpiaaGreatDoorT
namespace Go.Proofs.YtnppmcgmmdcpiaaGreatDoor
open Go.Eng
/- latchgarth/latchgarthlaw6.BookTurned -/
def p3_L1 (p2_i : Int) (x15 : ByteArray) (R24 : Int → H → Prop) (I25 : Nat → Int → Int → H → Prop) (n26 : Nat) (x29_line : Int) (x30_j : Int) (h31 : H) : Prop :=
 VIf (decide (x30_j < p2_i)) (
 0 ≤ x30_j ∧ x30_j < ((ByteArray.size x15 : Nat) : Int) ∧
 VIf (((((ByteArray.data x15).toList.getD (x30_j).toNat 0).toNat : Nat) : Int) == (10 : Int)) (
 In64 (x29_line + (1 : Int)) ∧
 In64 (x30_j + (1 : Int)) ∧
 ∃ m27, m27 < n26 ∧ (∃ h32, Gh h31 h32 ∧ I25 m27 (x29_line + (1 : Int)) (x30_j + (1 : Int)) h32)) (
 In64 (x30_j + (1 : Int)) ∧
 ∃ m27, m27 < n26 ∧ (∃ h33, Gh h31 h33 ∧ I25 m27 x29_line (x30_j + (1 : Int)) h33))) (
 (∃ h34, Gh h31 h34 ∧ R24 x29_line h34))

def p3_sem (p0_0_b : SV) (p0_1_b : SV) (p0_2_b : SV) (p1_steps : SV) (p2_i : Int) (p3_c : Int) (N : Int → Int → Addr → ByteArray → Int → H → Prop) (h0 : H) (post : Value → H → Prop) : Prop :=
 H.new h0 [(Value.slice p0_0_b.a p0_0_b.len p0_0_b.cap), (Value.slice p0_1_b.a p0_1_b.len p0_1_b.cap), (Value.slice p0_2_b.a p0_2_b.len p0_2_b.cap)] fun r1 h2 =>
 SemCall Go.Proofs.Tryz.prog 11 (List.toArray []) h2 fun v3 h4 =>
 ∃ x5 : Bool, v3 = (Value.bool x5) ∧
 VIf (!x5) (
 VRet h4 (Value.bool false) post) (
 ∃ x6 : SV, H.rd h4 (Addr.add (Addr.mk r1 0 none) 0) (Value.slice x6.a x6.len x6.cap) ∧
 ∃ x7 : SV, H.rd h4 (Addr.add (Addr.mk r1 0 none) 1) (Value.slice x7.a x7.len x7.cap) ∧
 ∃ x8 : SV, H.rd h4 (Addr.add (Addr.mk r1 0 none) 2) (Value.slice x8.a x8.len x8.cap) ∧
 SemCall Go.Proofs.Tryz.prog 12 (List.toArray [(Value.agg (List.toArray [(Value.slice x6.a x6.len x6.cap), (Value.slice x7.a x7.len x7.cap), (Value.slice x8.a x8.len x8.cap)])), (Value.slice p1_steps.a p1_steps.len p1_steps.cap)]) h4 fun v9 h10 =>
 ∃ x11 : Option Addr, ∃ x12 : Bool, v9 = (Value.tuple (List.toArray [(Value.pointer x11), (Value.bool x12)])) ∧
 VIf (!x12) (
 VRet h10 (Value.bool true) post) (
 SemCall Go.Proofs.Tryz.prog 13 (List.toArray [(Value.pointer x11)]) h10 fun v13 h14 =>
 ∃ x15 : ByteArray, v13 = (Value.string x15) ∧
 ∃ R16 : Bool → H → Prop, (
 VIf (decide (p2_i < (0 : Int))) (
 (∃ h17, Gh h14 h17 ∧ R16 true h17)) (
 VIf (decide (p2_i ≥ ((ByteArray.size x15 : Nat) : Int))) (
 (∃ h18, Gh h14 h18 ∧ R16 true h18)) (
 0 ≤ p2_i ∧ p2_i < ((ByteArray.size x15 : Nat) : Int) ∧
 VIf (((((ByteArray.data x15).toList.getD (p2_i).toNat 0).toNat : Nat) : Int) == (10 : Int)) (
 (∃ h19, Gh h14 h19 ∧ R16 true h19)) (
 VIf (p3_c == (10 : Int)) (
 (∃ h20, Gh h14 h20 ∧ R16 true h20)) (
 0 ≤ p2_i ∧ p2_i < ((ByteArray.size x15 : Nat) : Int) ∧
 (∃ h21, Gh h14 h21 ∧ R16 (((((ByteArray.data x15).toList.getD (p2_i).toNat 0).toNat : Nat) : Int) == p3_c) h21)))))) ∧
 ∀ (_ : F) (x22 : Bool) (h23 : H), R16 x22 h23 →
 VIf x22 (
 VRet h23 (Value.bool true) post) (
 ∃ R24 : Int → H → Prop, (
 ∃ I25 : Nat → Int → Int → H → Prop, (∃ n26, (∃ h28, Gh h23 h28 ∧ I25 n26 (1 : Int) (0 : Int) h28)) ∧
 ∀ (n26 : Nat) (_ : F) (x29_line : Int) (x30_j : Int) (h31 : H), I25 n26 x29_line x30_j h31 →
 p3_L1 p2_i x15 R24 I25 n26 x29_line x30_j h31) ∧
 ∀ (_ : F) (x35_line : Int) (h36 : H), R24 x35_line h36 →
 (∃ h37, Gh h36 h37 ∧ N p2_i p3_c (Addr.mk r1 0 none) x15 x35_line h37))))

def p3_hint : Hint := (.node .leaf (.node .leaf (.node .leaf (.node .leaf (.node .leaf (.node .leaf (.node (.node (.join [(55, .bool)] .leaf) .leaf) (.node .leaf (.node (.node .leaf (.join [(13, .int)] (.node (.loop [(13, .int), (14, .int)] .leaf) .leaf))) .leaf)))))))))

theorem p3_eq (p0_0_b : SV) (p0_1_b : SV) (p0_2_b : SV) (p1_steps : SV) (p2_i : Int) (p3_c : Int) (N : Int → Int → Addr → ByteArray → Int → H → Prop) (h0 : H) (post : Value → H → Prop) : exec Tryz.prog (preOf 9 (bodyOf Tryz.f3)) p3_hint (preQ (appS [(2, .int), (3, .u8), (4, .addr), (12, .str), (13, .int)] N) (retQ Tryz.prog Tryz.f3 post)) (F0 [(Value.agg (List.toArray [(Value.slice p0_0_b.a p0_0_b.len p0_0_b.cap), (Value.slice p0_1_b.a p0_1_b.len p0_1_b.cap), (Value.slice p0_2_b.a p0_2_b.len p0_2_b.cap)])), (Value.slice p1_steps.a p1_steps.len p1_steps.cap), (Value.int .i64 p2_i), (Value.int .u8 p3_c)]) h0 = p3_sem p0_0_b p0_1_b p0_2_b p1_steps p2_i p3_c N h0 post := by kernel_rfl

set_option maxRecDepth 20000 in
theorem p3_call (p0_0_b : SV) (p0_1_b : SV) (p0_2_b : SV) (p1_steps : SV) (p2_i : Int) (p3_c : Int) (N : Int → Int → Addr → ByteArray → Int → H → Prop) (h0 : H) (post : Value → H → Prop) (hx : p3_sem p0_0_b p0_1_b p0_2_b p1_steps p2_i p3_c N h0 post)
 (hR : ∀ w f h a w2, Holds w h0 → Inv Tryz.f3.ntmps w h0 f h a w2 → appS [(2, .int), (3, .u8), (4, .addr), (12, .str), (13, .int)] N f h → (restOf 9 (bodyOf Tryz.f3)).wp Tryz.prog (bodyPost Tryz.prog Tryz.f3 (semEnd h0 w post)) a w2) : SemCall Tryz.prog 3 (List.toArray [(Value.agg (List.toArray [(Value.slice p0_0_b.a p0_0_b.len p0_0_b.cap), (Value.slice p0_1_b.a p0_1_b.len p0_1_b.cap), (Value.slice p0_2_b.a p0_2_b.len p0_2_b.cap)])), (Value.slice p1_steps.a p1_steps.len p1_steps.cap), (Value.int .i64 p2_i), (Value.int .u8 p3_c)]) h0 post :=
 sem_of_pre (g := p3_hint) 9 mixed Tryz.func3 (bodyOf_eq (by kernel_rfl)) (by kernel_rfl) (by kernel_rfl) ((p3_eq p0_0_b p0_1_b p0_2_b p1_steps p2_i p3_c N h0 post).mpr hx) hR

/- latchgarth/latchgarthlaw6.BookTurned -/
def r3_sem (g : F) (x13_line : Int) (x16_many : Int) (x17_err : Option (TypeId × Value)) (h0 : H) (post : Value → H → Prop) : Prop :=
 ∃ R1 : Bool → H → Prop, (
 VIf (x16_many == x13_line) (
 SemCall Go.Proofs.Tryz.prog 15 (List.toArray [(errV x17_err), (Value.int .i64 (2 : Int))]) h0 fun v2 h3 =>
 ∃ x4 : Bool, v2 = (Value.bool x4) ∧
 VIf x4 (
 (∃ h5, Gh h3 h5 ∧ R1 true h5)) (
 SemCall Go.Proofs.Tryz.prog 15 (List.toArray [(errV x17_err), (Value.int .i64 (6 : Int))]) h3 fun v6 h7 =>
 ∃ x8 : Bool, v6 = (Value.bool x8) ∧
 (∃ h9, Gh h7 h9 ∧ R1 x8 h9))) (
 (∃ h10, Gh h0 h10 ∧ R1 false h10))) ∧
 ∀ (_ : F) (x11 : Bool) (h12 : H), R1 x11 h12 →
 VRet h12 (Value.bool x11) post

def r3_hint : Hint := (.node (.join [(8, .bool)] .leaf) .leaf)

theorem r3_eq (g : F) (x13_line : Int) (x16_many : Int) (x17_err : Option (TypeId × Value)) (h0 : H) (post : Value → H → Prop) : exec Tryz.prog (restOf 10 (bodyOf Tryz.f3)) r3_hint (retQ Tryz.prog Tryz.f3 post) (upd (upd (upd g 13 (Value.int .i64 x13_line)) 16 (Value.int .i64 x16_many)) 17 (errV x17_err)) h0 = r3_sem g x13_line x16_many x17_err h0 post := by kernel_rfl

set_option maxRecDepth 20000 in
theorem r3_end (g : F) (x13_line : Int) (x16_many : Int) (x17_err : Option (TypeId × Value)) (h0 : H) (post : Value → H → Prop) {w w2 : World} {h : H} {a : Act} (hi : Inv Tryz.f3.ntmps w h (upd (upd (upd g 13 (Value.int .i64 x13_line)) 16 (Value.int .i64 x16_many)) 17 (errV x17_err)) h0 a w2) (hx : r3_sem g x13_line x16_many x17_err h0 post) : (restOf 10 (bodyOf Tryz.f3)).wp Tryz.prog (bodyPost Tryz.prog Tryz.f3 (semEnd h w post)) a w2 :=
 exec_end (g := r3_hint) mixed (fun d hd => Nat.le_of_ble_eq_true (List.all_eq_true.1 (show ((writes (restOf 10 (bodyOf Tryz.f3))).all fun d => Nat.ble (d + 1) Tryz.f3.ntmps) = true by kernel_rfl) d hd)) hi ((r3_eq g x13_line x16_many x17_err h0 post).mpr hx)

end Go.Proofs.YtnppmcgmmdcpiaaGreatDoor
