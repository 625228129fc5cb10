import Derived.Test.YtnppmcgmmdcpiaaGreatDoorEngG
import Derived.Test.YtnppmcgmmdcpiaaGreatDoorRows
import Derived.Test.YtnppmcgmmdcpiaaGreatDoorT
namespace Go.Proofs.YtnppmcgmmdcpiaaGreatDoor
open Go.Eng
/- (*latchgarth/book.Book).do -/
def f38b_L1 (p4_want : SV) (R24 : ByteArray → H → Prop) (I25 : Nat → ByteArray → Int → H → Prop) (n26 : Nat) (x29_s : ByteArray) (x30 : Int) (h31 : H) : Prop :=
 VIf (decide (x30 < ((p4_want.len : Nat) : Int))) (
 ∃ b32 : Addr, p4_want.a = some b32 ∧ 0 ≤ x30 ∧ x30 < ((p4_want.len : Nat) : Int) ∧
 ∃ x33 : Int, H.rd h31 (Addr.add (Addr.add b32 ((x30).toNat * 1)) 0) (Value.int .i64 x33) ∧
 SemCall Go.Proofs.Tryz.prog 64 (List.toArray [(Value.int .i64 x33)]) h31 fun v34 h35 =>
 ∃ x36 : ByteArray, v34 = (Value.string x36) ∧
 ((ByteArray.size (ByteArray.mk (List.toArray [(32 : UInt8)])) + ByteArray.size x36 : Nat) : Int) ≤ 9223372036854775807 ∧
 ((ByteArray.size x29_s + ByteArray.size ((ByteArray.mk (List.toArray [(32 : UInt8)])) ++ x36) : Nat) : Int) ≤ 9223372036854775807 ∧
 In64 (x30 + (1 : Int)) ∧
 ∃ m27, m27 < n26 ∧ (∃ h37, Gh h35 h37 ∧ I25 m27 (x29_s ++ ((ByteArray.mk (List.toArray [(32 : UInt8)])) ++ x36)) (x30 + (1 : Int)) h37)) (
 (∃ h38, Gh h31 h38 ∧ R24 x29_s h38))

def f38b_J2 (p0_b : Option Addr) (post : Value → H → Prop) (x39_s : ByteArray) (h40 : H) : Prop :=
 ∃ a41 : Addr, p0_b = some a41 ∧
 ((ByteArray.size x39_s + ByteArray.size (ByteArray.mk (List.toArray [(32 : UInt8)])) : Nat) : Int) ≤ 9223372036854775807 ∧
 SemCall Go.Proofs.Tryz.prog 55 (List.toArray [(Value.string x39_s)]) h40 fun v42 h43 =>
 ∃ x44 : Int, v42 = (Value.int .i64 x44) ∧
 SemCall Go.Proofs.Tryz.prog 64 (List.toArray [(Value.int .i64 x44)]) h43 fun v45 h46 =>
 ∃ x47 : ByteArray, v45 = (Value.string x47) ∧
 ((ByteArray.size (x39_s ++ (ByteArray.mk (List.toArray [(32 : UInt8)]))) + ByteArray.size x47 : Nat) : Int) ≤ 9223372036854775807 ∧
 ((ByteArray.size ((x39_s ++ (ByteArray.mk (List.toArray [(32 : UInt8)]))) ++ x47) + ByteArray.size (ByteArray.mk (List.toArray [(10 : UInt8)])) : Nat) : Int) ≤ 9223372036854775807 ∧
 SemCall Go.Proofs.Tryz.prog 42 (List.toArray [(Value.pointer (some (Addr.add a41 3))), (Value.string (((x39_s ++ (ByteArray.mk (List.toArray [(32 : UInt8)]))) ++ x47) ++ (ByteArray.mk (List.toArray [(10 : UInt8)]))))]) h46 fun v48 h49 =>
 ∃ x50 : Int, ∃ x51 : Option (TypeId × Value), v48 = (Value.tuple (List.toArray [(Value.int .i64 x50), (errV x51)])) ∧
 ∃ a52 : Addr, p0_b = some a52 ∧
 ∃ x53 : Int, H.rd h49 (Addr.add (Addr.add a52 5) 0) (Value.int .i64 x53) ∧
 In64 (x53 + (1 : Int)) ∧
 ∃ a54 : Addr, p0_b = some a54 ∧
 H.wr h49 (Addr.add a54 5) ([(Value.int .i64 (x53 + (1 : Int)))]) fun h55 =>
 VRet h55 Value.nilIface post

def f38b_sem (p0_b : Option Addr) (p1_word : ByteArray) (p3_t : Int) (p4_want : SV) (h0 : H) (post : Value → H → Prop) : Prop :=
 ∃ a1 : Addr, p0_b = some a1 ∧
 ∃ x2 : Int, H.rd h0 (Addr.add (Addr.add a1 5) 0) (Value.int .i64 x2) ∧
 VIf (x2 == (60 : Int)) (
 VRet h0 (Value.iface 57 (Value.int .i64 (4 : Int))) post) (
 ∃ a3 : Addr, p0_b = some a3 ∧
 ∃ x4 : SV, H.rd h0 (Addr.add (Addr.add a3 0) 0) (Value.slice x4.a x4.len x4.cap) ∧
 ∃ x5 : SV, H.rd h0 (Addr.add (Addr.add a3 0) 1) (Value.slice x5.a x5.len x5.cap) ∧
 ∃ x6 : SV, H.rd h0 (Addr.add (Addr.add a3 0) 2) (Value.slice x6.a x6.len x6.cap) ∧
 SemCall Go.Proofs.Tryz.prog 49 (List.toArray [(Value.agg (List.toArray [(Value.slice x4.a x4.len x4.cap), (Value.slice x5.a x5.len x5.cap), (Value.slice x6.a x6.len x6.cap)])), (Value.int .i64 p3_t), (Value.slice p4_want.a p4_want.len p4_want.cap)]) h0 fun v7 h8 =>
 ∃ x9 : SV, ∃ x10 : SV, ∃ x11 : SV, ∃ x12 : Option (TypeId × Value), v7 = (Value.tuple (List.toArray [(Value.agg (List.toArray [(Value.slice x9.a x9.len x9.cap), (Value.slice x10.a x10.len x10.cap), (Value.slice x11.a x11.len x11.cap)])), (errV x12)])) ∧
 H.new h8 [(Value.slice none 0 0), (Value.slice none 0 0), (Value.slice none 0 0)] fun r13 h14 =>
 ([(Value.slice x9.a x9.len x9.cap), (Value.slice x10.a x10.len x10.cap), (Value.slice x11.a x11.len x11.cap)]).length = 3 ∧ (Program.underlying Go.Proofs.Tryz.prog 25).isSome = true ∧
 H.wr h14 (Addr.mk r13 0 none) ([(Value.slice x9.a x9.len x9.cap), (Value.slice x10.a x10.len x10.cap), (Value.slice x11.a x11.len x11.cap)]) fun h15 =>
 isIfaceV (errV x12) = true ∧
 VIf (!(isNilV (errV x12))) (
 VRet h15 (errV x12) post) (
 ∃ x16 : SV, H.rd h15 (Addr.add (Addr.mk r13 0 none) 0) (Value.slice x16.a x16.len x16.cap) ∧
 ∃ x17 : SV, H.rd h15 (Addr.add (Addr.mk r13 0 none) 1) (Value.slice x17.a x17.len x17.cap) ∧
 ∃ x18 : SV, H.rd h15 (Addr.add (Addr.mk r13 0 none) 2) (Value.slice x18.a x18.len x18.cap) ∧
 ∃ a19 : Addr, p0_b = some a19 ∧
 ([(Value.slice x16.a x16.len x16.cap), (Value.slice x17.a x17.len x17.cap), (Value.slice x18.a x18.len x18.cap)]).length = 3 ∧ (Program.underlying Go.Proofs.Tryz.prog 25).isSome = true ∧
 H.wr h15 (Addr.add a19 0) ([(Value.slice x16.a x16.len x16.cap), (Value.slice x17.a x17.len x17.cap), (Value.slice x18.a x18.len x18.cap)]) fun h20 =>
 ((ByteArray.size p1_word + ByteArray.size (ByteArray.mk (List.toArray [(32 : UInt8)])) : Nat) : Int) ≤ 9223372036854775807 ∧
 SemCall Go.Proofs.Tryz.prog 64 (List.toArray [(Value.int .i64 p3_t)]) h20 fun v21 h22 =>
 ∃ x23 : ByteArray, v21 = (Value.string x23) ∧
 ((ByteArray.size (p1_word ++ (ByteArray.mk (List.toArray [(32 : UInt8)]))) + ByteArray.size x23 : Nat) : Int) ≤ 9223372036854775807 ∧
 ∃ R24 : ByteArray → H → Prop, (
 ∃ I25 : Nat → ByteArray → Int → H → Prop, (∃ n26, (∃ h28, Gh h22 h28 ∧ I25 n26 ((p1_word ++ (ByteArray.mk (List.toArray [(32 : UInt8)]))) ++ x23) (0 : Int) h28)) ∧
 ∀ (n26 : Nat) (_ : F) (x29_s : ByteArray) (x30 : Int) (h31 : H), I25 n26 x29_s x30 h31 →
 f38b_L1 p4_want R24 I25 n26 x29_s x30 h31) ∧
 ∀ (_ : F) (x39_s : ByteArray) (h40 : H), R24 x39_s h40 →
 f38b_J2 p0_b post x39_s h40))

def f38b_hint : Hint := (.node .leaf (.node .leaf (.node .leaf (.node .leaf (.node .leaf (.node .leaf (.node (.node .leaf (.join [(13, .str)] (.node (.loop [(13, .str), (47, .int)] .leaf) .leaf))) (.node .lex .leaf))))))))

theorem f38b_eq (p0_b : Option Addr) (p1_word : ByteArray) (p3_t : Int) (p4_want : SV) (h0 : H) (post : Value → H → Prop) : exec Tryz.prog (bodyOf Tryz.f38) f38b_hint (retQ Tryz.prog Tryz.f38 post) (F0 [(Value.pointer p0_b), (Value.string p1_word), (Value.func (.func 49) #[] #[]), (Value.int .i64 p3_t), (Value.slice p4_want.a p4_want.len p4_want.cap)]) h0 = f38b_sem p0_b p1_word p3_t p4_want h0 post := by kernel_rfl

set_option maxRecDepth 20000 in
theorem f38b_call (p0_b : Option Addr) (p1_word : ByteArray) (p3_t : Int) (p4_want : SV) (h0 : H) (post : Value → H → Prop) (hx : f38b_sem p0_b p1_word p3_t p4_want h0 post) : SemCall Tryz.prog 38 (List.toArray [(Value.pointer p0_b), (Value.string p1_word), (Value.func (.func 49) #[] #[]), (Value.int .i64 p3_t), (Value.slice p4_want.a p4_want.len p4_want.cap)]) h0 post :=
 sem_of_exec (g := f38b_hint) mixed Tryz.func38 (bodyOf_eq (by kernel_rfl)) (by kernel_rfl) ((f38b_eq p0_b p1_word p3_t p4_want h0 post).mpr hx)

end Go.Proofs.YtnppmcgmmdcpiaaGreatDoor
