import Derived.Test.YtnppmcgmmdcpiaaGreatDoorEngG
import Derived.Test.YtnppmcgmmdcpiaaGreatDoorRows
import Derived.Test.YtnppmcgmmdcpiaaGreatDoorT
namespace Go.Proofs.YtnppmcgmmdcpiaaGreatDoor
open Go.Eng
/- latchgarth/latchgarthlaw6.BookAgain -/
def f5_J1 (p2_t : Int) (p3_want : SV) (post : Value → H → Prop) (x11 : Option Addr) (x21 : Option Addr) (x47 : Bool) (h48 : H) : Prop :=
 VIf x47 (
 VRet h48 (Value.bool false) post) (
 SemCall Go.Proofs.Tryz.prog 19 (List.toArray [(Value.pointer x11), (Value.int .i64 p2_t), (Value.slice p3_want.a p3_want.len p3_want.cap)]) h48 fun v49 h50 =>
 ∃ x51 : Option (TypeId × Value), v49 = (errV x51) ∧
 SemCall Go.Proofs.Tryz.prog 19 (List.toArray [(Value.pointer x21), (Value.int .i64 p2_t), (Value.slice p3_want.a p3_want.len p3_want.cap)]) h50 fun v52 h53 =>
 ∃ x54 : Option (TypeId × Value), v52 = (errV x54) ∧
 ∃ R55 : Bool → H → Prop, (
 isIfaceV (errV x51) = true ∧
 isIfaceV (errV x54) = true ∧
 VIf ((isNilV (errV x51)) == (isNilV (errV x54))) (
 SemCall Go.Proofs.Tryz.prog 18 (List.toArray [(Value.pointer x21)]) h53 fun v56 h57 =>
 ∃ x58 : SV, ∃ x59 : SV, ∃ x60 : SV, v56 = (Value.agg (List.toArray [(Value.slice x58.a x58.len x58.cap), (Value.slice x59.a x59.len x59.cap), (Value.slice x60.a x60.len x60.cap)])) ∧
 SemCall Go.Proofs.Tryz.prog 18 (List.toArray [(Value.pointer x11)]) h57 fun v61 h62 =>
 ∃ x63 : SV, ∃ x64 : SV, ∃ x65 : SV, v61 = (Value.agg (List.toArray [(Value.slice x63.a x63.len x63.cap), (Value.slice x64.a x64.len x64.cap), (Value.slice x65.a x65.len x65.cap)])) ∧
 SemCall Go.Proofs.Tryz.prog 17 (List.toArray [(Value.agg (List.toArray [(Value.slice x58.a x58.len x58.cap), (Value.slice x59.a x59.len x59.cap), (Value.slice x60.a x60.len x60.cap)])), (Value.agg (List.toArray [(Value.slice x63.a x63.len x63.cap), (Value.slice x64.a x64.len x64.cap), (Value.slice x65.a x65.len x65.cap)]))]) h62 fun v66 h67 =>
 ∃ x68 : Bool, v66 = (Value.bool x68) ∧
 VIf x68 (
 SemCall Go.Proofs.Tryz.prog 13 (List.toArray [(Value.pointer x21)]) h67 fun v69 h70 =>
 ∃ x71 : ByteArray, v69 = (Value.string x71) ∧
 SemCall Go.Proofs.Tryz.prog 13 (List.toArray [(Value.pointer x11)]) h70 fun v72 h73 =>
 ∃ x74 : ByteArray, v72 = (Value.string x74) ∧
 (∃ h75, Gh h73 h75 ∧ R55 (ByteArray.toList x71 == ByteArray.toList x74) h75)) (
 (∃ h76, Gh h67 h76 ∧ R55 false h76))) (
 (∃ h77, Gh h53 h77 ∧ R55 false h77))) ∧
 ∀ (_ : F) (x78 : Bool) (h79 : H), R55 x78 h79 →
 VRet h79 (Value.bool x78) post)

def f5_sem (p0_0_b : SV) (p0_1_b : SV) (p0_2_b : SV) (p1_steps : SV) (p2_t : Int) (p3_want : SV) (h0 : H) (post : Value → H → Prop) : Prop :=
 H.new h0 [(Value.slice p0_0_b.a p0_0_b.len p0_0_b.cap), (Value.slice p0_1_b.a p0_1_b.len p0_1_b.cap), (Value.slice p0_2_b.a p0_2_b.len p0_2_b.cap)] fun r1 h2 =>
 SemCall Go.Proofs.Tryz.prog 11 (List.toArray []) h2 fun v3 h4 =>
 ∃ x5 : Bool, v3 = (Value.bool x5) ∧
 VIf (!x5) (
 VRet h4 (Value.bool false) post) (
 ∃ x6 : SV, H.rd h4 (Addr.add (Addr.mk r1 0 none) 0) (Value.slice x6.a x6.len x6.cap) ∧
 ∃ x7 : SV, H.rd h4 (Addr.add (Addr.mk r1 0 none) 1) (Value.slice x7.a x7.len x7.cap) ∧
 ∃ x8 : SV, H.rd h4 (Addr.add (Addr.mk r1 0 none) 2) (Value.slice x8.a x8.len x8.cap) ∧
 SemCall Go.Proofs.Tryz.prog 12 (List.toArray [(Value.agg (List.toArray [(Value.slice x6.a x6.len x6.cap), (Value.slice x7.a x7.len x7.cap), (Value.slice x8.a x8.len x8.cap)])), (Value.slice p1_steps.a p1_steps.len p1_steps.cap)]) h4 fun v9 h10 =>
 ∃ x11 : Option Addr, ∃ x12 : Bool, v9 = (Value.tuple (List.toArray [(Value.pointer x11), (Value.bool x12)])) ∧
 VIf (!x12) (
 VRet h10 (Value.bool true) post) (
 ∃ x13 : SV, H.rd h10 (Addr.add (Addr.mk r1 0 none) 0) (Value.slice x13.a x13.len x13.cap) ∧
 ∃ x14 : SV, H.rd h10 (Addr.add (Addr.mk r1 0 none) 1) (Value.slice x14.a x14.len x14.cap) ∧
 ∃ x15 : SV, H.rd h10 (Addr.add (Addr.mk r1 0 none) 2) (Value.slice x15.a x15.len x15.cap) ∧
 SemCall Go.Proofs.Tryz.prog 13 (List.toArray [(Value.pointer x11)]) h10 fun v16 h17 => OwnExt h10 h17 ∧
 ∃ x18 : ByteArray, v16 = (Value.string x18) ∧
 SemCall Go.Proofs.Tryz.prog 14 (List.toArray [(Value.agg (List.toArray [(Value.slice x13.a x13.len x13.cap), (Value.slice x14.a x14.len x14.cap), (Value.slice x15.a x15.len x15.cap)])), (Value.string x18)]) h17 fun v19 h20 =>
 ∃ x21 : Option Addr, ∃ x22 : Int, ∃ x23 : Option (TypeId × Value), v19 = (Value.tuple (List.toArray [(Value.pointer x21), (Value.int .i64 x22), (errV x23)])) ∧
 ∃ R24 : Bool → H → Prop, (
 isIfaceV (errV x23) = true ∧
 VIf (!(isNilV (errV x23))) (
 (∃ h25, Gh h20 h25 ∧ R24 true h25)) (
 SemCall Go.Proofs.Tryz.prog 18 (List.toArray [(Value.pointer x21)]) h20 fun v26 h27 =>
 ∃ x28 : SV, ∃ x29 : SV, ∃ x30 : SV, v26 = (Value.agg (List.toArray [(Value.slice x28.a x28.len x28.cap), (Value.slice x29.a x29.len x29.cap), (Value.slice x30.a x30.len x30.cap)])) ∧
 SemCall Go.Proofs.Tryz.prog 18 (List.toArray [(Value.pointer x11)]) h27 fun v31 h32 =>
 ∃ x33 : SV, ∃ x34 : SV, ∃ x35 : SV, v31 = (Value.agg (List.toArray [(Value.slice x33.a x33.len x33.cap), (Value.slice x34.a x34.len x34.cap), (Value.slice x35.a x35.len x35.cap)])) ∧
 SemCall Go.Proofs.Tryz.prog 17 (List.toArray [(Value.agg (List.toArray [(Value.slice x28.a x28.len x28.cap), (Value.slice x29.a x29.len x29.cap), (Value.slice x30.a x30.len x30.cap)])), (Value.agg (List.toArray [(Value.slice x33.a x33.len x33.cap), (Value.slice x34.a x34.len x34.cap), (Value.slice x35.a x35.len x35.cap)]))]) h32 fun v36 h37 =>
 ∃ x38 : Bool, v36 = (Value.bool x38) ∧
 VIf (!x38) (
 (∃ h39, Gh h37 h39 ∧ R24 true h39)) (
 SemCall Go.Proofs.Tryz.prog 13 (List.toArray [(Value.pointer x21)]) h37 fun v40 h41 =>
 ∃ x42 : ByteArray, v40 = (Value.string x42) ∧
 SemCall Go.Proofs.Tryz.prog 13 (List.toArray [(Value.pointer x11)]) h41 fun v43 h44 =>
 ∃ x45 : ByteArray, v43 = (Value.string x45) ∧
 (∃ h46, Gh h44 h46 ∧ R24 (!(ByteArray.toList x42 == ByteArray.toList x45)) h46)))) ∧
 ∀ (_ : F) (x47 : Bool) (h48 : H), R24 x47 h48 →
 f5_J1 p2_t p3_want post x11 x21 x47 h48))

def f5_hint : Hint := (.node .leaf (.node .leaf (.node .leaf (.node .leaf (.node .leaf (.node .lex (.node (.node (.join [(52, .bool)] .leaf) .leaf) (.node .leaf (.node .leaf (.node (.join [(8, .bool)] .lex) .leaf))))))))))

theorem f5_eq (p0_0_b : SV) (p0_1_b : SV) (p0_2_b : SV) (p1_steps : SV) (p2_t : Int) (p3_want : SV) (h0 : H) (post : Value → H → Prop) : exec Tryz.prog (bodyOf Tryz.f5) f5_hint (retQ Tryz.prog Tryz.f5 post) (F0 [(Value.agg (List.toArray [(Value.slice p0_0_b.a p0_0_b.len p0_0_b.cap), (Value.slice p0_1_b.a p0_1_b.len p0_1_b.cap), (Value.slice p0_2_b.a p0_2_b.len p0_2_b.cap)])), (Value.slice p1_steps.a p1_steps.len p1_steps.cap), (Value.int .i64 p2_t), (Value.slice p3_want.a p3_want.len p3_want.cap)]) h0 = f5_sem p0_0_b p0_1_b p0_2_b p1_steps p2_t p3_want h0 post := by kernel_rfl

set_option maxRecDepth 20000 in
theorem f5_call (p0_0_b : SV) (p0_1_b : SV) (p0_2_b : SV) (p1_steps : SV) (p2_t : Int) (p3_want : SV) (h0 : H) (post : Value → H → Prop) (hx : f5_sem p0_0_b p0_1_b p0_2_b p1_steps p2_t p3_want h0 post) : SemCall Tryz.prog 5 (List.toArray [(Value.agg (List.toArray [(Value.slice p0_0_b.a p0_0_b.len p0_0_b.cap), (Value.slice p0_1_b.a p0_1_b.len p0_1_b.cap), (Value.slice p0_2_b.a p0_2_b.len p0_2_b.cap)])), (Value.slice p1_steps.a p1_steps.len p1_steps.cap), (Value.int .i64 p2_t), (Value.slice p3_want.a p3_want.len p3_want.cap)]) h0 post :=
 sem_of_exec (g := f5_hint) mixed Tryz.func5 (bodyOf_eq (by kernel_rfl)) (by kernel_rfl) ((f5_eq p0_0_b p0_1_b p0_2_b p1_steps p2_t p3_want h0 post).mpr hx)

end Go.Proofs.YtnppmcgmmdcpiaaGreatDoor
