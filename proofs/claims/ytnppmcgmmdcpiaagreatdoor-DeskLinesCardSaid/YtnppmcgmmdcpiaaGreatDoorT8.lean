
import Derived.Test.YtnppmcgmmdcpiaaGreatDoorKF
import Derived.Test.YtnppmcgmmdcpiaaGreatDoorEngG
import Derived.Test.YtnppmcgmmdcpiaaGreatDoorRows
import Derived.Test.YtnppmcgmmdcpiaaGreatDoorT
namespace Go.Proofs.YtnppmcgmmdcpiaaGreatDoor
open Go.Eng
def p20_sem (p0_text : ByteArray) (N : ByteArray → Addr → H → Prop) (h0 : H) (post : Value → H → Prop) : Prop :=
 VIf (decide (((ByteArray.size p0_text : Nat) : Int) > (3000 : Int))) (
 VRet h0 (Value.string (ByteArray.mk (List.toArray [(116 : UInt8), (111 : UInt8), (111 : UInt8), (32 : UInt8), (108 : UInt8), (111 : UInt8), (110 : UInt8), (103 : UInt8), (10 : UInt8)]))) post) (
 SemCall Go.Proofs.Tryz.prog 40 (List.toArray []) h0 fun v1 h2 =>
 ∃ x3 : SV, ∃ x4 : SV, ∃ x5 : SV, v1 = (Value.agg (List.toArray [(Value.slice x3.a x3.len x3.cap), (Value.slice x4.a x4.len x4.cap), (Value.slice x5.a x5.len x5.cap)])) ∧
 SemCall Go.Proofs.Tryz.prog 24 (List.toArray [(Value.agg (List.toArray [(Value.slice x3.a x3.len x3.cap), (Value.slice x4.a x4.len x4.cap), (Value.slice x5.a x5.len x5.cap)]))]) h2 fun v6 h7 =>
 ∃ x8 : Option Addr, ∃ x9 : Option (TypeId × Value), v6 = (Value.tuple (List.toArray [(Value.pointer x8), (errV x9)])) ∧
 isIfaceV (errV x9) = true ∧
 VIf (!(isNilV (errV x9))) (
 SemCall Go.Proofs.Tryz.prog 41 (List.toArray [(errV x9)]) h7 fun v10 h11 =>
 ∃ x12 : ByteArray, v10 = (Value.string x12) ∧
 ((ByteArray.size x12 + ByteArray.size (ByteArray.mk (List.toArray [(10 : UInt8)])) : Nat) : Int) ≤ 9223372036854775807 ∧
 VRet h11 (Value.string (x12 ++ (ByteArray.mk (List.toArray [(10 : UInt8)])))) post) (
 H.new h7 [(Value.pointer none)] fun r13 h14 =>
 ([(Value.pointer x8)]).length = 1 ∧ (Program.underlying Go.Proofs.Tryz.prog 77).isSome = true ∧
 H.wr h14 (Addr.mk r13 0 none) ([(Value.pointer x8)]) fun h15 =>
 (∃ h16, Gh h15 h16 ∧ N p0_text (Addr.mk r13 0 none) h16)))
def p20_hint : Hint := .leaf
theorem p20_eq (p0_text : ByteArray) (N : ByteArray → Addr → H → Prop) (h0 : H) (post : Value → H → Prop) : exec Tryz.prog (preOf 5 (bodyOf Tryz.f20)) p20_hint (preQ (appS [(0, .str), (5, .addr)] N) (retQ Tryz.prog Tryz.f20 post)) (F0 [(Value.string p0_text)]) h0 = p20_sem p0_text N h0 post := by kernel_rfl
set_option maxRecDepth 20000 in
theorem p20_call (p0_text : ByteArray) (N : ByteArray → Addr → H → Prop) (h0 : H) (post : Value → H → Prop) (hx : p20_sem p0_text N h0 post)
 (hR : ∀ w f h a w2, Holds w h0 → Inv Tryz.f20.ntmps w h0 f h a w2 → appS [(0, .str), (5, .addr)] N f h → (restOf 5 (bodyOf Tryz.f20)).wpIn Fence.wide 0 Tryz.prog (bodyPostM Fence.wide 0 Tryz.prog Tryz.f20 (semEnd h0 w post)) a w2) : SemCall Tryz.prog 20 (List.toArray [(Value.string p0_text)]) h0 post :=
 sem_of_preM (g := p20_hint) 5 mixed Tryz.func20 (bodyOf_eq (by kernel_rfl)) (by kernel_rfl) (by kernel_rfl) ((p20_eq p0_text N h0 post).mpr hx) hR
def r20_sem (g : F) (x2_p : ByteArray) (h0 : H) (post : Value → H → Prop) : Prop :=
 VRet h0 (Value.string x2_p) post
def r20_hint : Hint := .leaf
theorem r20_eq (g : F) (x2_p : ByteArray) (h0 : H) (post : Value → H → Prop) : exec Tryz.prog (restOf 8 (bodyOf Tryz.f20)) r20_hint (retQ Tryz.prog Tryz.f20 post) (upd g 2 (Value.string x2_p)) h0 = r20_sem g x2_p h0 post := by kernel_rfl
end Go.Proofs.YtnppmcgmmdcpiaaGreatDoor
