import Derived.Test.YtnppmcgmmdcpiaaGreatDoorKF
import Derived.Test.YtnppmcgmmdcpiaaGreatDoorEngG
import Derived.Test.YtnppmcgmmdcpiaaGreatDoorRows
import Derived.Test.YtnppmcgmmdcpiaaGreatDoorT
namespace Go.Proofs.YtnppmcgmmdcpiaaGreatDoor
open Go.Eng
/- latchgarth/book.Open -/
def p14_sem (p0_0_first : SV) (p0_1_first : SV) (p0_2_first : SV) (p1_text : ByteArray) (N : ByteArray → Addr → Addr → Addr → Addr → H → Prop) (h0 : H) (post : Value → H → Prop) : Prop :=
 H.new h0 [(Value.slice p0_0_first.a p0_0_first.len p0_0_first.cap), (Value.slice p0_1_first.a p0_1_first.len p0_1_first.cap), (Value.slice p0_2_first.a p0_2_first.len p0_2_first.cap)] fun r1 h2 =>
 H.new h2 [(Value.pointer none)] fun r3 h4 =>
 H.new h4 [(Value.int .i64 0)] fun r5 h6 =>
 H.new h6 [Value.nilIface] fun r7 h8 =>
 ∃ x9 : SV, H.rd h8 (Addr.add (Addr.mk r1 0 none) 0) (Value.slice x9.a x9.len x9.cap) ∧
 ∃ x10 : SV, H.rd h8 (Addr.add (Addr.mk r1 0 none) 1) (Value.slice x10.a x10.len x10.cap) ∧
 ∃ x11 : SV, H.rd h8 (Addr.add (Addr.mk r1 0 none) 2) (Value.slice x11.a x11.len x11.cap) ∧
 SemCall Go.Proofs.Tryz.prog 24 (List.toArray [(Value.agg (List.toArray [(Value.slice x9.a x9.len x9.cap), (Value.slice x10.a x10.len x10.cap), (Value.slice x11.a x11.len x11.cap)]))]) h8 fun v12 h13 =>
 ∃ x14 : Option Addr, ∃ x15 : Option (TypeId × Value), v12 = (Value.tuple (List.toArray [(Value.pointer x14), (errV x15)])) ∧
 H.new h13 [(Value.pointer none)] fun r16 h17 =>
 H.wr h17 (Addr.mk r16 0 none) ([(Value.pointer x14)]) fun h18 =>
 isIfaceV (errV x15) = true ∧
 VIf (!(isNilV (errV x15))) (
 H.wr h18 (Addr.mk r3 0 none) ([(Value.pointer none)]) fun h19 =>
 H.wr h19 (Addr.mk r5 0 none) ([(Value.int .i64 0)]) fun h20 =>
 H.wr h20 (Addr.mk r7 0 none) ([(errV x15)]) fun h21 =>
 ∃ x22 : Option Addr, H.rd h21 (Addr.add (Addr.mk r3 0 none) 0) (Value.pointer x22) ∧
 ∃ x23 : Int, H.rd h21 (Addr.add (Addr.mk r5 0 none) 0) (Value.int .i64 x23) ∧
 ∃ x24 : Option (TypeId × Value), H.rd h21 (Addr.add (Addr.mk r7 0 none) 0) (errV x24) ∧
 VRet h21 (Value.tuple (List.toArray [(Value.pointer x22), (Value.int .i64 x23), (errV x24)])) post) (
 VIf (decide (((ByteArray.size p1_text : Nat) : Int) > (2000 : Int))) (
 H.wr h18 (Addr.mk r3 0 none) ([(Value.pointer none)]) fun h25 =>
 H.wr h25 (Addr.mk r5 0 none) ([(Value.int .i64 0)]) fun h26 =>
 H.wr h26 (Addr.mk r7 0 none) ([(Value.iface 57 (Value.int .i64 (4 : Int)))]) fun h27 =>
 ∃ x28 : Option Addr, H.rd h27 (Addr.add (Addr.mk r3 0 none) 0) (Value.pointer x28) ∧
 ∃ x29 : Int, H.rd h27 (Addr.add (Addr.mk r5 0 none) 0) (Value.int .i64 x29) ∧
 ∃ x30 : Option (TypeId × Value), H.rd h27 (Addr.add (Addr.mk r7 0 none) 0) (errV x30) ∧
 VRet h27 (Value.tuple (List.toArray [(Value.pointer x28), (Value.int .i64 x29), (errV x30)])) post) (
 (∃ h31, Gh h18 h31 ∧ N p1_text (Addr.mk r3 0 none) (Addr.mk r5 0 none) (Addr.mk r7 0 none) (Addr.mk r16 0 none) h31)))

def p14_hint : Hint := .leaf

theorem p14_eq (p0_0_first : SV) (p0_1_first : SV) (p0_2_first : SV) (p1_text : ByteArray) (N : ByteArray → Addr → Addr → Addr → Addr → H → Prop) (h0 : H) (post : Value → H → Prop) : exec Tryz.prog (preOf 4 (bodyOf Tryz.f14)) p14_hint (preQ (appS [(1, .str), (4, .addr), (5, .addr), (6, .addr), (7, .addr)] N) (retQ Tryz.prog Tryz.f14 post)) (F0 [(Value.agg (List.toArray [(Value.slice p0_0_first.a p0_0_first.len p0_0_first.cap), (Value.slice p0_1_first.a p0_1_first.len p0_1_first.cap), (Value.slice p0_2_first.a p0_2_first.len p0_2_first.cap)])), (Value.string p1_text)]) h0 = p14_sem p0_0_first p0_1_first p0_2_first p1_text N h0 post := by kernel_rfl

set_option maxRecDepth 20000 in
theorem p14_call (p0_0_first : SV) (p0_1_first : SV) (p0_2_first : SV) (p1_text : ByteArray) (N : ByteArray → Addr → Addr → Addr → Addr → H → Prop) (h0 : H) (post : Value → H → Prop) (hx : p14_sem p0_0_first p0_1_first p0_2_first p1_text N h0 post)
 (hR : ∀ w f h a w2, Holds w h0 → Inv Tryz.f14.ntmps w h0 f h a w2 → appS [(1, .str), (4, .addr), (5, .addr), (6, .addr), (7, .addr)] N f h → (restOf 4 (bodyOf Tryz.f14)).wpIn Fence.wide 0 Tryz.prog (bodyPostM Fence.wide 0 Tryz.prog Tryz.f14 (semEnd h0 w post)) a w2) : SemCall Tryz.prog 14 (List.toArray [(Value.agg (List.toArray [(Value.slice p0_0_first.a p0_0_first.len p0_0_first.cap), (Value.slice p0_1_first.a p0_1_first.len p0_1_first.cap), (Value.slice p0_2_first.a p0_2_first.len p0_2_first.cap)])), (Value.string p1_text)]) h0 post :=
 sem_of_preM (g := p14_hint) 4 mixed Tryz.func14 (bodyOf_eq (by kernel_rfl)) (by kernel_rfl) (by kernel_rfl) ((p14_eq p0_0_first p0_1_first p0_2_first p1_text N h0 post).mpr hx) hR

/- latchgarth/book.Open -/
def r14_sem (g : F) (x4_p : Addr) (x5_p : Addr) (x6_p : Addr) (h0 : H) (post : Value → H → Prop) : Prop :=
 ∃ x1 : Option Addr, H.rd h0 (Addr.add x4_p 0) (Value.pointer x1) ∧
 ∃ x2 : Int, H.rd h0 (Addr.add x5_p 0) (Value.int .i64 x2) ∧
 ∃ x3 : Option (TypeId × Value), H.rd h0 (Addr.add x6_p 0) (errV x3) ∧
 VRet h0 (Value.tuple (List.toArray [(Value.pointer x1), (Value.int .i64 x2), (errV x3)])) post

def r14_hint : Hint := .leaf

theorem r14_eq (g : F) (x4_p : Addr) (x5_p : Addr) (x6_p : Addr) (h0 : H) (post : Value → H → Prop) : exec Tryz.prog (restOf 6 (bodyOf Tryz.f14)) r14_hint (retQ Tryz.prog Tryz.f14 post) (upd (upd (upd g 4 (Value.pointer (some x4_p))) 5 (Value.pointer (some x5_p))) 6 (Value.pointer (some x6_p))) h0 = r14_sem g x4_p x5_p x6_p h0 post := by kernel_rfl

set_option maxRecDepth 20000 in
theorem r14_end (g : F) (x4_p : Addr) (x5_p : Addr) (x6_p : Addr) (h0 : H) (post : Value → H → Prop) {w w2 : World} {h : H} {a : Act} (hi : Inv Tryz.f14.ntmps w h (upd (upd (upd g 4 (Value.pointer (some x4_p))) 5 (Value.pointer (some x5_p))) 6 (Value.pointer (some x6_p))) h0 a w2) (hx : r14_sem g x4_p x5_p x6_p h0 post) : (restOf 6 (bodyOf Tryz.f14)).wp Tryz.prog (bodyPost Tryz.prog Tryz.f14 (semEnd h w post)) a w2 :=
 exec_end (g := r14_hint) mixed (fun d hd => Nat.le_of_ble_eq_true (List.all_eq_true.1 (show ((writes (restOf 6 (bodyOf Tryz.f14))).all fun d => Nat.ble (d + 1) Tryz.f14.ntmps) = true by kernel_rfl) d hd)) hi ((r14_eq g x4_p x5_p x6_p h0 post).mpr hx)

end Go.Proofs.YtnppmcgmmdcpiaaGreatDoor
