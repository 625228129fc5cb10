import Derived.Test.YtnppmcgmmdcpiaaGreatDoorKE
import Derived.Test.YtnppmcgmmdcpiaaGreatDoorEngG
import Derived.Test.YtnppmcgmmdcpiaaGreatDoorRows
import Derived.Test.YtnppmcgmmdcpiaaGreatDoorT
namespace Go.Proofs.YtnppmcgmmdcpiaaGreatDoor
open Go.Eng
/- (*latchgarth/book.Book).line -/
def p30_L1 (post : Value → H → Prop) (x13 : SV) (R14 : SV → H → Prop) (I15 : Nat → SV → Int → H → Prop) (n16 : Nat) (x19_l : SV) (x20 : Int) (h21 : H) : Prop :=
 VIf (decide (x20 < (((x13.len - ((1 : Int)).toNat) : Nat) : Int))) (
 ∃ b22 : Addr, (if x13.cap = ((1 : Int)).toNat then x13.a else Option.map (fun z => Addr.add z (((1 : Int)).toNat * 1)) x13.a) = some b22 ∧ 0 ≤ x20 ∧ x20 < (((x13.len - ((1 : Int)).toNat) : Nat) : Int) ∧
 ∃ x23 : ByteArray, H.rd h21 (Addr.add (Addr.add b22 ((x20).toNat * 1)) 0) (Value.string x23) ∧
 SemCall Go.Proofs.Tryz.prog 54 (List.toArray [(Value.string x23)]) h21 fun v24 h25 =>
 ∃ x26 : Int, ∃ x27 : Bool, v24 = (Value.tuple (List.toArray [(Value.int .i64 x26), (Value.bool x27)])) ∧
 VIf (!x27) (
 VRet h25 (Value.iface 57 (Value.int .i64 (2 : Int))) post) (
 H.new h25 [(Value.int .i64 x26)] fun r28 h29 =>
 appVC Go.Proofs.Tryz.prog 22 (Value.slice x19_l.a x19_l.len x19_l.cap) (Value.slice (some (Addr.mk r28 0 none)) 1 1) h29 fun x30 h31 =>
 In64 (x20 + (1 : Int)) ∧
 ∃ m17, m17 < n16 ∧ (∃ h32, Gh h31 h32 ∧ I15 m17 x30 (x20 + (1 : Int)) h32))) (
 (∃ h33, Gh h21 h33 ∧ R14 x19_l h33))

def p30_sem (p0_b : Option Addr) (p1_s : ByteArray) (N : Option Addr → SV → SV → H → Prop) (h0 : H) (post : Value → H → Prop) : Prop :=
 SemCall Go.Proofs.Tryz.prog 53 (List.toArray [(Value.string p1_s), (Value.int .u8 (32 : Int))]) h0 fun v1 h2 =>
 ∃ x3 : Int, v1 = (Value.int .i64 x3) ∧
 VIf (decide (x3 < (0 : Int))) (
 VRet h2 (Value.iface 57 (Value.int .i64 (2 : Int))) post) (
 In64 (x3 + (1 : Int)) ∧
 0 ≤ (x3 + (1 : Int)) ∧ (x3 + (1 : Int)) ≤ ((ByteArray.size p1_s : Nat) : Int) ∧
 SemCall Go.Proofs.Tryz.prog 54 (List.toArray [(Value.string (ByteArray.extract p1_s ((x3 + (1 : Int))).toNat (ByteArray.size p1_s)))]) h2 fun v4 h5 =>
 ∃ x6 : Int, ∃ x7 : Bool, v4 = (Value.tuple (List.toArray [(Value.int .i64 x6), (Value.bool x7)])) ∧
 VIf (!x7) (
 VRet h5 (Value.iface 57 (Value.int .i64 (2 : Int))) post) (
 0 ≤ x3 ∧ x3 ≤ ((ByteArray.size p1_s : Nat) : Int) ∧
 SemCall Go.Proofs.Tryz.prog 55 (List.toArray [(Value.string (ByteArray.extract p1_s 0 (x3).toNat))]) h5 fun v8 h9 =>
 ∃ x10 : Int, v8 = (Value.int .i64 x10) ∧
 VIf (x6 != x10) (
 VRet h9 (Value.iface 57 (Value.int .i64 (6 : Int))) post) (
 0 ≤ x3 ∧ x3 ≤ ((ByteArray.size p1_s : Nat) : Int) ∧
 SemCall Go.Proofs.Tryz.prog 56 (List.toArray [(Value.string (ByteArray.extract p1_s 0 (x3).toNat)), (Value.string (ByteArray.mk (List.toArray [(32 : UInt8)])))]) h9 fun v11 h12 =>
 ∃ x13 : SV, v11 = (Value.slice x13.a x13.len x13.cap) ∧
 0 ≤ (1 : Int) ∧ (1 : Int) ≤ ((x13.len : Nat) : Int) ∧
 ∃ R14 : SV → H → Prop, (
 ∃ I15 : Nat → SV → Int → H → Prop, (∃ n16, (∃ h18, Gh h12 h18 ∧ I15 n16 (SV.mk none 0 0) (0 : Int) h18)) ∧
 ∀ (n16 : Nat) (_ : F) (x19_l : SV) (x20 : Int) (h21 : H), I15 n16 x19_l x20 h21 →
 p30_L1 post x13 R14 I15 n16 x19_l x20 h21) ∧
 ∀ (_ : F) (x34_l : SV) (h35 : H), R14 x34_l h35 →
 (∃ h36, Gh h35 h36 ∧ N p0_b x13 x34_l h36))))

def p30_hint : Hint := (.node .leaf (.node .leaf (.node .leaf (.node .leaf (.node .leaf (.node .leaf (.node .leaf (.node .leaf (.node (.node .leaf (.join [(9, .sl)] (.node (.loop [(9, .sl), (46, .int)] .leaf) .leaf))) .leaf)))))))))

theorem p30_eq (p0_b : Option Addr) (p1_s : ByteArray) (N : Option Addr → SV → SV → H → Prop) (h0 : H) (post : Value → H → Prop) : exec Tryz.prog (preOf 9 (bodyOf Tryz.f30)) p30_hint (preQ (appS [(0, .ptr), (8, .sl), (9, .sl)] N) (retQ Tryz.prog Tryz.f30 post)) (F0 [(Value.pointer p0_b), (Value.string p1_s)]) h0 = p30_sem p0_b p1_s N h0 post := by kernel_rfl

set_option maxRecDepth 20000 in
theorem p30_call (p0_b : Option Addr) (p1_s : ByteArray) (N : Option Addr → SV → SV → H → Prop) (h0 : H) (post : Value → H → Prop) (hx : p30_sem p0_b p1_s N h0 post)
 (hR : ∀ w f h a w2, Holds w h0 → Inv Tryz.f30.ntmps w h0 f h a w2 → appS [(0, .ptr), (8, .sl), (9, .sl)] N f h → (restOf 9 (bodyOf Tryz.f30)).wp Tryz.prog (bodyPost Tryz.prog Tryz.f30 (semEnd h0 w post)) a w2) : SemCall Tryz.prog 30 (List.toArray [(Value.pointer p0_b), (Value.string p1_s)]) h0 post :=
 sem_of_pre (g := p30_hint) 9 mixed Tryz.func30 (bodyOf_eq (by kernel_rfl)) (by kernel_rfl) (by kernel_rfl) ((p30_eq p0_b p1_s N h0 post).mpr hx) hR

/- (*latchgarth/book.Book).line -/
def r30a_sem (g : F) (x0_b : Addr) (x9_l : SV) (h0 : H) (post : Value → H → Prop) : Prop :=
 ∃ R1 : Bool → H → Prop, (
 VIf (!true) (
 (∃ h2, Gh h0 h2 ∧ R1 true h2)) (
 ∃ a3 : Addr, (some x0_b) = some a3 ∧
 ∃ x4 : SV, H.rd h0 (Addr.add (Addr.add (Addr.add a3 0) 0) 0) (Value.slice x4.a x4.len x4.cap) ∧
 In64 ((1 : Int) + ((x4.len : Nat) : Int)) ∧
 (∃ h5, Gh h0 h5 ∧ R1 (((x9_l.len : Nat) : Int) != ((1 : Int) + ((x4.len : Nat) : Int))) h5))) ∧
 ∀ (_ : F) (x6 : Bool) (h7 : H), R1 x6 h7 →
 VIf x6 (
 VRet h7 (Value.iface 57 (Value.int .i64 (2 : Int))) post) (
 ∃ b8 : Addr, x9_l.a = some b8 ∧ 0 ≤ (0 : Int) ∧ (0 : Int) < ((x9_l.len : Nat) : Int) ∧
 ∃ x9 : Int, H.rd h7 (Addr.add (Addr.add b8 (((0 : Int)).toNat * 1)) 0) (Value.int .i64 x9) ∧
 0 ≤ (1 : Int) ∧ (1 : Int) ≤ ((x9_l.len : Nat) : Int) ∧
 SemCall Go.Proofs.Tryz.prog 19 (List.toArray [(Value.pointer (some x0_b)), (Value.int .i64 x9), (Value.slice (if x9_l.cap = ((1 : Int)).toNat then x9_l.a else Option.map (fun z => Addr.add z (((1 : Int)).toNat * 1)) x9_l.a) (x9_l.len - ((1 : Int)).toNat) (x9_l.cap - ((1 : Int)).toNat))]) h7 fun v10 h11 =>
 ∃ x12 : Option (TypeId × Value), v10 = (errV x12) ∧
 VRet h11 (errV x12) post)

def r30a_hint : Hint := (.node (.node (.join [(90, .bool)] .leaf) .leaf) (.node (.tail 6) .leaf))

theorem r30a_eq (g : F) (x0_b : Addr) (x9_l : SV) (h0 : H) (post : Value → H → Prop) : exec Tryz.prog (restOf 11 (bodyOf Tryz.f30)) r30a_hint (retQ Tryz.prog Tryz.f30 post) (upd (upd (upd (upd g 0 (Value.pointer (some x0_b))) 7 (Value.bool true)) 9 (Value.slice x9_l.a x9_l.len x9_l.cap)) 15 (Value.func (.func 19) #[(Value.pointer (some x0_b))] #[])) h0 = r30a_sem g x0_b x9_l h0 post := by kernel_rfl

set_option maxRecDepth 20000 in
theorem r30a_end (g : F) (x0_b : Addr) (x9_l : SV) (h0 : H) (post : Value → H → Prop) {w w2 : World} {h : H} {a : Act} (hi : Inv Tryz.f30.ntmps w h (upd (upd (upd (upd g 0 (Value.pointer (some x0_b))) 7 (Value.bool true)) 9 (Value.slice x9_l.a x9_l.len x9_l.cap)) 15 (Value.func (.func 19) #[(Value.pointer (some x0_b))] #[])) h0 a w2) (hx : r30a_sem g x0_b x9_l h0 post) : (restOf 11 (bodyOf Tryz.f30)).wp Tryz.prog (bodyPost Tryz.prog Tryz.f30 (semEnd h w post)) a w2 :=
 exec_end (g := r30a_hint) mixed (fun d hd => Nat.le_of_ble_eq_true (List.all_eq_true.1 (show ((writes (restOf 11 (bodyOf Tryz.f30))).all fun d => Nat.ble (d + 1) Tryz.f30.ntmps) = true by kernel_rfl) d hd)) hi ((r30a_eq g x0_b x9_l h0 post).mpr hx)

/- (*latchgarth/book.Book).line -/
def r30b_sem (g : F) (x0_b : Addr) (x9_l : SV) (h0 : H) (post : Value → H → Prop) : Prop :=
 ∃ R1 : Bool → H → Prop, (
 VIf (!true) (
 (∃ h2, Gh h0 h2 ∧ R1 true h2)) (
 ∃ a3 : Addr, (some x0_b) = some a3 ∧
 ∃ x4 : SV, H.rd h0 (Addr.add (Addr.add (Addr.add a3 0) 0) 0) (Value.slice x4.a x4.len x4.cap) ∧
 In64 ((1 : Int) + ((x4.len : Nat) : Int)) ∧
 (∃ h5, Gh h0 h5 ∧ R1 (((x9_l.len : Nat) : Int) != ((1 : Int) + ((x4.len : Nat) : Int))) h5))) ∧
 ∀ (_ : F) (x6 : Bool) (h7 : H), R1 x6 h7 →
 VIf x6 (
 VRet h7 (Value.iface 57 (Value.int .i64 (2 : Int))) post) (
 ∃ b8 : Addr, x9_l.a = some b8 ∧ 0 ≤ (0 : Int) ∧ (0 : Int) < ((x9_l.len : Nat) : Int) ∧
 ∃ x9 : Int, H.rd h7 (Addr.add (Addr.add b8 (((0 : Int)).toNat * 1)) 0) (Value.int .i64 x9) ∧
 0 ≤ (1 : Int) ∧ (1 : Int) ≤ ((x9_l.len : Nat) : Int) ∧
 SemCall Go.Proofs.Tryz.prog 26 (List.toArray [(Value.pointer (some x0_b)), (Value.int .i64 x9), (Value.slice (if x9_l.cap = ((1 : Int)).toNat then x9_l.a else Option.map (fun z => Addr.add z (((1 : Int)).toNat * 1)) x9_l.a) (x9_l.len - ((1 : Int)).toNat) (x9_l.cap - ((1 : Int)).toNat))]) h7 fun v10 h11 =>
 ∃ x12 : Option (TypeId × Value), v10 = (errV x12) ∧
 VRet h11 (errV x12) post)

def r30b_hint : Hint := (.node (.node (.join [(90, .bool)] .leaf) .leaf) (.node (.tail 6) .leaf))

theorem r30b_eq (g : F) (x0_b : Addr) (x9_l : SV) (h0 : H) (post : Value → H → Prop) : exec Tryz.prog (restOf 11 (bodyOf Tryz.f30)) r30b_hint (retQ Tryz.prog Tryz.f30 post) (upd (upd (upd (upd g 0 (Value.pointer (some x0_b))) 7 (Value.bool true)) 9 (Value.slice x9_l.a x9_l.len x9_l.cap)) 15 (Value.func (.func 26) #[(Value.pointer (some x0_b))] #[])) h0 = r30b_sem g x0_b x9_l h0 post := by kernel_rfl

set_option maxRecDepth 20000 in
theorem r30b_end (g : F) (x0_b : Addr) (x9_l : SV) (h0 : H) (post : Value → H → Prop) {w w2 : World} {h : H} {a : Act} (hi : Inv Tryz.f30.ntmps w h (upd (upd (upd (upd g 0 (Value.pointer (some x0_b))) 7 (Value.bool true)) 9 (Value.slice x9_l.a x9_l.len x9_l.cap)) 15 (Value.func (.func 26) #[(Value.pointer (some x0_b))] #[])) h0 a w2) (hx : r30b_sem g x0_b x9_l h0 post) : (restOf 11 (bodyOf Tryz.f30)).wp Tryz.prog (bodyPost Tryz.prog Tryz.f30 (semEnd h w post)) a w2 :=
 exec_end (g := r30b_hint) mixed (fun d hd => Nat.le_of_ble_eq_true (List.all_eq_true.1 (show ((writes (restOf 11 (bodyOf Tryz.f30))).all fun d => Nat.ble (d + 1) Tryz.f30.ntmps) = true by kernel_rfl) d hd)) hi ((r30b_eq g x0_b x9_l h0 post).mpr hx)

/- (*latchgarth/book.Book).line -/
def r30n_sem (g : F) (x0_b : Addr) (x9_l : SV) (h0 : H) (post : Value → H → Prop) : Prop :=
 ∃ R1 : Bool → H → Prop, (
 VIf (!false) (
 (∃ h2, Gh h0 h2 ∧ R1 true h2)) (
 ∃ a3 : Addr, (some x0_b) = some a3 ∧
 ∃ x4 : SV, H.rd h0 (Addr.add (Addr.add (Addr.add a3 0) 0) 0) (Value.slice x4.a x4.len x4.cap) ∧
 In64 ((1 : Int) + ((x4.len : Nat) : Int)) ∧
 (∃ h5, Gh h0 h5 ∧ R1 (((x9_l.len : Nat) : Int) != ((1 : Int) + ((x4.len : Nat) : Int))) h5))) ∧
 ∀ (_ : F) (x6 : Bool) (h7 : H), R1 x6 h7 →
 VIf x6 (
 VRet h7 (Value.iface 57 (Value.int .i64 (2 : Int))) post) (
 ∃ b8 : Addr, x9_l.a = some b8 ∧ 0 ≤ (0 : Int) ∧ (0 : Int) < ((x9_l.len : Nat) : Int) ∧
 ∃ x9 : Int, H.rd h7 (Addr.add (Addr.add b8 (((0 : Int)).toNat * 1)) 0) (Value.int .i64 x9) ∧
 0 ≤ (1 : Int) ∧ (1 : Int) ≤ ((x9_l.len : Nat) : Int) ∧
 False)

def r30n_hint : Hint := (.node (.node (.join [(90, .bool)] .leaf) .leaf) (.node (.tail 6) .leaf))

theorem r30n_eq (g : F) (x0_b : Addr) (x9_l : SV) (h0 : H) (post : Value → H → Prop) : exec Tryz.prog (restOf 11 (bodyOf Tryz.f30)) r30n_hint (retQ Tryz.prog Tryz.f30 post) (upd (upd (upd (upd g 0 (Value.pointer (some x0_b))) 7 (Value.bool false)) 9 (Value.slice x9_l.a x9_l.len x9_l.cap)) 15 Value.nilFunc) h0 = r30n_sem g x0_b x9_l h0 post := by kernel_rfl

set_option maxRecDepth 20000 in
theorem r30n_end (g : F) (x0_b : Addr) (x9_l : SV) (h0 : H) (post : Value → H → Prop) {w w2 : World} {h : H} {a : Act} (hi : Inv Tryz.f30.ntmps w h (upd (upd (upd (upd g 0 (Value.pointer (some x0_b))) 7 (Value.bool false)) 9 (Value.slice x9_l.a x9_l.len x9_l.cap)) 15 Value.nilFunc) h0 a w2) (hx : r30n_sem g x0_b x9_l h0 post) : (restOf 11 (bodyOf Tryz.f30)).wp Tryz.prog (bodyPost Tryz.prog Tryz.f30 (semEnd h w post)) a w2 :=
 exec_end (g := r30n_hint) mixed (fun d hd => Nat.le_of_ble_eq_true (List.all_eq_true.1 (show ((writes (restOf 11 (bodyOf Tryz.f30))).all fun d => Nat.ble (d + 1) Tryz.f30.ntmps) = true by kernel_rfl) d hd)) hi ((r30n_eq g x0_b x9_l h0 post).mpr hx)

end Go.Proofs.YtnppmcgmmdcpiaaGreatDoor
