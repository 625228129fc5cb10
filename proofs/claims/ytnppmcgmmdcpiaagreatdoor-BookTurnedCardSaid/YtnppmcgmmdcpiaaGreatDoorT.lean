import Derived.Test.YtnppmcgmmdcpiaaGreatDoorEngG
import Derived.Test.YtnppmcgmmdcpiaaGreatDoorRows
namespace Go.Proofs.YtnppmcgmmdcpiaaGreatDoor
open Go.Eng
theorem mixed : Tryz.prog.follows .mixedOrders = true := by kernel_rfl
/- latchgarth/latchgarthlaw6.bookFact -/
def f11_sem (h0 : H) (post : Value → H → Prop) : Prop :=
 SemCall Go.Proofs.Tryz.prog 25 (List.toArray []) h0 fun v1 h2 =>
 ∃ x3 : SV, ∃ x4 : SV, ∃ x5 : SV, v1 = (Value.agg (List.toArray [(Value.slice x3.a x3.len x3.cap), (Value.slice x4.a x4.len x4.cap), (Value.slice x5.a x5.len x5.cap)])) ∧
 SemCall Go.Proofs.Tryz.prog 24 (List.toArray [(Value.agg (List.toArray [(Value.slice x3.a x3.len x3.cap), (Value.slice x4.a x4.len x4.cap), (Value.slice x5.a x5.len x5.cap)]))]) h2 fun v6 h7 =>
 ∃ x8 : Option Addr, ∃ x9 : Option (TypeId × Value), v6 = (Value.tuple (List.toArray [(Value.pointer x8), (errV x9)])) ∧
 ∃ R10 : Bool → H → Prop, (
 isIfaceV (errV x9) = true ∧
 VIf (!(isNilV (errV x9))) (
 (∃ h11, Gh h7 h11 ∧ R10 true h11)) (
 H.new h7 [(Value.int .i64 (2 : Int))] fun r12 h13 =>
 SemCall Go.Proofs.Tryz.prog 19 (List.toArray [(Value.pointer x8), (Value.int .i64 0), (Value.slice (some (Addr.mk r12 0 none)) 1 1)]) h13 fun v14 h15 =>
 ∃ x16 : Option (TypeId × Value), v14 = (errV x16) ∧
 isIfaceV (errV x16) = true ∧
 VIf (!(isNilV (errV x16))) (
 (∃ h17, Gh h15 h17 ∧ R10 true h17)) (
 H.new h15 [(Value.int .i64 (2 : Int))] fun r18 h19 =>
 SemCall Go.Proofs.Tryz.prog 19 (List.toArray [(Value.pointer x8), (Value.int .i64 (1 : Int)), (Value.slice (some (Addr.mk r18 0 none)) 1 1)]) h19 fun v20 h21 =>
 ∃ x22 : Option (TypeId × Value), v20 = (errV x22) ∧
 SemCall Go.Proofs.Tryz.prog 15 (List.toArray [(errV x22), (Value.int .i64 (7 : Int))]) h21 fun v23 h24 =>
 ∃ x25 : Bool, v23 = (Value.bool x25) ∧
 (∃ h26, Gh h24 h26 ∧ R10 (!x25) h26)))) ∧
 ∀ (_ : F) (x27 : Bool) (h28 : H), R10 x27 h28 →
 VIf x27 (
 VRet h28 (Value.bool false) post) (
 SemCall Go.Proofs.Tryz.prog 13 (List.toArray [(Value.pointer x8)]) h28 fun v29 h30 =>
 ∃ x31 : ByteArray, v29 = (Value.string x31) ∧
 VRet h30 (Value.bool (ByteArray.toList x31 == ByteArray.toList (ByteArray.mk (List.toArray [(97 : UInt8), (32 : UInt8), (48 : UInt8), (32 : UInt8), (50 : UInt8), (32 : UInt8), (54 : UInt8), (56 : UInt8), (51 : UInt8), (10 : UInt8)])))) post)

def f11_hint : Hint := (.node .leaf (.node .leaf (.node (.node (.join [(22, .bool)] .leaf) .leaf) .leaf)))

theorem f11_eq (h0 : H) (post : Value → H → Prop) : exec Tryz.prog (bodyOf Tryz.f11) f11_hint (retQ Tryz.prog Tryz.f11 post) (F0 []) h0 = f11_sem h0 post := by kernel_rfl

set_option maxRecDepth 20000 in
theorem f11_call (h0 : H) (post : Value → H → Prop) (hx : f11_sem h0 post) : SemCall Tryz.prog 11 (List.toArray []) h0 post :=
 sem_of_exec (g := f11_hint) mixed Tryz.func11 (bodyOf_eq (by kernel_rfl)) (by kernel_rfl) ((f11_eq h0 post).mpr hx)

/- latchgarth/latchgarthlaw6.told -/
def f12_J1 (x8 : Option Addr) (I11 : Nat → Int → H → Prop) (n12 : Nat) (x15_i : Int) (x23 : SV) (x45 : Bool) (h46 : H) : Prop :=
 VIf x45 (
 ∃ b47 : Addr, x23.a = some b47 ∧ 0 ≤ (1 : Int) ∧ (1 : Int) < ((x23.len : Nat) : Int) ∧
 ∃ x48 : Int, H.rd h46 (Addr.add (Addr.add b47 (((1 : Int)).toNat * 1)) 0) (Value.int .i64 x48) ∧
 0 ≤ (2 : Int) ∧ (2 : Int) ≤ ((x23.len : Nat) : Int) ∧
 SemCall Go.Proofs.Tryz.prog 19 (List.toArray [(Value.pointer x8), (Value.int .i64 x48), (Value.slice (if x23.cap = ((2 : Int)).toNat then x23.a else Option.map (fun z => Addr.add z (((2 : Int)).toNat * 1)) x23.a) (x23.len - ((2 : Int)).toNat) (x23.cap - ((2 : Int)).toNat))]) h46 fun v49 h50 =>
 ∃ x51 : Option (TypeId × Value), v49 = (errV x51) ∧
 In64 (x15_i + (1 : Int)) ∧
 ∃ m13, m13 < n12 ∧ (∃ h52, Gh h50 h52 ∧ I11 m13 (x15_i + (1 : Int)) h52)) (
 In64 (x15_i + (1 : Int)) ∧
 ∃ m13, m13 < n12 ∧ (∃ h53, Gh h46 h53 ∧ I11 m13 (x15_i + (1 : Int)) h53))

def f12_J2 (x8 : Option Addr) (I11 : Nat → Int → H → Prop) (n12 : Nat) (x15_i : Int) (x23 : SV) (x29 : Bool) (h30 : H) : Prop :=
 ∃ R31 : H → Prop, (
 VIf x29 (
 ∃ b32 : Addr, x23.a = some b32 ∧ 0 ≤ (1 : Int) ∧ (1 : Int) < ((x23.len : Nat) : Int) ∧
 ∃ x33 : Int, H.rd h30 (Addr.add (Addr.add b32 (((1 : Int)).toNat * 1)) 0) (Value.int .i64 x33) ∧
 0 ≤ (2 : Int) ∧ (2 : Int) ≤ ((x23.len : Nat) : Int) ∧
 SemCall Go.Proofs.Tryz.prog 26 (List.toArray [(Value.pointer x8), (Value.int .i64 x33), (Value.slice (if x23.cap = ((2 : Int)).toNat then x23.a else Option.map (fun z => Addr.add z (((2 : Int)).toNat * 1)) x23.a) (x23.len - ((2 : Int)).toNat) (x23.cap - ((2 : Int)).toNat))]) h30 fun v34 h35 =>
 ∃ x36 : Option (TypeId × Value), v34 = (errV x36) ∧
 (∃ h37, Gh h35 h37 ∧ R31 h37)) (
 (∃ h38, Gh h30 h38 ∧ R31 h38))) ∧
 ∀ (_ : F) (h39 : H), R31 h39 →
 ∃ R40 : Bool → H → Prop, (
 VIf (decide (((x23.len : Nat) : Int) ≥ (2 : Int))) (
 ∃ b41 : Addr, x23.a = some b41 ∧ 0 ≤ (0 : Int) ∧ (0 : Int) < ((x23.len : Nat) : Int) ∧
 ∃ x42 : Int, H.rd h39 (Addr.add (Addr.add b41 (((0 : Int)).toNat * 1)) 0) (Value.int .i64 x42) ∧
 (∃ h43, Gh h39 h43 ∧ R40 (x42 == (0 : Int)) h43)) (
 (∃ h44, Gh h39 h44 ∧ R40 false h44))) ∧
 ∀ (_ : F) (x45 : Bool) (h46 : H), R40 x45 h46 →
 f12_J1 x8 I11 n12 x15_i x23 x45 h46

def f12_J3 (p1_steps : SV) (x8 : Option Addr) (R10 : H → Prop) (I11 : Nat → Int → H → Prop) (n12 : Nat) (x15_i : Int) (x20 : Bool) (h21 : H) : Prop :=
 VIf x20 (
 ∃ b22 : Addr, p1_steps.a = some b22 ∧ 0 ≤ x15_i ∧ x15_i < ((p1_steps.len : Nat) : Int) ∧
 ∃ x23 : SV, H.rd h21 (Addr.add (Addr.add b22 ((x15_i).toNat * 1)) 0) (Value.slice x23.a x23.len x23.cap) ∧
 ∃ R24 : Bool → H → Prop, (
 VIf (decide (((x23.len : Nat) : Int) ≥ (2 : Int))) (
 ∃ b25 : Addr, x23.a = some b25 ∧ 0 ≤ (0 : Int) ∧ (0 : Int) < ((x23.len : Nat) : Int) ∧
 ∃ x26 : Int, H.rd h21 (Addr.add (Addr.add b25 (((0 : Int)).toNat * 1)) 0) (Value.int .i64 x26) ∧
 (∃ h27, Gh h21 h27 ∧ R24 (x26 != (0 : Int)) h27)) (
 (∃ h28, Gh h21 h28 ∧ R24 false h28))) ∧
 ∀ (_ : F) (x29 : Bool) (h30 : H), R24 x29 h30 →
 f12_J2 x8 I11 n12 x15_i x23 x29 h30) (
 (∃ h54, Gh h21 h54 ∧ R10 h54))

def f12_L4 (p1_steps : SV) (x8 : Option Addr) (R10 : H → Prop) (I11 : Nat → Int → H → Prop) (n12 : Nat) (x15_i : Int) (h16 : H) : Prop :=
 ∃ R17 : Bool → H → Prop, (
 VIf (decide (x15_i < ((p1_steps.len : Nat) : Int))) (
 (∃ h18, Gh h16 h18 ∧ R17 (decide (x15_i < (70 : Int))) h18)) (
 (∃ h19, Gh h16 h19 ∧ R17 false h19))) ∧
 ∀ (_ : F) (x20 : Bool) (h21 : H), R17 x20 h21 →
 f12_J3 p1_steps x8 R10 I11 n12 x15_i x20 h21

def f12_sem (p0_0_b : SV) (p0_1_b : SV) (p0_2_b : SV) (p1_steps : SV) (h0 : H) (post : Value → H → Prop) : Prop :=
 H.new h0 [(Value.slice p0_0_b.a p0_0_b.len p0_0_b.cap), (Value.slice p0_1_b.a p0_1_b.len p0_1_b.cap), (Value.slice p0_2_b.a p0_2_b.len p0_2_b.cap)] fun r1 h2 =>
 ∃ x3 : SV, H.rd h2 (Addr.add (Addr.mk r1 0 none) 0) (Value.slice x3.a x3.len x3.cap) ∧
 ∃ x4 : SV, H.rd h2 (Addr.add (Addr.mk r1 0 none) 1) (Value.slice x4.a x4.len x4.cap) ∧
 ∃ x5 : SV, H.rd h2 (Addr.add (Addr.mk r1 0 none) 2) (Value.slice x5.a x5.len x5.cap) ∧
 SemCall Go.Proofs.Tryz.prog 24 (List.toArray [(Value.agg (List.toArray [(Value.slice x3.a x3.len x3.cap), (Value.slice x4.a x4.len x4.cap), (Value.slice x5.a x5.len x5.cap)]))]) h2 fun v6 h7 =>
 ∃ x8 : Option Addr, ∃ x9 : Option (TypeId × Value), v6 = (Value.tuple (List.toArray [(Value.pointer x8), (errV x9)])) ∧
 isIfaceV (errV x9) = true ∧
 VIf (!(isNilV (errV x9))) (
 VRet h7 (Value.tuple (List.toArray [(Value.pointer x8), (Value.bool false)])) post) (
 ∃ R10 : H → Prop, (
 ∃ I11 : Nat → Int → H → Prop, (∃ n12, (∃ h14, Gh h7 h14 ∧ I11 n12 (0 : Int) h14)) ∧
 ∀ (n12 : Nat) (_ : F) (x15_i : Int) (h16 : H), I11 n12 x15_i h16 →
 f12_L4 p1_steps x8 R10 I11 n12 x15_i h16) ∧
 ∀ (_ : F) (h55 : H), R10 h55 →
 VRet h55 (Value.tuple (List.toArray [(Value.pointer x8), (Value.bool true)])) post)

def f12_hint : Hint := (.node .leaf (.node .leaf (.node .leaf (.node (.node .leaf (.join [] (.node (.loop [(8, .int)] (.node (.node (.join [(25, .bool)] .leaf) .leaf) (.node (.node (.node .leaf (.node (.node (.join [(40, .bool)] .leaf) (.join [] (.node (.tail 6) .leaf))) (.node (.join [(56, .bool)] .leaf) (.node (.tail 6) .leaf)))) .leaf) .leaf))) .leaf))) .leaf))))

theorem f12_eq (p0_0_b : SV) (p0_1_b : SV) (p0_2_b : SV) (p1_steps : SV) (h0 : H) (post : Value → H → Prop) : exec Tryz.prog (bodyOf Tryz.f12) f12_hint (retQ Tryz.prog Tryz.f12 post) (F0 [(Value.agg (List.toArray [(Value.slice p0_0_b.a p0_0_b.len p0_0_b.cap), (Value.slice p0_1_b.a p0_1_b.len p0_1_b.cap), (Value.slice p0_2_b.a p0_2_b.len p0_2_b.cap)])), (Value.slice p1_steps.a p1_steps.len p1_steps.cap)]) h0 = f12_sem p0_0_b p0_1_b p0_2_b p1_steps h0 post := by kernel_rfl

set_option maxRecDepth 20000 in
theorem f12_call (p0_0_b : SV) (p0_1_b : SV) (p0_2_b : SV) (p1_steps : SV) (h0 : H) (post : Value → H → Prop) (hx : f12_sem p0_0_b p0_1_b p0_2_b p1_steps h0 post) : SemCall Tryz.prog 12 (List.toArray [(Value.agg (List.toArray [(Value.slice p0_0_b.a p0_0_b.len p0_0_b.cap), (Value.slice p0_1_b.a p0_1_b.len p0_1_b.cap), (Value.slice p0_2_b.a p0_2_b.len p0_2_b.cap)])), (Value.slice p1_steps.a p1_steps.len p1_steps.cap)]) h0 post :=
 sem_of_exec (g := f12_hint) mixed Tryz.func12 (bodyOf_eq (by kernel_rfl)) (by kernel_rfl) ((f12_eq p0_0_b p0_1_b p0_2_b p1_steps h0 post).mpr hx)

/- (*latchgarth/book.Book).Text -/
def f13_sem (p0_b : Option Addr) (h0 : H) (post : Value → H → Prop) : Prop :=
 ∃ a1 : Addr, p0_b = some a1 ∧
 SemCall Go.Proofs.Tryz.prog 27 (List.toArray [(Value.pointer (some (Addr.add a1 3)))]) h0 fun v2 h3 =>
 ∃ x4 : ByteArray, v2 = (Value.string x4) ∧
 VRet h3 (Value.string x4) post

def f13_hint : Hint := .leaf

theorem f13_eq (p0_b : Option Addr) (h0 : H) (post : Value → H → Prop) : exec Tryz.prog (bodyOf Tryz.f13) f13_hint (retQ Tryz.prog Tryz.f13 post) (F0 [(Value.pointer p0_b)]) h0 = f13_sem p0_b h0 post := by kernel_rfl

set_option maxRecDepth 20000 in
theorem f13_call (p0_b : Option Addr) (h0 : H) (post : Value → H → Prop) (hx : f13_sem p0_b h0 post) : SemCall Tryz.prog 13 (List.toArray [(Value.pointer p0_b)]) h0 post :=
 sem_of_exec (g := f13_hint) mixed Tryz.func13 (bodyOf_eq (by kernel_rfl)) (by kernel_rfl) ((f13_eq p0_b h0 post).mpr hx)

/- latchgarth/latchgarthsame.Error -/
def f15_sem (p0_err : Option (TypeId × Value)) (p1_e : Int) (h0 : H) (post : Value → H → Prop) : Prop :=
 SemCall Go.Proofs.Tryz.prog 31 (List.toArray [(errV p0_err)]) h0 fun v1 h2 =>
 ∃ x3 : Int, v1 = (Value.int .i64 x3) ∧
 VRet h2 (Value.bool (x3 == p1_e)) post

def f15_hint : Hint := .leaf

theorem f15_eq (p0_err : Option (TypeId × Value)) (p1_e : Int) (h0 : H) (post : Value → H → Prop) : exec Tryz.prog (bodyOf Tryz.f15) f15_hint (retQ Tryz.prog Tryz.f15 post) (F0 [(errV p0_err), (Value.int .i64 p1_e)]) h0 = f15_sem p0_err p1_e h0 post := by kernel_rfl

set_option maxRecDepth 20000 in
theorem f15_call (p0_err : Option (TypeId × Value)) (p1_e : Int) (h0 : H) (post : Value → H → Prop) (hx : f15_sem p0_err p1_e h0 post) : SemCall Tryz.prog 15 (List.toArray [(errV p0_err), (Value.int .i64 p1_e)]) h0 post :=
 sem_of_exec (g := f15_hint) mixed Tryz.func15 (bodyOf_eq (by kernel_rfl)) (by kernel_rfl) ((f15_eq p0_err p1_e h0 post).mpr hx)

/- latchgarth/latchgarthsame.Banks -/
def f17_sem (p0_0_a : SV) (p0_1_a : SV) (p0_2_a : SV) (p1_0_b : SV) (p1_1_b : SV) (p1_2_b : SV) (h0 : H) (post : Value → H → Prop) : Prop :=
 H.new h0 [(Value.slice p0_0_a.a p0_0_a.len p0_0_a.cap), (Value.slice p0_1_a.a p0_1_a.len p0_1_a.cap), (Value.slice p0_2_a.a p0_2_a.len p0_2_a.cap)] fun r1 h2 =>
 H.new h2 [(Value.slice p1_0_b.a p1_0_b.len p1_0_b.cap), (Value.slice p1_1_b.a p1_1_b.len p1_1_b.cap), (Value.slice p1_2_b.a p1_2_b.len p1_2_b.cap)] fun r3 h4 =>
 ∃ R5 : Bool → H → Prop, (
 ∃ x6 : SV, H.rd h4 (Addr.add (Addr.add (Addr.mk r1 0 none) 0) 0) (Value.slice x6.a x6.len x6.cap) ∧
 ∃ x7 : SV, H.rd h4 (Addr.add (Addr.add (Addr.mk r3 0 none) 0) 0) (Value.slice x7.a x7.len x7.cap) ∧
 SemCall Go.Proofs.Tryz.prog 35 (List.toArray [(Value.slice x6.a x6.len x6.cap), (Value.slice x7.a x7.len x7.cap)]) h4 fun v8 h9 =>
 ∃ x10 : Bool, v8 = (Value.bool x10) ∧
 VIf x10 (
 ∃ x11 : SV, H.rd h9 (Addr.add (Addr.add (Addr.mk r1 0 none) 1) 0) (Value.slice x11.a x11.len x11.cap) ∧
 ∃ x12 : SV, H.rd h9 (Addr.add (Addr.add (Addr.mk r3 0 none) 1) 0) (Value.slice x12.a x12.len x12.cap) ∧
 SemCall Go.Proofs.Tryz.prog 36 (List.toArray [(Value.slice x11.a x11.len x11.cap), (Value.slice x12.a x12.len x12.cap)]) h9 fun v13 h14 =>
 ∃ x15 : Bool, v13 = (Value.bool x15) ∧
 VIf x15 (
 ∃ x16 : SV, H.rd h14 (Addr.add (Addr.add (Addr.mk r1 0 none) 2) 0) (Value.slice x16.a x16.len x16.cap) ∧
 ∃ x17 : SV, H.rd h14 (Addr.add (Addr.add (Addr.mk r3 0 none) 2) 0) (Value.slice x17.a x17.len x17.cap) ∧
 SemCall Go.Proofs.Tryz.prog 36 (List.toArray [(Value.slice x16.a x16.len x16.cap), (Value.slice x17.a x17.len x17.cap)]) h14 fun v18 h19 =>
 ∃ x20 : Bool, v18 = (Value.bool x20) ∧
 (∃ h21, Gh h19 h21 ∧ R5 x20 h21)) (
 (∃ h22, Gh h14 h22 ∧ R5 false h22))) (
 (∃ h23, Gh h9 h23 ∧ R5 false h23))) ∧
 ∀ (_ : F) (x24 : Bool) (h25 : H), R5 x24 h25 →
 VRet h25 (Value.bool x24) post

def f17_hint : Hint := (.node .leaf (.node (.join [(4, .bool)] .leaf) .leaf))

theorem f17_eq (p0_0_a : SV) (p0_1_a : SV) (p0_2_a : SV) (p1_0_b : SV) (p1_1_b : SV) (p1_2_b : SV) (h0 : H) (post : Value → H → Prop) : exec Tryz.prog (bodyOf Tryz.f17) f17_hint (retQ Tryz.prog Tryz.f17 post) (F0 [(Value.agg (List.toArray [(Value.slice p0_0_a.a p0_0_a.len p0_0_a.cap), (Value.slice p0_1_a.a p0_1_a.len p0_1_a.cap), (Value.slice p0_2_a.a p0_2_a.len p0_2_a.cap)])), (Value.agg (List.toArray [(Value.slice p1_0_b.a p1_0_b.len p1_0_b.cap), (Value.slice p1_1_b.a p1_1_b.len p1_1_b.cap), (Value.slice p1_2_b.a p1_2_b.len p1_2_b.cap)]))]) h0 = f17_sem p0_0_a p0_1_a p0_2_a p1_0_b p1_1_b p1_2_b h0 post := by kernel_rfl

set_option maxRecDepth 20000 in
theorem f17_call (p0_0_a : SV) (p0_1_a : SV) (p0_2_a : SV) (p1_0_b : SV) (p1_1_b : SV) (p1_2_b : SV) (h0 : H) (post : Value → H → Prop) (hx : f17_sem p0_0_a p0_1_a p0_2_a p1_0_b p1_1_b p1_2_b h0 post) : SemCall Tryz.prog 17 (List.toArray [(Value.agg (List.toArray [(Value.slice p0_0_a.a p0_0_a.len p0_0_a.cap), (Value.slice p0_1_a.a p0_1_a.len p0_1_a.cap), (Value.slice p0_2_a.a p0_2_a.len p0_2_a.cap)])), (Value.agg (List.toArray [(Value.slice p1_0_b.a p1_0_b.len p1_0_b.cap), (Value.slice p1_1_b.a p1_1_b.len p1_1_b.cap), (Value.slice p1_2_b.a p1_2_b.len p1_2_b.cap)]))]) h0 post :=
 sem_of_exec (g := f17_hint) mixed Tryz.func17 (bodyOf_eq (by kernel_rfl)) (by kernel_rfl) ((f17_eq p0_0_a p0_1_a p0_2_a p1_0_b p1_1_b p1_2_b h0 post).mpr hx)

/- (*latchgarth/book.Book).Bank -/
def f18_sem (p0_b : Option Addr) (h0 : H) (post : Value → H → Prop) : Prop :=
 H.new h0 [(Value.slice none 0 0), (Value.slice none 0 0), (Value.slice none 0 0)] fun r1 h2 =>
 ∃ a3 : Addr, p0_b = some a3 ∧
 ∃ x4 : SV, H.rd h2 (Addr.add (Addr.add a3 0) 0) (Value.slice x4.a x4.len x4.cap) ∧
 ∃ x5 : SV, H.rd h2 (Addr.add (Addr.add a3 0) 1) (Value.slice x5.a x5.len x5.cap) ∧
 ∃ x6 : SV, H.rd h2 (Addr.add (Addr.add a3 0) 2) (Value.slice x6.a x6.len x6.cap) ∧
 SemCall Go.Proofs.Tryz.prog 37 (List.toArray [(Value.agg (List.toArray [(Value.slice x4.a x4.len x4.cap), (Value.slice x5.a x5.len x5.cap), (Value.slice x6.a x6.len x6.cap)]))]) h2 fun v7 h8 =>
 ∃ x9 : SV, ∃ x10 : SV, ∃ x11 : SV, v7 = (Value.agg (List.toArray [(Value.slice x9.a x9.len x9.cap), (Value.slice x10.a x10.len x10.cap), (Value.slice x11.a x11.len x11.cap)])) ∧
 ([(Value.slice x9.a x9.len x9.cap), (Value.slice x10.a x10.len x10.cap), (Value.slice x11.a x11.len x11.cap)]).length = 3 ∧ (Program.underlying Go.Proofs.Tryz.prog 25).isSome = true ∧
 H.wr h8 (Addr.mk r1 0 none) ([(Value.slice x9.a x9.len x9.cap), (Value.slice x10.a x10.len x10.cap), (Value.slice x11.a x11.len x11.cap)]) fun h12 =>
 ∃ x13 : SV, H.rd h12 (Addr.add (Addr.mk r1 0 none) 0) (Value.slice x13.a x13.len x13.cap) ∧
 ∃ x14 : SV, H.rd h12 (Addr.add (Addr.mk r1 0 none) 1) (Value.slice x14.a x14.len x14.cap) ∧
 ∃ x15 : SV, H.rd h12 (Addr.add (Addr.mk r1 0 none) 2) (Value.slice x15.a x15.len x15.cap) ∧
 VRet h12 (Value.agg (List.toArray [(Value.slice x13.a x13.len x13.cap), (Value.slice x14.a x14.len x14.cap), (Value.slice x15.a x15.len x15.cap)])) post

def f18_hint : Hint := .leaf

theorem f18_eq (p0_b : Option Addr) (h0 : H) (post : Value → H → Prop) : exec Tryz.prog (bodyOf Tryz.f18) f18_hint (retQ Tryz.prog Tryz.f18 post) (F0 [(Value.pointer p0_b)]) h0 = f18_sem p0_b h0 post := by kernel_rfl

set_option maxRecDepth 20000 in
theorem f18_call (p0_b : Option Addr) (h0 : H) (post : Value → H → Prop) (hx : f18_sem p0_b h0 post) : SemCall Tryz.prog 18 (List.toArray [(Value.pointer p0_b)]) h0 post :=
 sem_of_exec (g := f18_hint) mixed Tryz.func18 (bodyOf_eq (by kernel_rfl)) (by kernel_rfl) ((f18_eq p0_b h0 post).mpr hx)

/- (*latchgarth/book.Book).Ask -/
def f19_sem (p0_b : Option Addr) (p1_t : Int) (p2_want : SV) (h0 : H) (post : Value → H → Prop) : Prop :=
 SemCall Go.Proofs.Tryz.prog 38 (List.toArray [(Value.pointer p0_b), (Value.string (ByteArray.mk (List.toArray [(97 : UInt8)]))), (Value.func (.func 39) #[] #[]), (Value.int .i64 p1_t), (Value.slice p2_want.a p2_want.len p2_want.cap)]) h0 fun v1 h2 =>
 ∃ x3 : Option (TypeId × Value), v1 = (errV x3) ∧
 VRet h2 (errV x3) post

def f19_hint : Hint := .leaf

theorem f19_eq (p0_b : Option Addr) (p1_t : Int) (p2_want : SV) (h0 : H) (post : Value → H → Prop) : exec Tryz.prog (bodyOf Tryz.f19) f19_hint (retQ Tryz.prog Tryz.f19 post) (F0 [(Value.pointer p0_b), (Value.int .i64 p1_t), (Value.slice p2_want.a p2_want.len p2_want.cap)]) h0 = f19_sem p0_b p1_t p2_want h0 post := by kernel_rfl

set_option maxRecDepth 20000 in
theorem f19_call (p0_b : Option Addr) (p1_t : Int) (p2_want : SV) (h0 : H) (post : Value → H → Prop) (hx : f19_sem p0_b p1_t p2_want h0 post) : SemCall Tryz.prog 19 (List.toArray [(Value.pointer p0_b), (Value.int .i64 p1_t), (Value.slice p2_want.a p2_want.len p2_want.cap)]) h0 post :=
 sem_of_exec (g := f19_hint) mixed Tryz.func19 (bodyOf_eq (by kernel_rfl)) (by kernel_rfl) ((f19_eq p0_b p1_t p2_want h0 post).mpr hx)

/- latchgarth/book.New -/
def f24_sem (p0_0_b : SV) (p0_1_b : SV) (p0_2_b : SV) (h0 : H) (post : Value → H → Prop) : Prop :=
 H.new h0 [(Value.slice p0_0_b.a p0_0_b.len p0_0_b.cap), (Value.slice p0_1_b.a p0_1_b.len p0_1_b.cap), (Value.slice p0_2_b.a p0_2_b.len p0_2_b.cap)] fun r1 h2 =>
 ∃ x3 : SV, H.rd h2 (Addr.add (Addr.mk r1 0 none) 0) (Value.slice x3.a x3.len x3.cap) ∧
 ∃ x4 : SV, H.rd h2 (Addr.add (Addr.mk r1 0 none) 1) (Value.slice x4.a x4.len x4.cap) ∧
 ∃ x5 : SV, H.rd h2 (Addr.add (Addr.mk r1 0 none) 2) (Value.slice x5.a x5.len x5.cap) ∧
 SemCall Go.Proofs.Tryz.prog 48 (List.toArray [(Value.agg (List.toArray [(Value.slice x3.a x3.len x3.cap), (Value.slice x4.a x4.len x4.cap), (Value.slice x5.a x5.len x5.cap)]))]) h2 fun v6 h7 =>
 ∃ x8 : Bool, ∃ x9 : SV, ∃ x10 : Option (TypeId × Value), v6 = (Value.tuple (List.toArray [(Value.bool x8), (Value.slice x9.a x9.len x9.cap), (errV x10)])) ∧
 isIfaceV (errV x10) = true ∧
 VIf (!(isNilV (errV x10))) (
 VRet h7 (Value.tuple (List.toArray [(Value.pointer none), (errV x10)])) post) (
 VIf (!x8) (
 VRet h7 (Value.tuple (List.toArray [(Value.pointer none), (Value.iface 57 (Value.int .i64 (7 : Int)))])) post) (
 ∃ x11 : SV, H.rd h7 (Addr.add (Addr.mk r1 0 none) 0) (Value.slice x11.a x11.len x11.cap) ∧
 ∃ x12 : SV, H.rd h7 (Addr.add (Addr.mk r1 0 none) 1) (Value.slice x12.a x12.len x12.cap) ∧
 ∃ x13 : SV, H.rd h7 (Addr.add (Addr.mk r1 0 none) 2) (Value.slice x13.a x13.len x13.cap) ∧
 SemCall Go.Proofs.Tryz.prog 37 (List.toArray [(Value.agg (List.toArray [(Value.slice x11.a x11.len x11.cap), (Value.slice x12.a x12.len x12.cap), (Value.slice x13.a x13.len x13.cap)]))]) h7 fun v14 h15 =>
 ∃ x16 : SV, ∃ x17 : SV, ∃ x18 : SV, v14 = (Value.agg (List.toArray [(Value.slice x16.a x16.len x16.cap), (Value.slice x17.a x17.len x17.cap), (Value.slice x18.a x18.len x18.cap)])) ∧
 H.new h15 [(Value.slice x16.a x16.len x16.cap), (Value.slice x17.a x17.len x17.cap), (Value.slice x18.a x18.len x18.cap), (Value.pointer none), (Value.slice none 0 0), (Value.int .i64 0)] fun r19 h20 =>
 VRet h20 (Value.tuple (List.toArray [(Value.pointer (some (Addr.mk r19 0 none))), Value.nilIface])) post))

def f24_hint : Hint := .leaf

theorem f24_eq (p0_0_b : SV) (p0_1_b : SV) (p0_2_b : SV) (h0 : H) (post : Value → H → Prop) : exec Tryz.prog (bodyOf Tryz.f24) f24_hint (retQ Tryz.prog Tryz.f24 post) (F0 [(Value.agg (List.toArray [(Value.slice p0_0_b.a p0_0_b.len p0_0_b.cap), (Value.slice p0_1_b.a p0_1_b.len p0_1_b.cap), (Value.slice p0_2_b.a p0_2_b.len p0_2_b.cap)]))]) h0 = f24_sem p0_0_b p0_1_b p0_2_b h0 post := by kernel_rfl

set_option maxRecDepth 20000 in
theorem f24_call (p0_0_b : SV) (p0_1_b : SV) (p0_2_b : SV) (h0 : H) (post : Value → H → Prop) (hx : f24_sem p0_0_b p0_1_b p0_2_b h0 post) : SemCall Tryz.prog 24 (List.toArray [(Value.agg (List.toArray [(Value.slice p0_0_b.a p0_0_b.len p0_0_b.cap), (Value.slice p0_1_b.a p0_1_b.len p0_1_b.cap), (Value.slice p0_2_b.a p0_2_b.len p0_2_b.cap)]))]) h0 post :=
 sem_of_exec (g := f24_hint) mixed Tryz.func24 (bodyOf_eq (by kernel_rfl)) (by kernel_rfl) ((f24_eq p0_0_b p0_1_b p0_2_b h0 post).mpr hx)

/- latchgarth/latchgarthlaw6.small -/
def f25_sem (h0 : H) (post : Value → H → Prop) : Prop :=
 H.new h0 [(Value.slice none 0 0), (Value.slice none 0 0), (Value.slice none 0 0)] fun r1 h2 =>
 H.new h2 [(Value.int .i64 (4 : Int))] fun r3 h4 =>
 H.new h4 [(Value.int .i64 (3 : Int))] fun r5 h6 =>
 H.new h6 [(Value.int .i64 (3 : Int))] fun r7 h8 =>
 H.new h8 [(Value.slice (some (Addr.mk r5 0 none)) 1 1), (Value.slice (some (Addr.mk r7 0 none)) 1 1)] fun r9 h10 =>
 H.new h10 [(Value.int .i64 0)] fun r11 h12 =>
 H.new h12 [(Value.int .i64 0)] fun r13 h14 =>
 H.new h14 [(Value.slice (some (Addr.mk r11 0 none)) 1 1), (Value.slice (some (Addr.mk r13 0 none)) 1 1)] fun r15 h16 =>
 ([(Value.slice (some (Addr.mk r3 0 none)) 1 1), (Value.slice (some (Addr.mk r9 0 none)) 2 2), (Value.slice (some (Addr.mk r15 0 none)) 2 2)]).length = 3 ∧ (Program.underlying Go.Proofs.Tryz.prog 25).isSome = true ∧
 H.wr h16 (Addr.mk r1 0 none) ([(Value.slice (some (Addr.mk r3 0 none)) 1 1), (Value.slice (some (Addr.mk r9 0 none)) 2 2), (Value.slice (some (Addr.mk r15 0 none)) 2 2)]) fun h17 =>
 ∃ x18 : SV, H.rd h17 (Addr.add (Addr.mk r1 0 none) 0) (Value.slice x18.a x18.len x18.cap) ∧
 ∃ x19 : SV, H.rd h17 (Addr.add (Addr.mk r1 0 none) 1) (Value.slice x19.a x19.len x19.cap) ∧
 ∃ x20 : SV, H.rd h17 (Addr.add (Addr.mk r1 0 none) 2) (Value.slice x20.a x20.len x20.cap) ∧
 VRet h17 (Value.agg (List.toArray [(Value.slice x18.a x18.len x18.cap), (Value.slice x19.a x19.len x19.cap), (Value.slice x20.a x20.len x20.cap)])) post

def f25_hint : Hint := .leaf

theorem f25_eq (h0 : H) (post : Value → H → Prop) : exec Tryz.prog (bodyOf Tryz.f25) f25_hint (retQ Tryz.prog Tryz.f25 post) (F0 []) h0 = f25_sem h0 post := by kernel_rfl

set_option maxRecDepth 20000 in
theorem f25_call (h0 : H) (post : Value → H → Prop) (hx : f25_sem h0 post) : SemCall Tryz.prog 25 (List.toArray []) h0 post :=
 sem_of_exec (g := f25_hint) mixed Tryz.func25 (bodyOf_eq (by kernel_rfl)) (by kernel_rfl) ((f25_eq h0 post).mpr hx)

/- (*latchgarth/book.Book).Back -/
def f26_sem (p0_b : Option Addr) (p1_t : Int) (p2_want : SV) (h0 : H) (post : Value → H → Prop) : Prop :=
 SemCall Go.Proofs.Tryz.prog 38 (List.toArray [(Value.pointer p0_b), (Value.string (ByteArray.mk (List.toArray [(98 : UInt8)]))), (Value.func (.func 49) #[] #[]), (Value.int .i64 p1_t), (Value.slice p2_want.a p2_want.len p2_want.cap)]) h0 fun v1 h2 =>
 ∃ x3 : Option (TypeId × Value), v1 = (errV x3) ∧
 VRet h2 (errV x3) post

def f26_hint : Hint := .leaf

theorem f26_eq (p0_b : Option Addr) (p1_t : Int) (p2_want : SV) (h0 : H) (post : Value → H → Prop) : exec Tryz.prog (bodyOf Tryz.f26) f26_hint (retQ Tryz.prog Tryz.f26 post) (F0 [(Value.pointer p0_b), (Value.int .i64 p1_t), (Value.slice p2_want.a p2_want.len p2_want.cap)]) h0 = f26_sem p0_b p1_t p2_want h0 post := by kernel_rfl

set_option maxRecDepth 20000 in
theorem f26_call (p0_b : Option Addr) (p1_t : Int) (p2_want : SV) (h0 : H) (post : Value → H → Prop) (hx : f26_sem p0_b p1_t p2_want h0 post) : SemCall Tryz.prog 26 (List.toArray [(Value.pointer p0_b), (Value.int .i64 p1_t), (Value.slice p2_want.a p2_want.len p2_want.cap)]) h0 post :=
 sem_of_exec (g := f26_hint) mixed Tryz.func26 (bodyOf_eq (by kernel_rfl)) (by kernel_rfl) ((f26_eq p0_b p1_t p2_want h0 post).mpr hx)

/- latchgarth/plain.Told -/
def f31_sem (p0_err : Option (TypeId × Value)) (h0 : H) (post : Value → H → Prop) : Prop :=
 isIfaceV (errV p0_err) = true ∧
 VIf (isNilV (errV p0_err)) (
 VRet h0 (Value.int .i64 0) post) (
 H.new h0 [(Value.int .i64 0)] fun r1 h2 =>
 SemCall Go.Proofs.Tryz.prog 57 (List.toArray [(errV p0_err), (Value.iface 95 (Value.pointer (some (Addr.mk r1 0 none))))]) h2 fun v3 h4 =>
 ∃ x5 : Bool, v3 = (Value.bool x5) ∧
 VIf x5 (
 ∃ x6 : Int, H.rd h4 (Addr.add (Addr.mk r1 0 none) 0) (Value.int .i64 x6) ∧
 VRet h4 (Value.int .i64 x6) post) (
 VRet h4 (Value.int .i64 (-1 : Int)) post))

def f31_hint : Hint := .leaf

theorem f31_eq (p0_err : Option (TypeId × Value)) (h0 : H) (post : Value → H → Prop) : exec Tryz.prog (bodyOf Tryz.f31) f31_hint (retQ Tryz.prog Tryz.f31 post) (F0 [(errV p0_err)]) h0 = f31_sem p0_err h0 post := by kernel_rfl

set_option maxRecDepth 20000 in
theorem f31_call (p0_err : Option (TypeId × Value)) (h0 : H) (post : Value → H → Prop) (hx : f31_sem p0_err h0 post) : SemCall Tryz.prog 31 (List.toArray [(errV p0_err)]) h0 post :=
 sem_of_exec (g := f31_hint) mixed Tryz.func31 (bodyOf_eq (by kernel_rfl)) (by kernel_rfl) ((f31_eq p0_err h0 post).mpr hx)

/- latchgarth/latchgarthref5.New -/
def f32_sem (p0_0_b : SV) (p0_1_b : SV) (p0_2_b : SV) (h0 : H) (post : Value → H → Prop) : Prop :=
 H.new h0 [(Value.slice p0_0_b.a p0_0_b.len p0_0_b.cap), (Value.slice p0_1_b.a p0_1_b.len p0_1_b.cap), (Value.slice p0_2_b.a p0_2_b.len p0_2_b.cap)] fun r1 h2 =>
 H.new h2 [(Value.slice none 0 0), (Value.slice none 0 0), (Value.slice none 0 0), (Value.string ByteArray.empty), (Value.int .i64 0)] fun r3 h4 =>
 ∃ x5 : SV, H.rd h4 (Addr.add (Addr.mk r1 0 none) 0) (Value.slice x5.a x5.len x5.cap) ∧
 ∃ x6 : SV, H.rd h4 (Addr.add (Addr.mk r1 0 none) 1) (Value.slice x6.a x6.len x6.cap) ∧
 ∃ x7 : SV, H.rd h4 (Addr.add (Addr.mk r1 0 none) 2) (Value.slice x7.a x7.len x7.cap) ∧
 SemCall Go.Proofs.Tryz.prog 58 (List.toArray [(Value.agg (List.toArray [(Value.slice x5.a x5.len x5.cap), (Value.slice x6.a x6.len x6.cap), (Value.slice x7.a x7.len x7.cap)]))]) h4 fun v8 h9 =>
 ∃ x10 : Int, v8 = (Value.int .i64 x10) ∧
 VIf (x10 != (0 : Int)) (
 ([(Value.slice none 0 0), (Value.slice none 0 0), (Value.slice none 0 0), (Value.string ByteArray.empty), (Value.int .i64 0)]).length = 5 ∧ (Program.underlying Go.Proofs.Tryz.prog 39).isSome = true ∧
 H.wr h9 (Addr.mk r3 0 none) ([(Value.slice none 0 0), (Value.slice none 0 0), (Value.slice none 0 0), (Value.string ByteArray.empty), (Value.int .i64 0)]) fun h11 =>
 ∃ x12 : SV, H.rd h11 (Addr.add (Addr.mk r3 0 none) 0) (Value.slice x12.a x12.len x12.cap) ∧
 ∃ x13 : SV, H.rd h11 (Addr.add (Addr.mk r3 0 none) 1) (Value.slice x13.a x13.len x13.cap) ∧
 ∃ x14 : SV, H.rd h11 (Addr.add (Addr.mk r3 0 none) 2) (Value.slice x14.a x14.len x14.cap) ∧
 ∃ x15 : ByteArray, H.rd h11 (Addr.add (Addr.mk r3 0 none) 3) (Value.string x15) ∧
 ∃ x16 : Int, H.rd h11 (Addr.add (Addr.mk r3 0 none) 4) (Value.int .i64 x16) ∧
 VRet h11 (Value.tuple (List.toArray [(Value.agg (List.toArray [(Value.slice x12.a x12.len x12.cap), (Value.slice x13.a x13.len x13.cap), (Value.slice x14.a x14.len x14.cap), (Value.string x15), (Value.int .i64 x16)])), (Value.int .i64 x10)])) post) (
 ∃ x17 : SV, H.rd h9 (Addr.add (Addr.mk r1 0 none) 0) (Value.slice x17.a x17.len x17.cap) ∧
 ∃ x18 : SV, H.rd h9 (Addr.add (Addr.mk r1 0 none) 1) (Value.slice x18.a x18.len x18.cap) ∧
 ∃ x19 : SV, H.rd h9 (Addr.add (Addr.mk r1 0 none) 2) (Value.slice x19.a x19.len x19.cap) ∧
 SemCall Go.Proofs.Tryz.prog 59 (List.toArray [(Value.agg (List.toArray [(Value.slice x17.a x17.len x17.cap), (Value.slice x18.a x18.len x18.cap), (Value.slice x19.a x19.len x19.cap)]))]) h9 fun v20 h21 =>
 ∃ x22 : SV, ∃ x23 : Bool, v20 = (Value.tuple (List.toArray [(Value.slice x22.a x22.len x22.cap), (Value.bool x23)])) ∧
 VIf (!x23) (
 ([(Value.slice none 0 0), (Value.slice none 0 0), (Value.slice none 0 0), (Value.string ByteArray.empty), (Value.int .i64 0)]).length = 5 ∧ (Program.underlying Go.Proofs.Tryz.prog 39).isSome = true ∧
 H.wr h21 (Addr.mk r3 0 none) ([(Value.slice none 0 0), (Value.slice none 0 0), (Value.slice none 0 0), (Value.string ByteArray.empty), (Value.int .i64 0)]) fun h24 =>
 ∃ x25 : SV, H.rd h24 (Addr.add (Addr.mk r3 0 none) 0) (Value.slice x25.a x25.len x25.cap) ∧
 ∃ x26 : SV, H.rd h24 (Addr.add (Addr.mk r3 0 none) 1) (Value.slice x26.a x26.len x26.cap) ∧
 ∃ x27 : SV, H.rd h24 (Addr.add (Addr.mk r3 0 none) 2) (Value.slice x27.a x27.len x27.cap) ∧
 ∃ x28 : ByteArray, H.rd h24 (Addr.add (Addr.mk r3 0 none) 3) (Value.string x28) ∧
 ∃ x29 : Int, H.rd h24 (Addr.add (Addr.mk r3 0 none) 4) (Value.int .i64 x29) ∧
 VRet h24 (Value.tuple (List.toArray [(Value.agg (List.toArray [(Value.slice x25.a x25.len x25.cap), (Value.slice x26.a x26.len x26.cap), (Value.slice x27.a x27.len x27.cap), (Value.string x28), (Value.int .i64 x29)])), (Value.int .i64 (7 : Int))])) post) (
 ∃ x30 : SV, H.rd h21 (Addr.add (Addr.mk r1 0 none) 0) (Value.slice x30.a x30.len x30.cap) ∧
 ∃ x31 : SV, H.rd h21 (Addr.add (Addr.mk r1 0 none) 1) (Value.slice x31.a x31.len x31.cap) ∧
 ∃ x32 : SV, H.rd h21 (Addr.add (Addr.mk r1 0 none) 2) (Value.slice x32.a x32.len x32.cap) ∧
 ([(Value.slice x30.a x30.len x30.cap), (Value.slice x31.a x31.len x31.cap), (Value.slice x32.a x32.len x32.cap), (Value.string ByteArray.empty), (Value.int .i64 0)]).length = 5 ∧ (Program.underlying Go.Proofs.Tryz.prog 39).isSome = true ∧
 H.wr h21 (Addr.mk r3 0 none) ([(Value.slice x30.a x30.len x30.cap), (Value.slice x31.a x31.len x31.cap), (Value.slice x32.a x32.len x32.cap), (Value.string ByteArray.empty), (Value.int .i64 0)]) fun h33 =>
 ∃ x34 : SV, H.rd h33 (Addr.add (Addr.mk r3 0 none) 0) (Value.slice x34.a x34.len x34.cap) ∧
 ∃ x35 : SV, H.rd h33 (Addr.add (Addr.mk r3 0 none) 1) (Value.slice x35.a x35.len x35.cap) ∧
 ∃ x36 : SV, H.rd h33 (Addr.add (Addr.mk r3 0 none) 2) (Value.slice x36.a x36.len x36.cap) ∧
 ∃ x37 : ByteArray, H.rd h33 (Addr.add (Addr.mk r3 0 none) 3) (Value.string x37) ∧
 ∃ x38 : Int, H.rd h33 (Addr.add (Addr.mk r3 0 none) 4) (Value.int .i64 x38) ∧
 VRet h33 (Value.tuple (List.toArray [(Value.agg (List.toArray [(Value.slice x34.a x34.len x34.cap), (Value.slice x35.a x35.len x35.cap), (Value.slice x36.a x36.len x36.cap), (Value.string x37), (Value.int .i64 x38)])), (Value.int .i64 0)])) post))

def f32_hint : Hint := .leaf

theorem f32_eq (p0_0_b : SV) (p0_1_b : SV) (p0_2_b : SV) (h0 : H) (post : Value → H → Prop) : exec Tryz.prog (bodyOf Tryz.f32) f32_hint (retQ Tryz.prog Tryz.f32 post) (F0 [(Value.agg (List.toArray [(Value.slice p0_0_b.a p0_0_b.len p0_0_b.cap), (Value.slice p0_1_b.a p0_1_b.len p0_1_b.cap), (Value.slice p0_2_b.a p0_2_b.len p0_2_b.cap)]))]) h0 = f32_sem p0_0_b p0_1_b p0_2_b h0 post := by kernel_rfl

set_option maxRecDepth 20000 in
theorem f32_call (p0_0_b : SV) (p0_1_b : SV) (p0_2_b : SV) (h0 : H) (post : Value → H → Prop) (hx : f32_sem p0_0_b p0_1_b p0_2_b h0 post) : SemCall Tryz.prog 32 (List.toArray [(Value.agg (List.toArray [(Value.slice p0_0_b.a p0_0_b.len p0_0_b.cap), (Value.slice p0_1_b.a p0_1_b.len p0_1_b.cap), (Value.slice p0_2_b.a p0_2_b.len p0_2_b.cap)]))]) h0 post :=
 sem_of_exec (g := f32_hint) mixed Tryz.func32 (bodyOf_eq (by kernel_rfl)) (by kernel_rfl) ((f32_eq p0_0_b p0_1_b p0_2_b h0 post).mpr hx)

/- latchgarth/latchgarthsame.Ints -/
def f35_L1 (p0_a : SV) (p1_b : SV) (post : Value → H → Prop) (R1 : H → Prop) (I2 : Nat → Int → H → Prop) (n3 : Nat) (x6_i : Int) (h7 : H) : Prop :=
 VIf (decide (x6_i < ((p0_a.len : Nat) : Int))) (
 ∃ b8 : Addr, p0_a.a = some b8 ∧ 0 ≤ x6_i ∧ x6_i < ((p0_a.len : Nat) : Int) ∧
 ∃ x9 : Int, H.rd h7 (Addr.add (Addr.add b8 ((x6_i).toNat * 1)) 0) (Value.int .i64 x9) ∧
 ∃ b10 : Addr, p1_b.a = some b10 ∧ 0 ≤ x6_i ∧ x6_i < ((p1_b.len : Nat) : Int) ∧
 ∃ x11 : Int, H.rd h7 (Addr.add (Addr.add b10 ((x6_i).toNat * 1)) 0) (Value.int .i64 x11) ∧
 VIf (x9 != x11) (
 VRet h7 (Value.bool false) post) (
 In64 (x6_i + (1 : Int)) ∧
 ∃ m4, m4 < n3 ∧ (∃ h12, Gh h7 h12 ∧ I2 m4 (x6_i + (1 : Int)) h12))) (
 (∃ h13, Gh h7 h13 ∧ R1 h13))

def f35_sem (p0_a : SV) (p1_b : SV) (h0 : H) (post : Value → H → Prop) : Prop :=
 VIf (((p0_a.len : Nat) : Int) != ((p1_b.len : Nat) : Int)) (
 VRet h0 (Value.bool false) post) (
 ∃ R1 : H → Prop, (
 ∃ I2 : Nat → Int → H → Prop, (∃ n3, (∃ h5, Gh h0 h5 ∧ I2 n3 (0 : Int) h5)) ∧
 ∀ (n3 : Nat) (_ : F) (x6_i : Int) (h7 : H), I2 n3 x6_i h7 →
 f35_L1 p0_a p1_b post R1 I2 n3 x6_i h7) ∧
 ∀ (_ : F) (h14 : H), R1 h14 →
 VRet h14 (Value.bool true) post)

def f35_hint : Hint := (.node .leaf (.node .leaf (.node (.node .leaf (.join [] (.node (.loop [(5, .int)] .leaf) .leaf))) .leaf)))

theorem f35_eq (p0_a : SV) (p1_b : SV) (h0 : H) (post : Value → H → Prop) : exec Tryz.prog (bodyOf Tryz.f35) f35_hint (retQ Tryz.prog Tryz.f35 post) (F0 [(Value.slice p0_a.a p0_a.len p0_a.cap), (Value.slice p1_b.a p1_b.len p1_b.cap)]) h0 = f35_sem p0_a p1_b h0 post := by kernel_rfl

set_option maxRecDepth 20000 in
theorem f35_call (p0_a : SV) (p1_b : SV) (h0 : H) (post : Value → H → Prop) (hx : f35_sem p0_a p1_b h0 post) : SemCall Tryz.prog 35 (List.toArray [(Value.slice p0_a.a p0_a.len p0_a.cap), (Value.slice p1_b.a p1_b.len p1_b.cap)]) h0 post :=
 sem_of_exec (g := f35_hint) mixed Tryz.func35 (bodyOf_eq (by kernel_rfl)) (by kernel_rfl) ((f35_eq p0_a p1_b h0 post).mpr hx)

/- latchgarth/latchgarthsame.Rows -/
def f36_L1 (p0_a : SV) (p1_b : SV) (post : Value → H → Prop) (R1 : H → Prop) (I2 : Nat → Int → H → Prop) (n3 : Nat) (x6_i : Int) (h7 : H) : Prop :=
 VIf (decide (x6_i < ((p0_a.len : Nat) : Int))) (
 ∃ b8 : Addr, p0_a.a = some b8 ∧ 0 ≤ x6_i ∧ x6_i < ((p0_a.len : Nat) : Int) ∧
 ∃ x9 : SV, H.rd h7 (Addr.add (Addr.add b8 ((x6_i).toNat * 1)) 0) (Value.slice x9.a x9.len x9.cap) ∧
 ∃ b10 : Addr, p1_b.a = some b10 ∧ 0 ≤ x6_i ∧ x6_i < ((p1_b.len : Nat) : Int) ∧
 ∃ x11 : SV, H.rd h7 (Addr.add (Addr.add b10 ((x6_i).toNat * 1)) 0) (Value.slice x11.a x11.len x11.cap) ∧
 SemCall Go.Proofs.Tryz.prog 35 (List.toArray [(Value.slice x9.a x9.len x9.cap), (Value.slice x11.a x11.len x11.cap)]) h7 fun v12 h13 =>
 ∃ x14 : Bool, v12 = (Value.bool x14) ∧
 VIf (!x14) (
 VRet h13 (Value.bool false) post) (
 In64 (x6_i + (1 : Int)) ∧
 ∃ m4, m4 < n3 ∧ (∃ h15, Gh h13 h15 ∧ I2 m4 (x6_i + (1 : Int)) h15))) (
 (∃ h16, Gh h7 h16 ∧ R1 h16))

def f36_sem (p0_a : SV) (p1_b : SV) (h0 : H) (post : Value → H → Prop) : Prop :=
 VIf (((p0_a.len : Nat) : Int) != ((p1_b.len : Nat) : Int)) (
 VRet h0 (Value.bool false) post) (
 ∃ R1 : H → Prop, (
 ∃ I2 : Nat → Int → H → Prop, (∃ n3, (∃ h5, Gh h0 h5 ∧ I2 n3 (0 : Int) h5)) ∧
 ∀ (n3 : Nat) (_ : F) (x6_i : Int) (h7 : H), I2 n3 x6_i h7 →
 f36_L1 p0_a p1_b post R1 I2 n3 x6_i h7) ∧
 ∀ (_ : F) (h17 : H), R1 h17 →
 VRet h17 (Value.bool true) post)

def f36_hint : Hint := (.node .leaf (.node .leaf (.node (.node .leaf (.join [] (.node (.loop [(5, .int)] (.node .leaf (.node (.node (.node (.tail 8) .leaf) .leaf) .leaf))) .leaf))) .leaf)))

theorem f36_eq (p0_a : SV) (p1_b : SV) (h0 : H) (post : Value → H → Prop) : exec Tryz.prog (bodyOf Tryz.f36) f36_hint (retQ Tryz.prog Tryz.f36 post) (F0 [(Value.slice p0_a.a p0_a.len p0_a.cap), (Value.slice p1_b.a p1_b.len p1_b.cap)]) h0 = f36_sem p0_a p1_b h0 post := by kernel_rfl

set_option maxRecDepth 20000 in
theorem f36_call (p0_a : SV) (p1_b : SV) (h0 : H) (post : Value → H → Prop) (hx : f36_sem p0_a p1_b h0 post) : SemCall Tryz.prog 36 (List.toArray [(Value.slice p0_a.a p0_a.len p0_a.cap), (Value.slice p1_b.a p1_b.len p1_b.cap)]) h0 post :=
 sem_of_exec (g := f36_hint) mixed Tryz.func36 (bodyOf_eq (by kernel_rfl)) (by kernel_rfl) ((f36_eq p0_a p1_b h0 post).mpr hx)

/- latchgarth/book.fresh -/
def f37_L1 (r1 : Nat) (r9 : Nat) (x12 : SV) (R13 : H → Prop) (I14 : Nat → Int → H → Prop) (n15 : Nat) (x18 : Int) (h19 : H) : Prop :=
 VIf (decide (x18 < ((x12.len : Nat) : Int))) (
 ∃ x20 : SV, H.rd h19 (Addr.add (Addr.add (Addr.mk r9 0 none) 1) 0) (Value.slice x20.a x20.len x20.cap) ∧
 ∃ x21 : SV, H.rd h19 (Addr.add (Addr.add (Addr.mk r1 0 none) 1) 0) (Value.slice x21.a x21.len x21.cap) ∧
 ∃ b22 : Addr, x21.a = some b22 ∧ 0 ≤ x18 ∧ x18 < ((x21.len : Nat) : Int) ∧
 ∃ x23 : SV, H.rd h19 (Addr.add (Addr.add b22 ((x18).toNat * 1)) 0) (Value.slice x23.a x23.len x23.cap) ∧
 SemCall Go.Proofs.Tryz.prog 63 (List.toArray [(Value.slice x23.a x23.len x23.cap)]) h19 fun v24 h25 => OwnExt h19 h25 ∧
 ∃ x26 : SV, v24 = (Value.slice x26.a x26.len x26.cap) ∧
 H.new h25 [(Value.slice x26.a x26.len x26.cap)] fun r27 h28 =>
 appVC Go.Proofs.Tryz.prog 23 (Value.slice x20.a x20.len x20.cap) (Value.slice (some (Addr.mk r27 0 none)) 1 1) h28 fun x29 h30 =>
 H.wr h30 (Addr.add (Addr.mk r9 0 none) 1) ([(Value.slice x29.a x29.len x29.cap)]) fun h31 =>
 ∃ x32 : SV, H.rd h31 (Addr.add (Addr.add (Addr.mk r9 0 none) 2) 0) (Value.slice x32.a x32.len x32.cap) ∧
 ∃ x33 : SV, H.rd h31 (Addr.add (Addr.add (Addr.mk r1 0 none) 2) 0) (Value.slice x33.a x33.len x33.cap) ∧
 ∃ b34 : Addr, x33.a = some b34 ∧ 0 ≤ x18 ∧ x18 < ((x33.len : Nat) : Int) ∧
 ∃ x35 : SV, H.rd h31 (Addr.add (Addr.add b34 ((x18).toNat * 1)) 0) (Value.slice x35.a x35.len x35.cap) ∧
 SemCall Go.Proofs.Tryz.prog 63 (List.toArray [(Value.slice x35.a x35.len x35.cap)]) h31 fun v36 h37 => OwnExt h31 h37 ∧
 ∃ x38 : SV, v36 = (Value.slice x38.a x38.len x38.cap) ∧
 H.new h37 [(Value.slice x38.a x38.len x38.cap)] fun r39 h40 =>
 appVC Go.Proofs.Tryz.prog 23 (Value.slice x32.a x32.len x32.cap) (Value.slice (some (Addr.mk r39 0 none)) 1 1) h40 fun x41 h42 =>
 H.wr h42 (Addr.add (Addr.mk r9 0 none) 2) ([(Value.slice x41.a x41.len x41.cap)]) fun h43 =>
 In64 (x18 + (1 : Int)) ∧
 ∃ m16, m16 < n15 ∧ (∃ h44, Gh h43 h44 ∧ I14 m16 (x18 + (1 : Int)) h44)) (
 (∃ h45, Gh h19 h45 ∧ R13 h45))

def f37_sem (p0_0_b : SV) (p0_1_b : SV) (p0_2_b : SV) (h0 : H) (post : Value → H → Prop) : Prop :=
 H.new h0 [(Value.slice p0_0_b.a p0_0_b.len p0_0_b.cap), (Value.slice p0_1_b.a p0_1_b.len p0_1_b.cap), (Value.slice p0_2_b.a p0_2_b.len p0_2_b.cap)] fun r1 h2 =>
 H.new h2 [(Value.slice none 0 0), (Value.slice none 0 0), (Value.slice none 0 0)] fun r3 h4 =>
 ∃ x5 : SV, H.rd h4 (Addr.add (Addr.add (Addr.mk r1 0 none) 0) 0) (Value.slice x5.a x5.len x5.cap) ∧
 SemCall Go.Proofs.Tryz.prog 63 (List.toArray [(Value.slice x5.a x5.len x5.cap)]) h4 fun v6 h7 =>
 ∃ x8 : SV, v6 = (Value.slice x8.a x8.len x8.cap) ∧
 H.new h7 [(Value.slice none 0 0), (Value.slice none 0 0), (Value.slice none 0 0)] fun r9 h10 =>
 ([(Value.slice x8.a x8.len x8.cap), (Value.slice none 0 0), (Value.slice none 0 0)]).length = 3 ∧ (Program.underlying Go.Proofs.Tryz.prog 25).isSome = true ∧
 H.wr h10 (Addr.mk r9 0 none) ([(Value.slice x8.a x8.len x8.cap), (Value.slice none 0 0), (Value.slice none 0 0)]) fun h11 =>
 ∃ x12 : SV, H.rd h11 (Addr.add (Addr.add (Addr.mk r1 0 none) 1) 0) (Value.slice x12.a x12.len x12.cap) ∧
 ∃ R13 : H → Prop, (
 ∃ I14 : Nat → Int → H → Prop, (∃ n15, (∃ h17, Gh h11 h17 ∧ I14 n15 (0 : Int) h17)) ∧
 ∀ (n15 : Nat) (_ : F) (x18 : Int) (h19 : H), I14 n15 x18 h19 →
 f37_L1 r1 r9 x12 R13 I14 n15 x18 h19) ∧
 ∀ (_ : F) (h46 : H), R13 h46 →
 ∃ x47 : SV, H.rd h46 (Addr.add (Addr.mk r9 0 none) 0) (Value.slice x47.a x47.len x47.cap) ∧
 ∃ x48 : SV, H.rd h46 (Addr.add (Addr.mk r9 0 none) 1) (Value.slice x48.a x48.len x48.cap) ∧
 ∃ x49 : SV, H.rd h46 (Addr.add (Addr.mk r9 0 none) 2) (Value.slice x49.a x49.len x49.cap) ∧
 ([(Value.slice x47.a x47.len x47.cap), (Value.slice x48.a x48.len x48.cap), (Value.slice x49.a x49.len x49.cap)]).length = 3 ∧ (Program.underlying Go.Proofs.Tryz.prog 25).isSome = true ∧
 H.wr h46 (Addr.mk r3 0 none) ([(Value.slice x47.a x47.len x47.cap), (Value.slice x48.a x48.len x48.cap), (Value.slice x49.a x49.len x49.cap)]) fun h50 =>
 ∃ x51 : SV, H.rd h50 (Addr.add (Addr.mk r3 0 none) 0) (Value.slice x51.a x51.len x51.cap) ∧
 ∃ x52 : SV, H.rd h50 (Addr.add (Addr.mk r3 0 none) 1) (Value.slice x52.a x52.len x52.cap) ∧
 ∃ x53 : SV, H.rd h50 (Addr.add (Addr.mk r3 0 none) 2) (Value.slice x53.a x53.len x53.cap) ∧
 VRet h50 (Value.agg (List.toArray [(Value.slice x51.a x51.len x51.cap), (Value.slice x52.a x52.len x52.cap), (Value.slice x53.a x53.len x53.cap)])) post

def f37_hint : Hint := (.node .leaf (.node .leaf (.node (.node .leaf (.join [] (.node (.loop [(12, .int)] (.node .leaf (.node .leaf (.node (.node (.node .leaf (.node .lex .lex)) .leaf) .leaf)))) .leaf))) .leaf)))

theorem f37_eq (p0_0_b : SV) (p0_1_b : SV) (p0_2_b : SV) (h0 : H) (post : Value → H → Prop) : exec Tryz.prog (bodyOf Tryz.f37) f37_hint (retQ Tryz.prog Tryz.f37 post) (F0 [(Value.agg (List.toArray [(Value.slice p0_0_b.a p0_0_b.len p0_0_b.cap), (Value.slice p0_1_b.a p0_1_b.len p0_1_b.cap), (Value.slice p0_2_b.a p0_2_b.len p0_2_b.cap)]))]) h0 = f37_sem p0_0_b p0_1_b p0_2_b h0 post := by kernel_rfl

set_option maxRecDepth 20000 in
theorem f37_call (p0_0_b : SV) (p0_1_b : SV) (p0_2_b : SV) (h0 : H) (post : Value → H → Prop) (hx : f37_sem p0_0_b p0_1_b p0_2_b h0 post) : SemCall Tryz.prog 37 (List.toArray [(Value.agg (List.toArray [(Value.slice p0_0_b.a p0_0_b.len p0_0_b.cap), (Value.slice p0_1_b.a p0_1_b.len p0_1_b.cap), (Value.slice p0_2_b.a p0_2_b.len p0_2_b.cap)]))]) h0 post :=
 sem_of_exec (g := f37_hint) mixed Tryz.func37 (bodyOf_eq (by kernel_rfl)) (by kernel_rfl) ((f37_eq p0_0_b p0_1_b p0_2_b h0 post).mpr hx)

/- (*latchgarth/book.Book).do -/
def f38_L1 (p4_want : SV) (R24 : ByteArray → H → Prop) (I25 : Nat → ByteArray → Int → H → Prop) (n26 : Nat) (x29_s : ByteArray) (x30 : Int) (h31 : H) : Prop :=
 VIf (decide (x30 < ((p4_want.len : Nat) : Int))) (
 ∃ b32 : Addr, p4_want.a = some b32 ∧ 0 ≤ x30 ∧ x30 < ((p4_want.len : Nat) : Int) ∧
 ∃ x33 : Int, H.rd h31 (Addr.add (Addr.add b32 ((x30).toNat * 1)) 0) (Value.int .i64 x33) ∧
 SemCall Go.Proofs.Tryz.prog 64 (List.toArray [(Value.int .i64 x33)]) h31 fun v34 h35 =>
 ∃ x36 : ByteArray, v34 = (Value.string x36) ∧
 ((ByteArray.size (ByteArray.mk (List.toArray [(32 : UInt8)])) + ByteArray.size x36 : Nat) : Int) ≤ 9223372036854775807 ∧
 ((ByteArray.size x29_s + ByteArray.size ((ByteArray.mk (List.toArray [(32 : UInt8)])) ++ x36) : Nat) : Int) ≤ 9223372036854775807 ∧
 In64 (x30 + (1 : Int)) ∧
 ∃ m27, m27 < n26 ∧ (∃ h37, Gh h35 h37 ∧ I25 m27 (x29_s ++ ((ByteArray.mk (List.toArray [(32 : UInt8)])) ++ x36)) (x30 + (1 : Int)) h37)) (
 (∃ h38, Gh h31 h38 ∧ R24 x29_s h38))

def f38_J2 (p0_b : Option Addr) (post : Value → H → Prop) (x39_s : ByteArray) (h40 : H) : Prop :=
 ∃ a41 : Addr, p0_b = some a41 ∧
 ((ByteArray.size x39_s + ByteArray.size (ByteArray.mk (List.toArray [(32 : UInt8)])) : Nat) : Int) ≤ 9223372036854775807 ∧
 SemCall Go.Proofs.Tryz.prog 55 (List.toArray [(Value.string x39_s)]) h40 fun v42 h43 =>
 ∃ x44 : Int, v42 = (Value.int .i64 x44) ∧
 SemCall Go.Proofs.Tryz.prog 64 (List.toArray [(Value.int .i64 x44)]) h43 fun v45 h46 =>
 ∃ x47 : ByteArray, v45 = (Value.string x47) ∧
 ((ByteArray.size (x39_s ++ (ByteArray.mk (List.toArray [(32 : UInt8)]))) + ByteArray.size x47 : Nat) : Int) ≤ 9223372036854775807 ∧
 ((ByteArray.size ((x39_s ++ (ByteArray.mk (List.toArray [(32 : UInt8)]))) ++ x47) + ByteArray.size (ByteArray.mk (List.toArray [(10 : UInt8)])) : Nat) : Int) ≤ 9223372036854775807 ∧
 SemCall Go.Proofs.Tryz.prog 42 (List.toArray [(Value.pointer (some (Addr.add a41 3))), (Value.string (((x39_s ++ (ByteArray.mk (List.toArray [(32 : UInt8)]))) ++ x47) ++ (ByteArray.mk (List.toArray [(10 : UInt8)]))))]) h46 fun v48 h49 =>
 ∃ x50 : Int, ∃ x51 : Option (TypeId × Value), v48 = (Value.tuple (List.toArray [(Value.int .i64 x50), (errV x51)])) ∧
 ∃ a52 : Addr, p0_b = some a52 ∧
 ∃ x53 : Int, H.rd h49 (Addr.add (Addr.add a52 5) 0) (Value.int .i64 x53) ∧
 In64 (x53 + (1 : Int)) ∧
 ∃ a54 : Addr, p0_b = some a54 ∧
 H.wr h49 (Addr.add a54 5) ([(Value.int .i64 (x53 + (1 : Int)))]) fun h55 =>
 VRet h55 Value.nilIface post

def f38_sem (p0_b : Option Addr) (p1_word : ByteArray) (p3_t : Int) (p4_want : SV) (h0 : H) (post : Value → H → Prop) : Prop :=
 ∃ a1 : Addr, p0_b = some a1 ∧
 ∃ x2 : Int, H.rd h0 (Addr.add (Addr.add a1 5) 0) (Value.int .i64 x2) ∧
 VIf (x2 == (60 : Int)) (
 VRet h0 (Value.iface 57 (Value.int .i64 (4 : Int))) post) (
 ∃ a3 : Addr, p0_b = some a3 ∧
 ∃ x4 : SV, H.rd h0 (Addr.add (Addr.add a3 0) 0) (Value.slice x4.a x4.len x4.cap) ∧
 ∃ x5 : SV, H.rd h0 (Addr.add (Addr.add a3 0) 1) (Value.slice x5.a x5.len x5.cap) ∧
 ∃ x6 : SV, H.rd h0 (Addr.add (Addr.add a3 0) 2) (Value.slice x6.a x6.len x6.cap) ∧
 SemCall Go.Proofs.Tryz.prog 39 (List.toArray [(Value.agg (List.toArray [(Value.slice x4.a x4.len x4.cap), (Value.slice x5.a x5.len x5.cap), (Value.slice x6.a x6.len x6.cap)])), (Value.int .i64 p3_t), (Value.slice p4_want.a p4_want.len p4_want.cap)]) h0 fun v7 h8 =>
 ∃ x9 : SV, ∃ x10 : SV, ∃ x11 : SV, ∃ x12 : Option (TypeId × Value), v7 = (Value.tuple (List.toArray [(Value.agg (List.toArray [(Value.slice x9.a x9.len x9.cap), (Value.slice x10.a x10.len x10.cap), (Value.slice x11.a x11.len x11.cap)])), (errV x12)])) ∧
 H.new h8 [(Value.slice none 0 0), (Value.slice none 0 0), (Value.slice none 0 0)] fun r13 h14 =>
 ([(Value.slice x9.a x9.len x9.cap), (Value.slice x10.a x10.len x10.cap), (Value.slice x11.a x11.len x11.cap)]).length = 3 ∧ (Program.underlying Go.Proofs.Tryz.prog 25).isSome = true ∧
 H.wr h14 (Addr.mk r13 0 none) ([(Value.slice x9.a x9.len x9.cap), (Value.slice x10.a x10.len x10.cap), (Value.slice x11.a x11.len x11.cap)]) fun h15 =>
 isIfaceV (errV x12) = true ∧
 VIf (!(isNilV (errV x12))) (
 VRet h15 (errV x12) post) (
 ∃ x16 : SV, H.rd h15 (Addr.add (Addr.mk r13 0 none) 0) (Value.slice x16.a x16.len x16.cap) ∧
 ∃ x17 : SV, H.rd h15 (Addr.add (Addr.mk r13 0 none) 1) (Value.slice x17.a x17.len x17.cap) ∧
 ∃ x18 : SV, H.rd h15 (Addr.add (Addr.mk r13 0 none) 2) (Value.slice x18.a x18.len x18.cap) ∧
 ∃ a19 : Addr, p0_b = some a19 ∧
 ([(Value.slice x16.a x16.len x16.cap), (Value.slice x17.a x17.len x17.cap), (Value.slice x18.a x18.len x18.cap)]).length = 3 ∧ (Program.underlying Go.Proofs.Tryz.prog 25).isSome = true ∧
 H.wr h15 (Addr.add a19 0) ([(Value.slice x16.a x16.len x16.cap), (Value.slice x17.a x17.len x17.cap), (Value.slice x18.a x18.len x18.cap)]) fun h20 =>
 ((ByteArray.size p1_word + ByteArray.size (ByteArray.mk (List.toArray [(32 : UInt8)])) : Nat) : Int) ≤ 9223372036854775807 ∧
 SemCall Go.Proofs.Tryz.prog 64 (List.toArray [(Value.int .i64 p3_t)]) h20 fun v21 h22 =>
 ∃ x23 : ByteArray, v21 = (Value.string x23) ∧
 ((ByteArray.size (p1_word ++ (ByteArray.mk (List.toArray [(32 : UInt8)]))) + ByteArray.size x23 : Nat) : Int) ≤ 9223372036854775807 ∧
 ∃ R24 : ByteArray → H → Prop, (
 ∃ I25 : Nat → ByteArray → Int → H → Prop, (∃ n26, (∃ h28, Gh h22 h28 ∧ I25 n26 ((p1_word ++ (ByteArray.mk (List.toArray [(32 : UInt8)]))) ++ x23) (0 : Int) h28)) ∧
 ∀ (n26 : Nat) (_ : F) (x29_s : ByteArray) (x30 : Int) (h31 : H), I25 n26 x29_s x30 h31 →
 f38_L1 p4_want R24 I25 n26 x29_s x30 h31) ∧
 ∀ (_ : F) (x39_s : ByteArray) (h40 : H), R24 x39_s h40 →
 f38_J2 p0_b post x39_s h40))

def f38_hint : Hint := (.node .leaf (.node .leaf (.node .leaf (.node .leaf (.node .leaf (.node .leaf (.node (.node .leaf (.join [(13, .str)] (.node (.loop [(13, .str), (47, .int)] .leaf) .leaf))) (.node .lex .leaf))))))))

theorem f38_eq (p0_b : Option Addr) (p1_word : ByteArray) (p3_t : Int) (p4_want : SV) (h0 : H) (post : Value → H → Prop) : exec Tryz.prog (bodyOf Tryz.f38) f38_hint (retQ Tryz.prog Tryz.f38 post) (F0 [(Value.pointer p0_b), (Value.string p1_word), (Value.func (.func 39) #[] #[]), (Value.int .i64 p3_t), (Value.slice p4_want.a p4_want.len p4_want.cap)]) h0 = f38_sem p0_b p1_word p3_t p4_want h0 post := by kernel_rfl

set_option maxRecDepth 20000 in
theorem f38_call (p0_b : Option Addr) (p1_word : ByteArray) (p3_t : Int) (p4_want : SV) (h0 : H) (post : Value → H → Prop) (hx : f38_sem p0_b p1_word p3_t p4_want h0 post) : SemCall Tryz.prog 38 (List.toArray [(Value.pointer p0_b), (Value.string p1_word), (Value.func (.func 39) #[] #[]), (Value.int .i64 p3_t), (Value.slice p4_want.a p4_want.len p4_want.cap)]) h0 post :=
 sem_of_exec (g := f38_hint) mixed Tryz.func38 (bodyOf_eq (by kernel_rfl)) (by kernel_rfl) ((f38_eq p0_b p1_word p3_t p4_want h0 post).mpr hx)

/- latchgarth/bank.Ask -/
def f39_L1 (p1_t : Int) (p2_want : SV) (post : Value → H → Prop) (r1 : Nat) (r3 : Nat) (R15 : H → Prop) (I16 : Nat → Int → H → Prop) (n17 : Nat) (x20 : Int) (h21 : H) : Prop :=
 VIf (decide (x20 < ((p2_want.len : Nat) : Int))) (
 ∃ b22 : Addr, p2_want.a = some b22 ∧ 0 ≤ x20 ∧ x20 < ((p2_want.len : Nat) : Int) ∧
 ∃ x23 : Int, H.rd h21 (Addr.add (Addr.add b22 ((x20).toNat * 1)) 0) (Value.int .i64 x23) ∧
 ∃ x24 : SV, H.rd h21 (Addr.add (Addr.add (Addr.mk r1 0 none) 2) 0) (Value.slice x24.a x24.len x24.cap) ∧
 ∃ b25 : Addr, x24.a = some b25 ∧ 0 ≤ p1_t ∧ p1_t < ((x24.len : Nat) : Int) ∧
 ∃ x26 : SV, H.rd h21 (Addr.add (Addr.add b25 ((p1_t).toNat * 1)) 0) (Value.slice x26.a x26.len x26.cap) ∧
 ∃ b27 : Addr, x26.a = some b27 ∧ 0 ≤ x20 ∧ x20 < ((x26.len : Nat) : Int) ∧
 ∃ x28 : Int, H.rd h21 (Addr.add (Addr.add b27 ((x20).toNat * 1)) 0) (Value.int .i64 x28) ∧
 In64 (x28 + x23) ∧
 ∃ x29 : SV, H.rd h21 (Addr.add (Addr.add (Addr.mk r1 0 none) 1) 0) (Value.slice x29.a x29.len x29.cap) ∧
 ∃ b30 : Addr, x29.a = some b30 ∧ 0 ≤ p1_t ∧ p1_t < ((x29.len : Nat) : Int) ∧
 ∃ x31 : SV, H.rd h21 (Addr.add (Addr.add b30 ((p1_t).toNat * 1)) 0) (Value.slice x31.a x31.len x31.cap) ∧
 ∃ b32 : Addr, x31.a = some b32 ∧ 0 ≤ x20 ∧ x20 < ((x31.len : Nat) : Int) ∧
 ∃ x33 : Int, H.rd h21 (Addr.add (Addr.add b32 ((x20).toNat * 1)) 0) (Value.int .i64 x33) ∧
 VIf (decide ((x28 + x23) > x33)) (
 ([(Value.slice none 0 0), (Value.slice none 0 0), (Value.slice none 0 0)]).length = 3 ∧ (Program.underlying Go.Proofs.Tryz.prog 25).isSome = true ∧
 H.wr h21 (Addr.mk r3 0 none) ([(Value.slice none 0 0), (Value.slice none 0 0), (Value.slice none 0 0)]) fun h34 =>
 ∃ x35 : SV, H.rd h34 (Addr.add (Addr.mk r3 0 none) 0) (Value.slice x35.a x35.len x35.cap) ∧
 ∃ x36 : SV, H.rd h34 (Addr.add (Addr.mk r3 0 none) 1) (Value.slice x36.a x36.len x36.cap) ∧
 ∃ x37 : SV, H.rd h34 (Addr.add (Addr.mk r3 0 none) 2) (Value.slice x37.a x37.len x37.cap) ∧
 VRet h34 (Value.tuple (List.toArray [(Value.agg (List.toArray [(Value.slice x35.a x35.len x35.cap), (Value.slice x36.a x36.len x36.cap), (Value.slice x37.a x37.len x37.cap)])), (Value.iface 57 (Value.int .i64 (6 : Int)))])) post) (
 In64 (x20 + (1 : Int)) ∧
 ∃ m18, m18 < n17 ∧ (∃ h38, Gh h21 h38 ∧ I16 m18 (x20 + (1 : Int)) h38))) (
 (∃ h39, Gh h21 h39 ∧ R15 h39))

def f39_L2 (p2_want : SV) (post : Value → H → Prop) (r1 : Nat) (r3 : Nat) (R41 : H → Prop) (I42 : Nat → Int → H → Prop) (n43 : Nat) (x46 : Int) (h47 : H) : Prop :=
 VIf (decide (x46 < ((p2_want.len : Nat) : Int))) (
 ∃ b48 : Addr, p2_want.a = some b48 ∧ 0 ≤ x46 ∧ x46 < ((p2_want.len : Nat) : Int) ∧
 ∃ x49 : Int, H.rd h47 (Addr.add (Addr.add b48 ((x46).toNat * 1)) 0) (Value.int .i64 x49) ∧
 ∃ x50 : SV, H.rd h47 (Addr.add (Addr.add (Addr.mk r1 0 none) 0) 0) (Value.slice x50.a x50.len x50.cap) ∧
 ∃ b51 : Addr, x50.a = some b51 ∧ 0 ≤ x46 ∧ x46 < ((x50.len : Nat) : Int) ∧
 ∃ x52 : Int, H.rd h47 (Addr.add (Addr.add b51 ((x46).toNat * 1)) 0) (Value.int .i64 x52) ∧
 VIf (decide (x49 > x52)) (
 ([(Value.slice none 0 0), (Value.slice none 0 0), (Value.slice none 0 0)]).length = 3 ∧ (Program.underlying Go.Proofs.Tryz.prog 25).isSome = true ∧
 H.wr h47 (Addr.mk r3 0 none) ([(Value.slice none 0 0), (Value.slice none 0 0), (Value.slice none 0 0)]) fun h53 =>
 ∃ x54 : SV, H.rd h53 (Addr.add (Addr.mk r3 0 none) 0) (Value.slice x54.a x54.len x54.cap) ∧
 ∃ x55 : SV, H.rd h53 (Addr.add (Addr.mk r3 0 none) 1) (Value.slice x55.a x55.len x55.cap) ∧
 ∃ x56 : SV, H.rd h53 (Addr.add (Addr.mk r3 0 none) 2) (Value.slice x56.a x56.len x56.cap) ∧
 VRet h53 (Value.tuple (List.toArray [(Value.agg (List.toArray [(Value.slice x54.a x54.len x54.cap), (Value.slice x55.a x55.len x55.cap), (Value.slice x56.a x56.len x56.cap)])), (Value.iface 57 (Value.int .i64 (5 : Int)))])) post) (
 In64 (x46 + (1 : Int)) ∧
 ∃ m44, m44 < n43 ∧ (∃ h57, Gh h47 h57 ∧ I42 m44 (x46 + (1 : Int)) h57))) (
 (∃ h58, Gh h47 h58 ∧ R41 h58))

def f39_J3 (p1_t : Int) (p2_want : SV) (post : Value → H → Prop) (r1 : Nat) (r3 : Nat) (h59 : H) : Prop :=
 ∃ x60 : SV, H.rd h59 (Addr.add (Addr.mk r1 0 none) 0) (Value.slice x60.a x60.len x60.cap) ∧
 ∃ x61 : SV, H.rd h59 (Addr.add (Addr.mk r1 0 none) 1) (Value.slice x61.a x61.len x61.cap) ∧
 ∃ x62 : SV, H.rd h59 (Addr.add (Addr.mk r1 0 none) 2) (Value.slice x62.a x62.len x62.cap) ∧
 SemCall Go.Proofs.Tryz.prog 66 (List.toArray [(Value.agg (List.toArray [(Value.slice x60.a x60.len x60.cap), (Value.slice x61.a x61.len x61.cap), (Value.slice x62.a x62.len x62.cap)])), (Value.int .i64 p1_t), (Value.slice p2_want.a p2_want.len p2_want.cap), (Value.int .i64 (1 : Int))]) h59 fun v63 h64 =>
 ∃ x65 : SV, ∃ x66 : SV, ∃ x67 : SV, v63 = (Value.agg (List.toArray [(Value.slice x65.a x65.len x65.cap), (Value.slice x66.a x66.len x66.cap), (Value.slice x67.a x67.len x67.cap)])) ∧
 H.new h64 [(Value.slice none 0 0), (Value.slice none 0 0), (Value.slice none 0 0)] fun r68 h69 =>
 ([(Value.slice x65.a x65.len x65.cap), (Value.slice x66.a x66.len x66.cap), (Value.slice x67.a x67.len x67.cap)]).length = 3 ∧ (Program.underlying Go.Proofs.Tryz.prog 25).isSome = true ∧
 H.wr h69 (Addr.mk r68 0 none) ([(Value.slice x65.a x65.len x65.cap), (Value.slice x66.a x66.len x66.cap), (Value.slice x67.a x67.len x67.cap)]) fun h70 =>
 ∃ x71 : SV, H.rd h70 (Addr.add (Addr.mk r68 0 none) 0) (Value.slice x71.a x71.len x71.cap) ∧
 ∃ x72 : SV, H.rd h70 (Addr.add (Addr.mk r68 0 none) 1) (Value.slice x72.a x72.len x72.cap) ∧
 ∃ x73 : SV, H.rd h70 (Addr.add (Addr.mk r68 0 none) 2) (Value.slice x73.a x73.len x73.cap) ∧
 SemCall Go.Proofs.Tryz.prog 67 (List.toArray [(Value.agg (List.toArray [(Value.slice x71.a x71.len x71.cap), (Value.slice x72.a x72.len x72.cap), (Value.slice x73.a x73.len x73.cap)]))]) h70 fun v74 h75 =>
 ∃ x76 : SV, ∃ x77 : Bool, v74 = (Value.tuple (List.toArray [(Value.slice x76.a x76.len x76.cap), (Value.bool x77)])) ∧
 VIf (!x77) (
 ([(Value.slice none 0 0), (Value.slice none 0 0), (Value.slice none 0 0)]).length = 3 ∧ (Program.underlying Go.Proofs.Tryz.prog 25).isSome = true ∧
 H.wr h75 (Addr.mk r3 0 none) ([(Value.slice none 0 0), (Value.slice none 0 0), (Value.slice none 0 0)]) fun h78 =>
 ∃ x79 : SV, H.rd h78 (Addr.add (Addr.mk r3 0 none) 0) (Value.slice x79.a x79.len x79.cap) ∧
 ∃ x80 : SV, H.rd h78 (Addr.add (Addr.mk r3 0 none) 1) (Value.slice x80.a x80.len x80.cap) ∧
 ∃ x81 : SV, H.rd h78 (Addr.add (Addr.mk r3 0 none) 2) (Value.slice x81.a x81.len x81.cap) ∧
 VRet h78 (Value.tuple (List.toArray [(Value.agg (List.toArray [(Value.slice x79.a x79.len x79.cap), (Value.slice x80.a x80.len x80.cap), (Value.slice x81.a x81.len x81.cap)])), (Value.iface 57 (Value.int .i64 (7 : Int)))])) post) (
 ∃ x82 : SV, H.rd h75 (Addr.add (Addr.mk r68 0 none) 0) (Value.slice x82.a x82.len x82.cap) ∧
 ∃ x83 : SV, H.rd h75 (Addr.add (Addr.mk r68 0 none) 1) (Value.slice x83.a x83.len x83.cap) ∧
 ∃ x84 : SV, H.rd h75 (Addr.add (Addr.mk r68 0 none) 2) (Value.slice x84.a x84.len x84.cap) ∧
 ([(Value.slice x82.a x82.len x82.cap), (Value.slice x83.a x83.len x83.cap), (Value.slice x84.a x84.len x84.cap)]).length = 3 ∧ (Program.underlying Go.Proofs.Tryz.prog 25).isSome = true ∧
 H.wr h75 (Addr.mk r3 0 none) ([(Value.slice x82.a x82.len x82.cap), (Value.slice x83.a x83.len x83.cap), (Value.slice x84.a x84.len x84.cap)]) fun h85 =>
 ∃ x86 : SV, H.rd h85 (Addr.add (Addr.mk r3 0 none) 0) (Value.slice x86.a x86.len x86.cap) ∧
 ∃ x87 : SV, H.rd h85 (Addr.add (Addr.mk r3 0 none) 1) (Value.slice x87.a x87.len x87.cap) ∧
 ∃ x88 : SV, H.rd h85 (Addr.add (Addr.mk r3 0 none) 2) (Value.slice x88.a x88.len x88.cap) ∧
 VRet h85 (Value.tuple (List.toArray [(Value.agg (List.toArray [(Value.slice x86.a x86.len x86.cap), (Value.slice x87.a x87.len x87.cap), (Value.slice x88.a x88.len x88.cap)])), Value.nilIface])) post)

def f39_sem (p0_0_b : SV) (p0_1_b : SV) (p0_2_b : SV) (p1_t : Int) (p2_want : SV) (h0 : H) (post : Value → H → Prop) : Prop :=
 H.new h0 [(Value.slice p0_0_b.a p0_0_b.len p0_0_b.cap), (Value.slice p0_1_b.a p0_1_b.len p0_1_b.cap), (Value.slice p0_2_b.a p0_2_b.len p0_2_b.cap)] fun r1 h2 =>
 H.new h2 [(Value.slice none 0 0), (Value.slice none 0 0), (Value.slice none 0 0)] fun r3 h4 =>
 ∃ x5 : SV, H.rd h4 (Addr.add (Addr.mk r1 0 none) 0) (Value.slice x5.a x5.len x5.cap) ∧
 ∃ x6 : SV, H.rd h4 (Addr.add (Addr.mk r1 0 none) 1) (Value.slice x6.a x6.len x6.cap) ∧
 ∃ x7 : SV, H.rd h4 (Addr.add (Addr.mk r1 0 none) 2) (Value.slice x7.a x7.len x7.cap) ∧
 SemCall Go.Proofs.Tryz.prog 65 (List.toArray [(Value.agg (List.toArray [(Value.slice x5.a x5.len x5.cap), (Value.slice x6.a x6.len x6.cap), (Value.slice x7.a x7.len x7.cap)])), (Value.int .i64 p1_t), (Value.slice p2_want.a p2_want.len p2_want.cap)]) h4 fun v8 h9 =>
 ∃ x10 : Option (TypeId × Value), v8 = (errV x10) ∧
 isIfaceV (errV x10) = true ∧
 VIf (!(isNilV (errV x10))) (
 ([(Value.slice none 0 0), (Value.slice none 0 0), (Value.slice none 0 0)]).length = 3 ∧ (Program.underlying Go.Proofs.Tryz.prog 25).isSome = true ∧
 H.wr h9 (Addr.mk r3 0 none) ([(Value.slice none 0 0), (Value.slice none 0 0), (Value.slice none 0 0)]) fun h11 =>
 ∃ x12 : SV, H.rd h11 (Addr.add (Addr.mk r3 0 none) 0) (Value.slice x12.a x12.len x12.cap) ∧
 ∃ x13 : SV, H.rd h11 (Addr.add (Addr.mk r3 0 none) 1) (Value.slice x13.a x13.len x13.cap) ∧
 ∃ x14 : SV, H.rd h11 (Addr.add (Addr.mk r3 0 none) 2) (Value.slice x14.a x14.len x14.cap) ∧
 VRet h11 (Value.tuple (List.toArray [(Value.agg (List.toArray [(Value.slice x12.a x12.len x12.cap), (Value.slice x13.a x13.len x13.cap), (Value.slice x14.a x14.len x14.cap)])), (errV x10)])) post) (
 ∃ R15 : H → Prop, (
 ∃ I16 : Nat → Int → H → Prop, (∃ n17, (∃ h19, Gh h9 h19 ∧ I16 n17 (0 : Int) h19)) ∧
 ∀ (n17 : Nat) (_ : F) (x20 : Int) (h21 : H), I16 n17 x20 h21 →
 f39_L1 p1_t p2_want post r1 r3 R15 I16 n17 x20 h21) ∧
 ∀ (_ : F) (h40 : H), R15 h40 →
 ∃ R41 : H → Prop, (
 ∃ I42 : Nat → Int → H → Prop, (∃ n43, (∃ h45, Gh h40 h45 ∧ I42 n43 (0 : Int) h45)) ∧
 ∀ (n43 : Nat) (_ : F) (x46 : Int) (h47 : H), I42 n43 x46 h47 →
 f39_L2 p2_want post r1 r3 R41 I42 n43 x46 h47) ∧
 ∀ (_ : F) (h59 : H), R41 h59 →
 f39_J3 p1_t p2_want post r1 r3 h59)

def f39_hint : Hint := (.node .leaf (.node .leaf (.node (.node .leaf (.join [] (.node (.loop [(26, .int)] .leaf) .leaf))) (.node (.node .leaf (.join [] (.node (.loop [(55, .int)] .leaf) .leaf))) .leaf))))

theorem f39_eq (p0_0_b : SV) (p0_1_b : SV) (p0_2_b : SV) (p1_t : Int) (p2_want : SV) (h0 : H) (post : Value → H → Prop) : exec Tryz.prog (bodyOf Tryz.f39) f39_hint (retQ Tryz.prog Tryz.f39 post) (F0 [(Value.agg (List.toArray [(Value.slice p0_0_b.a p0_0_b.len p0_0_b.cap), (Value.slice p0_1_b.a p0_1_b.len p0_1_b.cap), (Value.slice p0_2_b.a p0_2_b.len p0_2_b.cap)])), (Value.int .i64 p1_t), (Value.slice p2_want.a p2_want.len p2_want.cap)]) h0 = f39_sem p0_0_b p0_1_b p0_2_b p1_t p2_want h0 post := by kernel_rfl

set_option maxRecDepth 20000 in
theorem f39_call (p0_0_b : SV) (p0_1_b : SV) (p0_2_b : SV) (p1_t : Int) (p2_want : SV) (h0 : H) (post : Value → H → Prop) (hx : f39_sem p0_0_b p0_1_b p0_2_b p1_t p2_want h0 post) : SemCall Tryz.prog 39 (List.toArray [(Value.agg (List.toArray [(Value.slice p0_0_b.a p0_0_b.len p0_0_b.cap), (Value.slice p0_1_b.a p0_1_b.len p0_1_b.cap), (Value.slice p0_2_b.a p0_2_b.len p0_2_b.cap)])), (Value.int .i64 p1_t), (Value.slice p2_want.a p2_want.len p2_want.cap)]) h0 post :=
 sem_of_exec (g := f39_hint) mixed Tryz.func39 (bodyOf_eq (by kernel_rfl)) (by kernel_rfl) ((f39_eq p0_0_b p0_1_b p0_2_b p1_t p2_want h0 post).mpr hx)

/- latchgarth/bank.Safe -/
def f48_sem (p0_0_b : SV) (p0_1_b : SV) (p0_2_b : SV) (h0 : H) (post : Value → H → Prop) : Prop :=
 H.new h0 [(Value.slice p0_0_b.a p0_0_b.len p0_0_b.cap), (Value.slice p0_1_b.a p0_1_b.len p0_1_b.cap), (Value.slice p0_2_b.a p0_2_b.len p0_2_b.cap)] fun r1 h2 =>
 ∃ x3 : SV, H.rd h2 (Addr.add (Addr.mk r1 0 none) 0) (Value.slice x3.a x3.len x3.cap) ∧
 ∃ x4 : SV, H.rd h2 (Addr.add (Addr.mk r1 0 none) 1) (Value.slice x4.a x4.len x4.cap) ∧
 ∃ x5 : SV, H.rd h2 (Addr.add (Addr.mk r1 0 none) 2) (Value.slice x5.a x5.len x5.cap) ∧
 SemCall Go.Proofs.Tryz.prog 80 (List.toArray [(Value.agg (List.toArray [(Value.slice x3.a x3.len x3.cap), (Value.slice x4.a x4.len x4.cap), (Value.slice x5.a x5.len x5.cap)]))]) h2 fun v6 h7 =>
 ∃ x8 : Option (TypeId × Value), v6 = (errV x8) ∧
 isIfaceV (errV x8) = true ∧
 VIf (!(isNilV (errV x8))) (
 VRet h7 (Value.tuple (List.toArray [(Value.bool false), (Value.slice none 0 0), (errV x8)])) post) (
 ∃ x9 : SV, H.rd h7 (Addr.add (Addr.mk r1 0 none) 0) (Value.slice x9.a x9.len x9.cap) ∧
 ∃ x10 : SV, H.rd h7 (Addr.add (Addr.mk r1 0 none) 1) (Value.slice x10.a x10.len x10.cap) ∧
 ∃ x11 : SV, H.rd h7 (Addr.add (Addr.mk r1 0 none) 2) (Value.slice x11.a x11.len x11.cap) ∧
 SemCall Go.Proofs.Tryz.prog 67 (List.toArray [(Value.agg (List.toArray [(Value.slice x9.a x9.len x9.cap), (Value.slice x10.a x10.len x10.cap), (Value.slice x11.a x11.len x11.cap)]))]) h7 fun v12 h13 =>
 ∃ x14 : SV, ∃ x15 : Bool, v12 = (Value.tuple (List.toArray [(Value.slice x14.a x14.len x14.cap), (Value.bool x15)])) ∧
 VRet h13 (Value.tuple (List.toArray [(Value.bool x15), (Value.slice x14.a x14.len x14.cap), Value.nilIface])) post)

def f48_hint : Hint := .leaf

theorem f48_eq (p0_0_b : SV) (p0_1_b : SV) (p0_2_b : SV) (h0 : H) (post : Value → H → Prop) : exec Tryz.prog (bodyOf Tryz.f48) f48_hint (retQ Tryz.prog Tryz.f48 post) (F0 [(Value.agg (List.toArray [(Value.slice p0_0_b.a p0_0_b.len p0_0_b.cap), (Value.slice p0_1_b.a p0_1_b.len p0_1_b.cap), (Value.slice p0_2_b.a p0_2_b.len p0_2_b.cap)]))]) h0 = f48_sem p0_0_b p0_1_b p0_2_b h0 post := by kernel_rfl

set_option maxRecDepth 20000 in
theorem f48_call (p0_0_b : SV) (p0_1_b : SV) (p0_2_b : SV) (h0 : H) (post : Value → H → Prop) (hx : f48_sem p0_0_b p0_1_b p0_2_b h0 post) : SemCall Tryz.prog 48 (List.toArray [(Value.agg (List.toArray [(Value.slice p0_0_b.a p0_0_b.len p0_0_b.cap), (Value.slice p0_1_b.a p0_1_b.len p0_1_b.cap), (Value.slice p0_2_b.a p0_2_b.len p0_2_b.cap)]))]) h0 post :=
 sem_of_exec (g := f48_hint) mixed Tryz.func48 (bodyOf_eq (by kernel_rfl)) (by kernel_rfl) ((f48_eq p0_0_b p0_1_b p0_2_b h0 post).mpr hx)

/- latchgarth/bank.Back -/
def f49_L1 (p1_t : Int) (p2_want : SV) (post : Value → H → Prop) (r1 : Nat) (r3 : Nat) (R15 : H → Prop) (I16 : Nat → Int → H → Prop) (n17 : Nat) (x20 : Int) (h21 : H) : Prop :=
 VIf (decide (x20 < ((p2_want.len : Nat) : Int))) (
 ∃ b22 : Addr, p2_want.a = some b22 ∧ 0 ≤ x20 ∧ x20 < ((p2_want.len : Nat) : Int) ∧
 ∃ x23 : Int, H.rd h21 (Addr.add (Addr.add b22 ((x20).toNat * 1)) 0) (Value.int .i64 x23) ∧
 ∃ x24 : SV, H.rd h21 (Addr.add (Addr.add (Addr.mk r1 0 none) 2) 0) (Value.slice x24.a x24.len x24.cap) ∧
 ∃ b25 : Addr, x24.a = some b25 ∧ 0 ≤ p1_t ∧ p1_t < ((x24.len : Nat) : Int) ∧
 ∃ x26 : SV, H.rd h21 (Addr.add (Addr.add b25 ((p1_t).toNat * 1)) 0) (Value.slice x26.a x26.len x26.cap) ∧
 ∃ b27 : Addr, x26.a = some b27 ∧ 0 ≤ x20 ∧ x20 < ((x26.len : Nat) : Int) ∧
 ∃ x28 : Int, H.rd h21 (Addr.add (Addr.add b27 ((x20).toNat * 1)) 0) (Value.int .i64 x28) ∧
 VIf (decide (x23 > x28)) (
 ([(Value.slice none 0 0), (Value.slice none 0 0), (Value.slice none 0 0)]).length = 3 ∧ (Program.underlying Go.Proofs.Tryz.prog 25).isSome = true ∧
 H.wr h21 (Addr.mk r3 0 none) ([(Value.slice none 0 0), (Value.slice none 0 0), (Value.slice none 0 0)]) fun h29 =>
 ∃ x30 : SV, H.rd h29 (Addr.add (Addr.mk r3 0 none) 0) (Value.slice x30.a x30.len x30.cap) ∧
 ∃ x31 : SV, H.rd h29 (Addr.add (Addr.mk r3 0 none) 1) (Value.slice x31.a x31.len x31.cap) ∧
 ∃ x32 : SV, H.rd h29 (Addr.add (Addr.mk r3 0 none) 2) (Value.slice x32.a x32.len x32.cap) ∧
 VRet h29 (Value.tuple (List.toArray [(Value.agg (List.toArray [(Value.slice x30.a x30.len x30.cap), (Value.slice x31.a x31.len x31.cap), (Value.slice x32.a x32.len x32.cap)])), (Value.iface 57 (Value.int .i64 (5 : Int)))])) post) (
 In64 (x20 + (1 : Int)) ∧
 ∃ m18, m18 < n17 ∧ (∃ h33, Gh h21 h33 ∧ I16 m18 (x20 + (1 : Int)) h33))) (
 (∃ h34, Gh h21 h34 ∧ R15 h34))

def f49_J2 (p1_t : Int) (p2_want : SV) (post : Value → H → Prop) (r1 : Nat) (r3 : Nat) (h35 : H) : Prop :=
 ∃ x36 : SV, H.rd h35 (Addr.add (Addr.mk r1 0 none) 0) (Value.slice x36.a x36.len x36.cap) ∧
 ∃ x37 : SV, H.rd h35 (Addr.add (Addr.mk r1 0 none) 1) (Value.slice x37.a x37.len x37.cap) ∧
 ∃ x38 : SV, H.rd h35 (Addr.add (Addr.mk r1 0 none) 2) (Value.slice x38.a x38.len x38.cap) ∧
 SemCall Go.Proofs.Tryz.prog 66 (List.toArray [(Value.agg (List.toArray [(Value.slice x36.a x36.len x36.cap), (Value.slice x37.a x37.len x37.cap), (Value.slice x38.a x38.len x38.cap)])), (Value.int .i64 p1_t), (Value.slice p2_want.a p2_want.len p2_want.cap), (Value.int .i64 (-1 : Int))]) h35 fun v39 h40 =>
 ∃ x41 : SV, ∃ x42 : SV, ∃ x43 : SV, v39 = (Value.agg (List.toArray [(Value.slice x41.a x41.len x41.cap), (Value.slice x42.a x42.len x42.cap), (Value.slice x43.a x43.len x43.cap)])) ∧
 ([(Value.slice x41.a x41.len x41.cap), (Value.slice x42.a x42.len x42.cap), (Value.slice x43.a x43.len x43.cap)]).length = 3 ∧ (Program.underlying Go.Proofs.Tryz.prog 25).isSome = true ∧
 H.wr h40 (Addr.mk r3 0 none) ([(Value.slice x41.a x41.len x41.cap), (Value.slice x42.a x42.len x42.cap), (Value.slice x43.a x43.len x43.cap)]) fun h44 =>
 ∃ x45 : SV, H.rd h44 (Addr.add (Addr.mk r3 0 none) 0) (Value.slice x45.a x45.len x45.cap) ∧
 ∃ x46 : SV, H.rd h44 (Addr.add (Addr.mk r3 0 none) 1) (Value.slice x46.a x46.len x46.cap) ∧
 ∃ x47 : SV, H.rd h44 (Addr.add (Addr.mk r3 0 none) 2) (Value.slice x47.a x47.len x47.cap) ∧
 VRet h44 (Value.tuple (List.toArray [(Value.agg (List.toArray [(Value.slice x45.a x45.len x45.cap), (Value.slice x46.a x46.len x46.cap), (Value.slice x47.a x47.len x47.cap)])), Value.nilIface])) post

def f49_sem (p0_0_b : SV) (p0_1_b : SV) (p0_2_b : SV) (p1_t : Int) (p2_want : SV) (h0 : H) (post : Value → H → Prop) : Prop :=
 H.new h0 [(Value.slice p0_0_b.a p0_0_b.len p0_0_b.cap), (Value.slice p0_1_b.a p0_1_b.len p0_1_b.cap), (Value.slice p0_2_b.a p0_2_b.len p0_2_b.cap)] fun r1 h2 =>
 H.new h2 [(Value.slice none 0 0), (Value.slice none 0 0), (Value.slice none 0 0)] fun r3 h4 =>
 ∃ x5 : SV, H.rd h4 (Addr.add (Addr.mk r1 0 none) 0) (Value.slice x5.a x5.len x5.cap) ∧
 ∃ x6 : SV, H.rd h4 (Addr.add (Addr.mk r1 0 none) 1) (Value.slice x6.a x6.len x6.cap) ∧
 ∃ x7 : SV, H.rd h4 (Addr.add (Addr.mk r1 0 none) 2) (Value.slice x7.a x7.len x7.cap) ∧
 SemCall Go.Proofs.Tryz.prog 65 (List.toArray [(Value.agg (List.toArray [(Value.slice x5.a x5.len x5.cap), (Value.slice x6.a x6.len x6.cap), (Value.slice x7.a x7.len x7.cap)])), (Value.int .i64 p1_t), (Value.slice p2_want.a p2_want.len p2_want.cap)]) h4 fun v8 h9 =>
 ∃ x10 : Option (TypeId × Value), v8 = (errV x10) ∧
 isIfaceV (errV x10) = true ∧
 VIf (!(isNilV (errV x10))) (
 ([(Value.slice none 0 0), (Value.slice none 0 0), (Value.slice none 0 0)]).length = 3 ∧ (Program.underlying Go.Proofs.Tryz.prog 25).isSome = true ∧
 H.wr h9 (Addr.mk r3 0 none) ([(Value.slice none 0 0), (Value.slice none 0 0), (Value.slice none 0 0)]) fun h11 =>
 ∃ x12 : SV, H.rd h11 (Addr.add (Addr.mk r3 0 none) 0) (Value.slice x12.a x12.len x12.cap) ∧
 ∃ x13 : SV, H.rd h11 (Addr.add (Addr.mk r3 0 none) 1) (Value.slice x13.a x13.len x13.cap) ∧
 ∃ x14 : SV, H.rd h11 (Addr.add (Addr.mk r3 0 none) 2) (Value.slice x14.a x14.len x14.cap) ∧
 VRet h11 (Value.tuple (List.toArray [(Value.agg (List.toArray [(Value.slice x12.a x12.len x12.cap), (Value.slice x13.a x13.len x13.cap), (Value.slice x14.a x14.len x14.cap)])), (errV x10)])) post) (
 ∃ R15 : H → Prop, (
 ∃ I16 : Nat → Int → H → Prop, (∃ n17, (∃ h19, Gh h9 h19 ∧ I16 n17 (0 : Int) h19)) ∧
 ∀ (n17 : Nat) (_ : F) (x20 : Int) (h21 : H), I16 n17 x20 h21 →
 f49_L1 p1_t p2_want post r1 r3 R15 I16 n17 x20 h21) ∧
 ∀ (_ : F) (h35 : H), R15 h35 →
 f49_J2 p1_t p2_want post r1 r3 h35)

def f49_hint : Hint := (.node .leaf (.node .leaf (.node (.node .leaf (.join [] (.node (.loop [(21, .int)] .leaf) .leaf))) .leaf)))

theorem f49_eq (p0_0_b : SV) (p0_1_b : SV) (p0_2_b : SV) (p1_t : Int) (p2_want : SV) (h0 : H) (post : Value → H → Prop) : exec Tryz.prog (bodyOf Tryz.f49) f49_hint (retQ Tryz.prog Tryz.f49 post) (F0 [(Value.agg (List.toArray [(Value.slice p0_0_b.a p0_0_b.len p0_0_b.cap), (Value.slice p0_1_b.a p0_1_b.len p0_1_b.cap), (Value.slice p0_2_b.a p0_2_b.len p0_2_b.cap)])), (Value.int .i64 p1_t), (Value.slice p2_want.a p2_want.len p2_want.cap)]) h0 = f49_sem p0_0_b p0_1_b p0_2_b p1_t p2_want h0 post := by kernel_rfl

set_option maxRecDepth 20000 in
theorem f49_call (p0_0_b : SV) (p0_1_b : SV) (p0_2_b : SV) (p1_t : Int) (p2_want : SV) (h0 : H) (post : Value → H → Prop) (hx : f49_sem p0_0_b p0_1_b p0_2_b p1_t p2_want h0 post) : SemCall Tryz.prog 49 (List.toArray [(Value.agg (List.toArray [(Value.slice p0_0_b.a p0_0_b.len p0_0_b.cap), (Value.slice p0_1_b.a p0_1_b.len p0_1_b.cap), (Value.slice p0_2_b.a p0_2_b.len p0_2_b.cap)])), (Value.int .i64 p1_t), (Value.slice p2_want.a p2_want.len p2_want.cap)]) h0 post :=
 sem_of_exec (g := f49_hint) mixed Tryz.func49 (bodyOf_eq (by kernel_rfl)) (by kernel_rfl) ((f49_eq p0_0_b p0_1_b p0_2_b p1_t p2_want h0 post).mpr hx)

/- latchgarth/latchgarthref4.Bank -/
def f58_L1 (post : Value → H → Prop) (r1 : Nat) (x3 : SV) (R12 : H → Prop) (I13 : Nat → Int → H → Prop) (n14 : Nat) (x17_t : Int) (h18 : H) : Prop :=
 ∃ x19 : SV, H.rd h18 (Addr.add (Addr.add (Addr.mk r1 0 none) 1) 0) (Value.slice x19.a x19.len x19.cap) ∧
 VIf (decide (x17_t < ((x19.len : Nat) : Int))) (
 ∃ R20 : Bool → H → Prop, (
 ∃ x21 : SV, H.rd h18 (Addr.add (Addr.add (Addr.mk r1 0 none) 1) 0) (Value.slice x21.a x21.len x21.cap) ∧
 ∃ b22 : Addr, x21.a = some b22 ∧ 0 ≤ x17_t ∧ x17_t < ((x21.len : Nat) : Int) ∧
 ∃ x23 : SV, H.rd h18 (Addr.add (Addr.add b22 ((x17_t).toNat * 1)) 0) (Value.slice x23.a x23.len x23.cap) ∧
 VIf (((x23.len : Nat) : Int) != ((x3.len : Nat) : Int)) (
 (∃ h24, Gh h18 h24 ∧ R20 true h24)) (
 ∃ x25 : SV, H.rd h18 (Addr.add (Addr.add (Addr.mk r1 0 none) 2) 0) (Value.slice x25.a x25.len x25.cap) ∧
 ∃ b26 : Addr, x25.a = some b26 ∧ 0 ≤ x17_t ∧ x17_t < ((x25.len : Nat) : Int) ∧
 ∃ x27 : SV, H.rd h18 (Addr.add (Addr.add b26 ((x17_t).toNat * 1)) 0) (Value.slice x27.a x27.len x27.cap) ∧
 (∃ h28, Gh h18 h28 ∧ R20 (((x27.len : Nat) : Int) != ((x3.len : Nat) : Int)) h28))) ∧
 ∀ (_ : F) (x29 : Bool) (h30 : H), R20 x29 h30 →
 VIf x29 (
 VRet h30 (Value.int .i64 (3 : Int)) post) (
 In64 (x17_t + (1 : Int)) ∧
 ∃ m15, m15 < n14 ∧ (∃ h31, Gh h30 h31 ∧ I13 m15 (x17_t + (1 : Int)) h31))) (
 (∃ h32, Gh h18 h32 ∧ R12 h32))

def f58_L2 (post : Value → H → Prop) (r1 : Nat) (x3 : SV) (R34 : H → Prop) (I35 : Nat → Int → H → Prop) (n36 : Nat) (x39_k : Int) (h40 : H) : Prop :=
 VIf (decide (x39_k < ((x3.len : Nat) : Int))) (
 ∃ x41 : SV, H.rd h40 (Addr.add (Addr.add (Addr.mk r1 0 none) 0) 0) (Value.slice x41.a x41.len x41.cap) ∧
 ∃ b42 : Addr, x41.a = some b42 ∧ 0 ≤ x39_k ∧ x39_k < ((x41.len : Nat) : Int) ∧
 ∃ x43 : Int, H.rd h40 (Addr.add (Addr.add b42 ((x39_k).toNat * 1)) 0) (Value.int .i64 x43) ∧
 SemCall Go.Proofs.Tryz.prog 90 (List.toArray [(Value.int .i64 x43), (Value.int .i64 0), (Value.int .i64 (1000 : Int))]) h40 fun v44 h45 =>
 ∃ x46 : Bool, v44 = (Value.bool x46) ∧
 VIf (!x46) (
 VRet h45 (Value.int .i64 (1 : Int)) post) (
 In64 (x39_k + (1 : Int)) ∧
 ∃ m37, m37 < n36 ∧ (∃ h47, Gh h45 h47 ∧ I35 m37 (x39_k + (1 : Int)) h47))) (
 (∃ h48, Gh h40 h48 ∧ R34 h48))

def f58_L3 (post : Value → H → Prop) (r1 : Nat) (x3 : SV) (x55_t : Int) (R59 : H → Prop) (I60 : Nat → Int → H → Prop) (n61 : Nat) (x64_k : Int) (h65 : H) : Prop :=
 VIf (decide (x64_k < ((x3.len : Nat) : Int))) (
 ∃ R66 : Bool → H → Prop, (
 ∃ x67 : SV, H.rd h65 (Addr.add (Addr.add (Addr.mk r1 0 none) 1) 0) (Value.slice x67.a x67.len x67.cap) ∧
 ∃ b68 : Addr, x67.a = some b68 ∧ 0 ≤ x55_t ∧ x55_t < ((x67.len : Nat) : Int) ∧
 ∃ x69 : SV, H.rd h65 (Addr.add (Addr.add b68 ((x55_t).toNat * 1)) 0) (Value.slice x69.a x69.len x69.cap) ∧
 ∃ b70 : Addr, x69.a = some b70 ∧ 0 ≤ x64_k ∧ x64_k < ((x69.len : Nat) : Int) ∧
 ∃ x71 : Int, H.rd h65 (Addr.add (Addr.add b70 ((x64_k).toNat * 1)) 0) (Value.int .i64 x71) ∧
 SemCall Go.Proofs.Tryz.prog 90 (List.toArray [(Value.int .i64 x71), (Value.int .i64 0), (Value.int .i64 (1000 : Int))]) h65 fun v72 h73 =>
 ∃ x74 : Bool, v72 = (Value.bool x74) ∧
 VIf (!x74) (
 (∃ h75, Gh h73 h75 ∧ R66 true h75)) (
 ∃ x76 : SV, H.rd h73 (Addr.add (Addr.add (Addr.mk r1 0 none) 2) 0) (Value.slice x76.a x76.len x76.cap) ∧
 ∃ b77 : Addr, x76.a = some b77 ∧ 0 ≤ x55_t ∧ x55_t < ((x76.len : Nat) : Int) ∧
 ∃ x78 : SV, H.rd h73 (Addr.add (Addr.add b77 ((x55_t).toNat * 1)) 0) (Value.slice x78.a x78.len x78.cap) ∧
 ∃ b79 : Addr, x78.a = some b79 ∧ 0 ≤ x64_k ∧ x64_k < ((x78.len : Nat) : Int) ∧
 ∃ x80 : Int, H.rd h73 (Addr.add (Addr.add b79 ((x64_k).toNat * 1)) 0) (Value.int .i64 x80) ∧
 ∃ x81 : SV, H.rd h73 (Addr.add (Addr.add (Addr.mk r1 0 none) 1) 0) (Value.slice x81.a x81.len x81.cap) ∧
 ∃ b82 : Addr, x81.a = some b82 ∧ 0 ≤ x55_t ∧ x55_t < ((x81.len : Nat) : Int) ∧
 ∃ x83 : SV, H.rd h73 (Addr.add (Addr.add b82 ((x55_t).toNat * 1)) 0) (Value.slice x83.a x83.len x83.cap) ∧
 ∃ b84 : Addr, x83.a = some b84 ∧ 0 ≤ x64_k ∧ x64_k < ((x83.len : Nat) : Int) ∧
 ∃ x85 : Int, H.rd h73 (Addr.add (Addr.add b84 ((x64_k).toNat * 1)) 0) (Value.int .i64 x85) ∧
 SemCall Go.Proofs.Tryz.prog 90 (List.toArray [(Value.int .i64 x80), (Value.int .i64 0), (Value.int .i64 x85)]) h73 fun v86 h87 =>
 ∃ x88 : Bool, v86 = (Value.bool x88) ∧
 (∃ h89, Gh h87 h89 ∧ R66 (!x88) h89))) ∧
 ∀ (_ : F) (x90 : Bool) (h91 : H), R66 x90 h91 →
 VIf x90 (
 VRet h91 (Value.int .i64 (1 : Int)) post) (
 In64 (x64_k + (1 : Int)) ∧
 ∃ m62, m62 < n61 ∧ (∃ h92, Gh h91 h92 ∧ I60 m62 (x64_k + (1 : Int)) h92))) (
 (∃ h93, Gh h65 h93 ∧ R59 h93))

def f58_L4 (post : Value → H → Prop) (r1 : Nat) (x3 : SV) (R50 : H → Prop) (I51 : Nat → Int → H → Prop) (n52 : Nat) (x55_t : Int) (h56 : H) : Prop :=
 ∃ x57 : SV, H.rd h56 (Addr.add (Addr.add (Addr.mk r1 0 none) 1) 0) (Value.slice x57.a x57.len x57.cap) ∧
 VIf (decide (x55_t < ((x57.len : Nat) : Int))) (
 ∃ R58 : H → Prop, (
 ∃ R59 : H → Prop, (
 ∃ I60 : Nat → Int → H → Prop, (∃ n61, (∃ h63, Gh h56 h63 ∧ I60 n61 (0 : Int) h63)) ∧
 ∀ (n61 : Nat) (_ : F) (x64_k : Int) (h65 : H), I60 n61 x64_k h65 →
 f58_L3 post r1 x3 x55_t R59 I60 n61 x64_k h65) ∧
 ∀ (_ : F) (h94 : H), R59 h94 →
 (∃ h95, Gh h94 h95 ∧ R58 h95)) ∧
 ∀ (_ : F) (h96 : H), R58 h96 →
 In64 (x55_t + (1 : Int)) ∧
 ∃ m53, m53 < n52 ∧ (∃ h97, Gh h96 h97 ∧ I51 m53 (x55_t + (1 : Int)) h97)) (
 (∃ h98, Gh h56 h98 ∧ R50 h98))

def f58_L5 (post : Value → H → Prop) (r1 : Nat) (x3 : SV) (x105_t : Int) (R109 : H → Prop) (I110 : Nat → Int → H → Prop) (n111 : Nat) (x114_k : Int) (h115 : H) : Prop :=
 VIf (decide (x114_k < ((x3.len : Nat) : Int))) (
 ∃ x116 : SV, H.rd h115 (Addr.add (Addr.add (Addr.mk r1 0 none) 1) 0) (Value.slice x116.a x116.len x116.cap) ∧
 ∃ b117 : Addr, x116.a = some b117 ∧ 0 ≤ x105_t ∧ x105_t < ((x116.len : Nat) : Int) ∧
 ∃ x118 : SV, H.rd h115 (Addr.add (Addr.add b117 ((x105_t).toNat * 1)) 0) (Value.slice x118.a x118.len x118.cap) ∧
 ∃ b119 : Addr, x118.a = some b119 ∧ 0 ≤ x114_k ∧ x114_k < ((x118.len : Nat) : Int) ∧
 ∃ x120 : Int, H.rd h115 (Addr.add (Addr.add b119 ((x114_k).toNat * 1)) 0) (Value.int .i64 x120) ∧
 ∃ x121 : SV, H.rd h115 (Addr.add (Addr.mk r1 0 none) 0) (Value.slice x121.a x121.len x121.cap) ∧
 ∃ x122 : SV, H.rd h115 (Addr.add (Addr.mk r1 0 none) 1) (Value.slice x122.a x122.len x122.cap) ∧
 ∃ x123 : SV, H.rd h115 (Addr.add (Addr.mk r1 0 none) 2) (Value.slice x123.a x123.len x123.cap) ∧
 SemCall Go.Proofs.Tryz.prog 91 (List.toArray [(Value.agg (List.toArray [(Value.slice x121.a x121.len x121.cap), (Value.slice x122.a x122.len x122.cap), (Value.slice x123.a x123.len x123.cap)])), (Value.int .i64 x114_k)]) h115 fun v124 h125 => OwnExt h115 h125 ∧
 ∃ x126 : Int, v124 = (Value.int .i64 x126) ∧
 VIf (decide (x120 > x126)) (
 VRet h125 (Value.int .i64 (6 : Int)) post) (
 In64 (x114_k + (1 : Int)) ∧
 ∃ m112, m112 < n111 ∧ (∃ h127, Gh h125 h127 ∧ I110 m112 (x114_k + (1 : Int)) h127))) (
 (∃ h128, Gh h115 h128 ∧ R109 h128))

def f58_L6 (post : Value → H → Prop) (r1 : Nat) (x3 : SV) (R100 : H → Prop) (I101 : Nat → Int → H → Prop) (n102 : Nat) (x105_t : Int) (h106 : H) : Prop :=
 ∃ x107 : SV, H.rd h106 (Addr.add (Addr.add (Addr.mk r1 0 none) 1) 0) (Value.slice x107.a x107.len x107.cap) ∧
 VIf (decide (x105_t < ((x107.len : Nat) : Int))) (
 ∃ R108 : H → Prop, (
 ∃ R109 : H → Prop, (
 ∃ I110 : Nat → Int → H → Prop, (∃ n111, (∃ h113, Gh h106 h113 ∧ I110 n111 (0 : Int) h113)) ∧
 ∀ (n111 : Nat) (_ : F) (x114_k : Int) (h115 : H), I110 n111 x114_k h115 →
 f58_L5 post r1 x3 x105_t R109 I110 n111 x114_k h115) ∧
 ∀ (_ : F) (h129 : H), R109 h129 →
 (∃ h130, Gh h129 h130 ∧ R108 h130)) ∧
 ∀ (_ : F) (h131 : H), R108 h131 →
 In64 (x105_t + (1 : Int)) ∧
 ∃ m103, m103 < n102 ∧ (∃ h132, Gh h131 h132 ∧ I101 m103 (x105_t + (1 : Int)) h132)) (
 (∃ h133, Gh h106 h133 ∧ R100 h133))

def f58_J7 (post : Value → H → Prop) (r1 : Nat) (x3 : SV) (h49 : H) : Prop :=
 ∃ R50 : H → Prop, (
 ∃ I51 : Nat → Int → H → Prop, (∃ n52, (∃ h54, Gh h49 h54 ∧ I51 n52 (0 : Int) h54)) ∧
 ∀ (n52 : Nat) (_ : F) (x55_t : Int) (h56 : H), I51 n52 x55_t h56 →
 f58_L4 post r1 x3 R50 I51 n52 x55_t h56) ∧
 ∀ (_ : F) (h99 : H), R50 h99 →
 ∃ R100 : H → Prop, (
 ∃ I101 : Nat → Int → H → Prop, (∃ n102, (∃ h104, Gh h99 h104 ∧ I101 n102 (0 : Int) h104)) ∧
 ∀ (n102 : Nat) (_ : F) (x105_t : Int) (h106 : H), I101 n102 x105_t h106 →
 f58_L6 post r1 x3 R100 I101 n102 x105_t h106) ∧
 ∀ (_ : F) (h134 : H), R100 h134 →
 VRet h134 (Value.int .i64 0) post

def f58_J8 (post : Value → H → Prop) (r1 : Nat) (x3 : SV) (x8 : Bool) (h9 : H) : Prop :=
 VIf x8 (
 VRet h9 (Value.int .i64 (4 : Int)) post) (
 ∃ x10 : SV, H.rd h9 (Addr.add (Addr.add (Addr.mk r1 0 none) 2) 0) (Value.slice x10.a x10.len x10.cap) ∧
 ∃ x11 : SV, H.rd h9 (Addr.add (Addr.add (Addr.mk r1 0 none) 1) 0) (Value.slice x11.a x11.len x11.cap) ∧
 VIf (((x10.len : Nat) : Int) != ((x11.len : Nat) : Int)) (
 VRet h9 (Value.int .i64 (3 : Int)) post) (
 ∃ R12 : H → Prop, (
 ∃ I13 : Nat → Int → H → Prop, (∃ n14, (∃ h16, Gh h9 h16 ∧ I13 n14 (0 : Int) h16)) ∧
 ∀ (n14 : Nat) (_ : F) (x17_t : Int) (h18 : H), I13 n14 x17_t h18 →
 f58_L1 post r1 x3 R12 I13 n14 x17_t h18) ∧
 ∀ (_ : F) (h33 : H), R12 h33 →
 ∃ R34 : H → Prop, (
 ∃ I35 : Nat → Int → H → Prop, (∃ n36, (∃ h38, Gh h33 h38 ∧ I35 n36 (0 : Int) h38)) ∧
 ∀ (n36 : Nat) (_ : F) (x39_k : Int) (h40 : H), I35 n36 x39_k h40 →
 f58_L2 post r1 x3 R34 I35 n36 x39_k h40) ∧
 ∀ (_ : F) (h49 : H), R34 h49 →
 f58_J7 post r1 x3 h49))

def f58_sem (p0_0_b : SV) (p0_1_b : SV) (p0_2_b : SV) (h0 : H) (post : Value → H → Prop) : Prop :=
 H.new h0 [(Value.slice p0_0_b.a p0_0_b.len p0_0_b.cap), (Value.slice p0_1_b.a p0_1_b.len p0_1_b.cap), (Value.slice p0_2_b.a p0_2_b.len p0_2_b.cap)] fun r1 h2 =>
 ∃ x3 : SV, H.rd h2 (Addr.add (Addr.add (Addr.mk r1 0 none) 0) 0) (Value.slice x3.a x3.len x3.cap) ∧
 VIf (((x3.len : Nat) : Int) == (0 : Int)) (
 VRet h2 (Value.int .i64 (5 : Int)) post) (
 ∃ R4 : Bool → H → Prop, (
 VIf (decide (((x3.len : Nat) : Int) > (3 : Int))) (
 (∃ h5, Gh h2 h5 ∧ R4 true h5)) (
 ∃ x6 : SV, H.rd h2 (Addr.add (Addr.add (Addr.mk r1 0 none) 1) 0) (Value.slice x6.a x6.len x6.cap) ∧
 (∃ h7, Gh h2 h7 ∧ R4 (decide (((x6.len : Nat) : Int) > (5 : Int))) h7))) ∧
 ∀ (_ : F) (x8 : Bool) (h9 : H), R4 x8 h9 →
 f58_J8 post r1 x3 x8 h9)

def f58_hint : Hint := (.node .leaf (.node .leaf (.node .leaf (.node (.node (.join [(22, .bool)] .leaf) .leaf) (.node .leaf (.node (.node .leaf (.join [] (.node (.loop [(4, .int)] (.node .leaf (.node (.node (.node (.join [(54, .bool)] .leaf) .leaf) .leaf) .leaf))) .leaf))) (.node (.node .leaf (.join [] (.node (.loop [(5, .int)] .leaf) .leaf))) (.node (.node .leaf (.join [] (.node (.loop [(6, .int)] (.node .leaf (.node (.join [] (.node (.node .leaf (.join [] (.node (.loop [(7, .int)] (.node .leaf (.node (.node (.node (.join [(108, .bool)] .lex) .leaf) .leaf) .leaf))) .leaf))) .leaf)) .leaf))) .leaf))) (.node (.node .leaf (.join [] (.node (.loop [(8, .int)] (.node .leaf (.node (.join [] (.node (.node .leaf (.join [] (.node (.loop [(9, .int)] (.node .leaf (.node (.node (.node .lex .leaf) .leaf) .leaf))) .leaf))) .leaf)) .leaf))) .leaf))) .leaf)))))))))

theorem f58_eq (p0_0_b : SV) (p0_1_b : SV) (p0_2_b : SV) (h0 : H) (post : Value → H → Prop) : exec Tryz.prog (bodyOf Tryz.f58) f58_hint (retQ Tryz.prog Tryz.f58 post) (F0 [(Value.agg (List.toArray [(Value.slice p0_0_b.a p0_0_b.len p0_0_b.cap), (Value.slice p0_1_b.a p0_1_b.len p0_1_b.cap), (Value.slice p0_2_b.a p0_2_b.len p0_2_b.cap)]))]) h0 = f58_sem p0_0_b p0_1_b p0_2_b h0 post := by kernel_rfl

set_option maxRecDepth 20000 in
theorem f58_call (p0_0_b : SV) (p0_1_b : SV) (p0_2_b : SV) (h0 : H) (post : Value → H → Prop) (hx : f58_sem p0_0_b p0_1_b p0_2_b h0 post) : SemCall Tryz.prog 58 (List.toArray [(Value.agg (List.toArray [(Value.slice p0_0_b.a p0_0_b.len p0_0_b.cap), (Value.slice p0_1_b.a p0_1_b.len p0_1_b.cap), (Value.slice p0_2_b.a p0_2_b.len p0_2_b.cap)]))]) h0 post :=
 sem_of_exec (g := f58_hint) mixed Tryz.func58 (bodyOf_eq (by kernel_rfl)) (by kernel_rfl) ((f58_eq p0_0_b p0_1_b p0_2_b h0 post).mpr hx)

/- latchgarth/latchgarthref4.Safe -/
def f59_sem (p0_0_b : SV) (p0_1_b : SV) (p0_2_b : SV) (h0 : H) (post : Value → H → Prop) : Prop :=
 H.new h0 [(Value.slice p0_0_b.a p0_0_b.len p0_0_b.cap), (Value.slice p0_1_b.a p0_1_b.len p0_1_b.cap), (Value.slice p0_2_b.a p0_2_b.len p0_2_b.cap)] fun r1 h2 =>
 ∃ x3 : SV, H.rd h2 (Addr.add (Addr.mk r1 0 none) 0) (Value.slice x3.a x3.len x3.cap) ∧
 ∃ x4 : SV, H.rd h2 (Addr.add (Addr.mk r1 0 none) 1) (Value.slice x4.a x4.len x4.cap) ∧
 ∃ x5 : SV, H.rd h2 (Addr.add (Addr.mk r1 0 none) 2) (Value.slice x5.a x5.len x5.cap) ∧
 SemCall Go.Proofs.Tryz.prog 92 (List.toArray [(Value.agg (List.toArray [(Value.slice x3.a x3.len x3.cap), (Value.slice x4.a x4.len x4.cap), (Value.slice x5.a x5.len x5.cap)])), (Value.slice none 0 0)]) h2 fun v6 h7 =>
 ∃ x8 : SV, v6 = (Value.slice x8.a x8.len x8.cap) ∧
 ∃ x9 : SV, H.rd h7 (Addr.add (Addr.add (Addr.mk r1 0 none) 1) 0) (Value.slice x9.a x9.len x9.cap) ∧
 VIf (decide (((x8.len : Nat) : Int) < ((x9.len : Nat) : Int))) (
 VRet h7 (Value.tuple (List.toArray [(Value.slice none 0 0), (Value.bool false)])) post) (
 VRet h7 (Value.tuple (List.toArray [(Value.slice x8.a x8.len x8.cap), (Value.bool true)])) post)

def f59_hint : Hint := .leaf

theorem f59_eq (p0_0_b : SV) (p0_1_b : SV) (p0_2_b : SV) (h0 : H) (post : Value → H → Prop) : exec Tryz.prog (bodyOf Tryz.f59) f59_hint (retQ Tryz.prog Tryz.f59 post) (F0 [(Value.agg (List.toArray [(Value.slice p0_0_b.a p0_0_b.len p0_0_b.cap), (Value.slice p0_1_b.a p0_1_b.len p0_1_b.cap), (Value.slice p0_2_b.a p0_2_b.len p0_2_b.cap)]))]) h0 = f59_sem p0_0_b p0_1_b p0_2_b h0 post := by kernel_rfl

set_option maxRecDepth 20000 in
theorem f59_call (p0_0_b : SV) (p0_1_b : SV) (p0_2_b : SV) (h0 : H) (post : Value → H → Prop) (hx : f59_sem p0_0_b p0_1_b p0_2_b h0 post) : SemCall Tryz.prog 59 (List.toArray [(Value.agg (List.toArray [(Value.slice p0_0_b.a p0_0_b.len p0_0_b.cap), (Value.slice p0_1_b.a p0_1_b.len p0_1_b.cap), (Value.slice p0_2_b.a p0_2_b.len p0_2_b.cap)]))]) h0 post :=
 sem_of_exec (g := f59_hint) mixed Tryz.func59 (bodyOf_eq (by kernel_rfl)) (by kernel_rfl) ((f59_eq p0_0_b p0_1_b p0_2_b h0 post).mpr hx)

/- latchgarth/latchgarthref5.Sum -/
def f61_L1 (p0_s : ByteArray) (R1 : Int → H → Prop) (I2 : Nat → Int → Int → H → Prop) (n3 : Nat) (x6_n : Int) (x7_i : Int) (h8 : H) : Prop :=
 VIf (decide (x7_i ≥ (0 : Int))) (
 In64 (x7_i + (1 : Int)) ∧
 0 ≤ x7_i ∧ x7_i < ((ByteArray.size p0_s : Nat) : Int) ∧
 In64 ((((ByteArray.data p0_s).toList.getD (x7_i).toNat 0).toNat : Nat) : Int) ∧
 In64 ((x7_i + (1 : Int)) * ((((ByteArray.data p0_s).toList.getD (x7_i).toNat 0).toNat : Nat) : Int)) ∧
 In64 (x6_n + ((x7_i + (1 : Int)) * ((((ByteArray.data p0_s).toList.getD (x7_i).toNat 0).toNat : Nat) : Int))) ∧
 In64 (x7_i - (1 : Int)) ∧
 ∃ m4, m4 < n3 ∧ (∃ h9, Gh h8 h9 ∧ I2 m4 (x6_n + ((x7_i + (1 : Int)) * ((((ByteArray.data p0_s).toList.getD (x7_i).toNat 0).toNat : Nat) : Int))) (x7_i - (1 : Int)) h9)) (
 (∃ h10, Gh h8 h10 ∧ R1 x6_n h10))

def f61_sem (p0_s : ByteArray) (h0 : H) (post : Value → H → Prop) : Prop :=
 In64 (((ByteArray.size p0_s : Nat) : Int) - (1 : Int)) ∧
 ∃ R1 : Int → H → Prop, (
 ∃ I2 : Nat → Int → Int → H → Prop, (∃ n3, (∃ h5, Gh h0 h5 ∧ I2 n3 (0 : Int) (((ByteArray.size p0_s : Nat) : Int) - (1 : Int)) h5)) ∧
 ∀ (n3 : Nat) (_ : F) (x6_n : Int) (x7_i : Int) (h8 : H), I2 n3 x6_n x7_i h8 →
 f61_L1 p0_s R1 I2 n3 x6_n x7_i h8) ∧
 ∀ (_ : F) (x11_n : Int) (h12 : H), R1 x11_n h12 →
 (9973 : Int) ≠ 0 ∧
 VRet h12 (Value.int .i64 (Int.tmod x11_n (9973 : Int))) post

def f61_hint : Hint := (.node .leaf (.node .leaf (.node (.node .leaf (.join [(3, .int)] (.node (.loop [(3, .int), (4, .int)] .leaf) .leaf))) .leaf)))

theorem f61_eq (p0_s : ByteArray) (h0 : H) (post : Value → H → Prop) : exec Tryz.prog (bodyOf Tryz.f61) f61_hint (retQ Tryz.prog Tryz.f61 post) (F0 [(Value.string p0_s)]) h0 = f61_sem p0_s h0 post := by kernel_rfl

set_option maxRecDepth 20000 in
theorem f61_call (p0_s : ByteArray) (h0 : H) (post : Value → H → Prop) (hx : f61_sem p0_s h0 post) : SemCall Tryz.prog 61 (List.toArray [(Value.string p0_s)]) h0 post :=
 sem_of_exec (g := f61_hint) mixed Tryz.func61 (bodyOf_eq (by kernel_rfl)) (by kernel_rfl) ((f61_eq p0_s h0 post).mpr hx)

/- latchgarth/latchgarthref5.Put -/
def f62_L1 (p3_want : SV) (R48 : ByteArray → H → Prop) (I49 : Nat → ByteArray → Int → H → Prop) (n50 : Nat) (x53_s : ByteArray) (x54_k : Int) (h55 : H) : Prop :=
 VIf (decide (x54_k < ((p3_want.len : Nat) : Int))) (
 ((ByteArray.size x53_s + ByteArray.size (ByteArray.mk (List.toArray [(32 : UInt8)])) : Nat) : Int) ≤ 9223372036854775807 ∧
 ∃ b56 : Addr, p3_want.a = some b56 ∧ 0 ≤ x54_k ∧ x54_k < ((p3_want.len : Nat) : Int) ∧
 ∃ x57 : Int, H.rd h55 (Addr.add (Addr.add b56 ((x54_k).toNat * 1)) 0) (Value.int .i64 x57) ∧
 SemCall Go.Proofs.Tryz.prog 79 (List.toArray [(Value.int .i64 x57)]) h55 fun v58 h59 =>
 ∃ x60 : ByteArray, v58 = (Value.string x60) ∧
 ((ByteArray.size (x53_s ++ (ByteArray.mk (List.toArray [(32 : UInt8)]))) + ByteArray.size x60 : Nat) : Int) ≤ 9223372036854775807 ∧
 In64 (x54_k + (1 : Int)) ∧
 ∃ m51, m51 < n50 ∧ (∃ h61, Gh h59 h61 ∧ I49 m51 ((x53_s ++ (ByteArray.mk (List.toArray [(32 : UInt8)]))) ++ x60) (x54_k + (1 : Int)) h61)) (
 (∃ h62, Gh h55 h62 ∧ R48 x53_s h62))

def f62_J2 (post : Value → H → Prop) (r1 : Nat) (r3 : Nat) (r26 : Nat) (x63_s : ByteArray) (h64 : H) : Prop :=
 ∃ x65 : SV, H.rd h64 (Addr.add (Addr.mk r26 0 none) 0) (Value.slice x65.a x65.len x65.cap) ∧
 ∃ x66 : SV, H.rd h64 (Addr.add (Addr.mk r26 0 none) 1) (Value.slice x66.a x66.len x66.cap) ∧
 ∃ x67 : SV, H.rd h64 (Addr.add (Addr.mk r26 0 none) 2) (Value.slice x67.a x67.len x67.cap) ∧
 ([(Value.slice x65.a x65.len x65.cap), (Value.slice x66.a x66.len x66.cap), (Value.slice x67.a x67.len x67.cap)]).length = 3 ∧ (Program.underlying Go.Proofs.Tryz.prog 25).isSome = true ∧
 H.wr h64 (Addr.add (Addr.mk r1 0 none) 0) ([(Value.slice x65.a x65.len x65.cap), (Value.slice x66.a x66.len x66.cap), (Value.slice x67.a x67.len x67.cap)]) fun h68 =>
 ∃ x69 : ByteArray, H.rd h68 (Addr.add (Addr.add (Addr.mk r1 0 none) 3) 0) (Value.string x69) ∧
 ((ByteArray.size x69 + ByteArray.size x63_s : Nat) : Int) ≤ 9223372036854775807 ∧
 ((ByteArray.size (x69 ++ x63_s) + ByteArray.size (ByteArray.mk (List.toArray [(32 : UInt8)])) : Nat) : Int) ≤ 9223372036854775807 ∧
 SemCall Go.Proofs.Tryz.prog 61 (List.toArray [(Value.string x63_s)]) h68 fun v70 h71 => OwnExt h68 h71 ∧
 ∃ x72 : Int, v70 = (Value.int .i64 x72) ∧
 SemCall Go.Proofs.Tryz.prog 79 (List.toArray [(Value.int .i64 x72)]) h71 fun v73 h74 => OwnExt h71 h74 ∧
 ∃ x75 : ByteArray, v73 = (Value.string x75) ∧
 ((ByteArray.size ((x69 ++ x63_s) ++ (ByteArray.mk (List.toArray [(32 : UInt8)]))) + ByteArray.size x75 : Nat) : Int) ≤ 9223372036854775807 ∧
 ((ByteArray.size (((x69 ++ x63_s) ++ (ByteArray.mk (List.toArray [(32 : UInt8)]))) ++ x75) + ByteArray.size (ByteArray.mk (List.toArray [(10 : UInt8)])) : Nat) : Int) ≤ 9223372036854775807 ∧
 H.wr h74 (Addr.add (Addr.mk r1 0 none) 3) ([(Value.string ((((x69 ++ x63_s) ++ (ByteArray.mk (List.toArray [(32 : UInt8)]))) ++ x75) ++ (ByteArray.mk (List.toArray [(10 : UInt8)]))))]) fun h76 =>
 ∃ x77 : Int, H.rd h76 (Addr.add (Addr.add (Addr.mk r1 0 none) 4) 0) (Value.int .i64 x77) ∧
 In64 (x77 + (1 : Int)) ∧
 H.wr h76 (Addr.add (Addr.mk r1 0 none) 4) ([(Value.int .i64 (x77 + (1 : Int)))]) fun h78 =>
 ∃ x79 : SV, H.rd h78 (Addr.add (Addr.mk r1 0 none) 0) (Value.slice x79.a x79.len x79.cap) ∧
 ∃ x80 : SV, H.rd h78 (Addr.add (Addr.mk r1 0 none) 1) (Value.slice x80.a x80.len x80.cap) ∧
 ∃ x81 : SV, H.rd h78 (Addr.add (Addr.mk r1 0 none) 2) (Value.slice x81.a x81.len x81.cap) ∧
 ∃ x82 : ByteArray, H.rd h78 (Addr.add (Addr.mk r1 0 none) 3) (Value.string x82) ∧
 ∃ x83 : Int, H.rd h78 (Addr.add (Addr.mk r1 0 none) 4) (Value.int .i64 x83) ∧
 ([(Value.slice x79.a x79.len x79.cap), (Value.slice x80.a x80.len x80.cap), (Value.slice x81.a x81.len x81.cap), (Value.string x82), (Value.int .i64 x83)]).length = 5 ∧ (Program.underlying Go.Proofs.Tryz.prog 39).isSome = true ∧
 H.wr h78 (Addr.mk r3 0 none) ([(Value.slice x79.a x79.len x79.cap), (Value.slice x80.a x80.len x80.cap), (Value.slice x81.a x81.len x81.cap), (Value.string x82), (Value.int .i64 x83)]) fun h84 =>
 ∃ x85 : SV, H.rd h84 (Addr.add (Addr.mk r3 0 none) 0) (Value.slice x85.a x85.len x85.cap) ∧
 ∃ x86 : SV, H.rd h84 (Addr.add (Addr.mk r3 0 none) 1) (Value.slice x86.a x86.len x86.cap) ∧
 ∃ x87 : SV, H.rd h84 (Addr.add (Addr.mk r3 0 none) 2) (Value.slice x87.a x87.len x87.cap) ∧
 ∃ x88 : ByteArray, H.rd h84 (Addr.add (Addr.mk r3 0 none) 3) (Value.string x88) ∧
 ∃ x89 : Int, H.rd h84 (Addr.add (Addr.mk r3 0 none) 4) (Value.int .i64 x89) ∧
 VRet h84 (Value.tuple (List.toArray [(Value.agg (List.toArray [(Value.slice x85.a x85.len x85.cap), (Value.slice x86.a x86.len x86.cap), (Value.slice x87.a x87.len x87.cap), (Value.string x88), (Value.int .i64 x89)])), (Value.int .i64 0)])) post

def f62_sem (p0_0_b : SV) (p0_1_b : SV) (p0_2_b : SV) (p0_3_b : ByteArray) (p0_4_b : Int) (p1_back : Bool) (p2_t : Int) (p3_want : SV) (h0 : H) (post : Value → H → Prop) : Prop :=
 H.new h0 [(Value.slice p0_0_b.a p0_0_b.len p0_0_b.cap), (Value.slice p0_1_b.a p0_1_b.len p0_1_b.cap), (Value.slice p0_2_b.a p0_2_b.len p0_2_b.cap), (Value.string p0_3_b), (Value.int .i64 p0_4_b)] fun r1 h2 =>
 H.new h2 [(Value.slice none 0 0), (Value.slice none 0 0), (Value.slice none 0 0), (Value.string ByteArray.empty), (Value.int .i64 0)] fun r3 h4 =>
 ∃ x5 : Int, H.rd h4 (Addr.add (Addr.add (Addr.mk r1 0 none) 4) 0) (Value.int .i64 x5) ∧
 VIf (decide (x5 ≥ (60 : Int))) (
 ∃ x6 : SV, H.rd h4 (Addr.add (Addr.mk r1 0 none) 0) (Value.slice x6.a x6.len x6.cap) ∧
 ∃ x7 : SV, H.rd h4 (Addr.add (Addr.mk r1 0 none) 1) (Value.slice x7.a x7.len x7.cap) ∧
 ∃ x8 : SV, H.rd h4 (Addr.add (Addr.mk r1 0 none) 2) (Value.slice x8.a x8.len x8.cap) ∧
 ∃ x9 : ByteArray, H.rd h4 (Addr.add (Addr.mk r1 0 none) 3) (Value.string x9) ∧
 ∃ x10 : Int, H.rd h4 (Addr.add (Addr.mk r1 0 none) 4) (Value.int .i64 x10) ∧
 ([(Value.slice x6.a x6.len x6.cap), (Value.slice x7.a x7.len x7.cap), (Value.slice x8.a x8.len x8.cap), (Value.string x9), (Value.int .i64 x10)]).length = 5 ∧ (Program.underlying Go.Proofs.Tryz.prog 39).isSome = true ∧
 H.wr h4 (Addr.mk r3 0 none) ([(Value.slice x6.a x6.len x6.cap), (Value.slice x7.a x7.len x7.cap), (Value.slice x8.a x8.len x8.cap), (Value.string x9), (Value.int .i64 x10)]) fun h11 =>
 ∃ x12 : SV, H.rd h11 (Addr.add (Addr.mk r3 0 none) 0) (Value.slice x12.a x12.len x12.cap) ∧
 ∃ x13 : SV, H.rd h11 (Addr.add (Addr.mk r3 0 none) 1) (Value.slice x13.a x13.len x13.cap) ∧
 ∃ x14 : SV, H.rd h11 (Addr.add (Addr.mk r3 0 none) 2) (Value.slice x14.a x14.len x14.cap) ∧
 ∃ x15 : ByteArray, H.rd h11 (Addr.add (Addr.mk r3 0 none) 3) (Value.string x15) ∧
 ∃ x16 : Int, H.rd h11 (Addr.add (Addr.mk r3 0 none) 4) (Value.int .i64 x16) ∧
 VRet h11 (Value.tuple (List.toArray [(Value.agg (List.toArray [(Value.slice x12.a x12.len x12.cap), (Value.slice x13.a x13.len x13.cap), (Value.slice x14.a x14.len x14.cap), (Value.string x15), (Value.int .i64 x16)])), (Value.int .i64 (4 : Int))])) post) (
 ∃ x17 : SV, H.rd h4 (Addr.add (Addr.add (Addr.mk r1 0 none) 0) 0) (Value.slice x17.a x17.len x17.cap) ∧
 ∃ x18 : SV, H.rd h4 (Addr.add (Addr.add (Addr.mk r1 0 none) 0) 1) (Value.slice x18.a x18.len x18.cap) ∧
 ∃ x19 : SV, H.rd h4 (Addr.add (Addr.add (Addr.mk r1 0 none) 0) 2) (Value.slice x19.a x19.len x19.cap) ∧
 SemCall Go.Proofs.Tryz.prog 93 (List.toArray [(Value.agg (List.toArray [(Value.slice x17.a x17.len x17.cap), (Value.slice x18.a x18.len x18.cap), (Value.slice x19.a x19.len x19.cap)])), (Value.int .i64 p2_t), (Value.slice p3_want.a p3_want.len p3_want.cap), (Value.bool p1_back)]) h4 fun v20 h21 =>
 ∃ x22 : SV, ∃ x23 : SV, ∃ x24 : SV, ∃ x25 : Int, v20 = (Value.tuple (List.toArray [(Value.agg (List.toArray [(Value.slice x22.a x22.len x22.cap), (Value.slice x23.a x23.len x23.cap), (Value.slice x24.a x24.len x24.cap)])), (Value.int .i64 x25)])) ∧
 H.new h21 [(Value.slice none 0 0), (Value.slice none 0 0), (Value.slice none 0 0)] fun r26 h27 =>
 ([(Value.slice x22.a x22.len x22.cap), (Value.slice x23.a x23.len x23.cap), (Value.slice x24.a x24.len x24.cap)]).length = 3 ∧ (Program.underlying Go.Proofs.Tryz.prog 25).isSome = true ∧
 H.wr h27 (Addr.mk r26 0 none) ([(Value.slice x22.a x22.len x22.cap), (Value.slice x23.a x23.len x23.cap), (Value.slice x24.a x24.len x24.cap)]) fun h28 =>
 VIf (x25 != (0 : Int)) (
 ∃ x29 : SV, H.rd h28 (Addr.add (Addr.mk r1 0 none) 0) (Value.slice x29.a x29.len x29.cap) ∧
 ∃ x30 : SV, H.rd h28 (Addr.add (Addr.mk r1 0 none) 1) (Value.slice x30.a x30.len x30.cap) ∧
 ∃ x31 : SV, H.rd h28 (Addr.add (Addr.mk r1 0 none) 2) (Value.slice x31.a x31.len x31.cap) ∧
 ∃ x32 : ByteArray, H.rd h28 (Addr.add (Addr.mk r1 0 none) 3) (Value.string x32) ∧
 ∃ x33 : Int, H.rd h28 (Addr.add (Addr.mk r1 0 none) 4) (Value.int .i64 x33) ∧
 ([(Value.slice x29.a x29.len x29.cap), (Value.slice x30.a x30.len x30.cap), (Value.slice x31.a x31.len x31.cap), (Value.string x32), (Value.int .i64 x33)]).length = 5 ∧ (Program.underlying Go.Proofs.Tryz.prog 39).isSome = true ∧
 H.wr h28 (Addr.mk r3 0 none) ([(Value.slice x29.a x29.len x29.cap), (Value.slice x30.a x30.len x30.cap), (Value.slice x31.a x31.len x31.cap), (Value.string x32), (Value.int .i64 x33)]) fun h34 =>
 ∃ x35 : SV, H.rd h34 (Addr.add (Addr.mk r3 0 none) 0) (Value.slice x35.a x35.len x35.cap) ∧
 ∃ x36 : SV, H.rd h34 (Addr.add (Addr.mk r3 0 none) 1) (Value.slice x36.a x36.len x36.cap) ∧
 ∃ x37 : SV, H.rd h34 (Addr.add (Addr.mk r3 0 none) 2) (Value.slice x37.a x37.len x37.cap) ∧
 ∃ x38 : ByteArray, H.rd h34 (Addr.add (Addr.mk r3 0 none) 3) (Value.string x38) ∧
 ∃ x39 : Int, H.rd h34 (Addr.add (Addr.mk r3 0 none) 4) (Value.int .i64 x39) ∧
 VRet h34 (Value.tuple (List.toArray [(Value.agg (List.toArray [(Value.slice x35.a x35.len x35.cap), (Value.slice x36.a x36.len x36.cap), (Value.slice x37.a x37.len x37.cap), (Value.string x38), (Value.int .i64 x39)])), (Value.int .i64 x25)])) post) (
 ∃ R40 : ByteArray → H → Prop, (
 VIf p1_back (
 (∃ h41, Gh h28 h41 ∧ R40 (ByteArray.mk (List.toArray [(98 : UInt8), (32 : UInt8)])) h41)) (
 (∃ h42, Gh h28 h42 ∧ R40 (ByteArray.mk (List.toArray [(97 : UInt8), (32 : UInt8)])) h42))) ∧
 ∀ (_ : F) (x43_s : ByteArray) (h44 : H), R40 x43_s h44 →
 SemCall Go.Proofs.Tryz.prog 79 (List.toArray [(Value.int .i64 p2_t)]) h44 fun v45 h46 =>
 ∃ x47 : ByteArray, v45 = (Value.string x47) ∧
 ((ByteArray.size x43_s + ByteArray.size x47 : Nat) : Int) ≤ 9223372036854775807 ∧
 ∃ R48 : ByteArray → H → Prop, (
 ∃ I49 : Nat → ByteArray → Int → H → Prop, (∃ n50, (∃ h52, Gh h46 h52 ∧ I49 n50 (x43_s ++ x47) (0 : Int) h52)) ∧
 ∀ (n50 : Nat) (_ : F) (x53_s : ByteArray) (x54_k : Int) (h55 : H), I49 n50 x53_s x54_k h55 →
 f62_L1 p3_want R48 I49 n50 x53_s x54_k h55) ∧
 ∀ (_ : F) (x63_s : ByteArray) (h64 : H), R48 x63_s h64 →
 f62_J2 post r1 r3 r26 x63_s h64))

def f62_hint : Hint := (.node .leaf (.node .leaf (.node .leaf (.node .leaf (.node .leaf (.node (.node .leaf (.join [(12, .str)] .leaf)) (.node .leaf (.node (.node .leaf (.join [(12, .str)] (.node (.loop [(12, .str), (13, .int)] .leaf) .leaf))) (.node .leaf (.node .lex .leaf))))))))))

theorem f62_eq (p0_0_b : SV) (p0_1_b : SV) (p0_2_b : SV) (p0_3_b : ByteArray) (p0_4_b : Int) (p1_back : Bool) (p2_t : Int) (p3_want : SV) (h0 : H) (post : Value → H → Prop) : exec Tryz.prog (bodyOf Tryz.f62) f62_hint (retQ Tryz.prog Tryz.f62 post) (F0 [(Value.agg (List.toArray [(Value.slice p0_0_b.a p0_0_b.len p0_0_b.cap), (Value.slice p0_1_b.a p0_1_b.len p0_1_b.cap), (Value.slice p0_2_b.a p0_2_b.len p0_2_b.cap), (Value.string p0_3_b), (Value.int .i64 p0_4_b)])), (Value.bool p1_back), (Value.int .i64 p2_t), (Value.slice p3_want.a p3_want.len p3_want.cap)]) h0 = f62_sem p0_0_b p0_1_b p0_2_b p0_3_b p0_4_b p1_back p2_t p3_want h0 post := by kernel_rfl

set_option maxRecDepth 20000 in
theorem f62_call (p0_0_b : SV) (p0_1_b : SV) (p0_2_b : SV) (p0_3_b : ByteArray) (p0_4_b : Int) (p1_back : Bool) (p2_t : Int) (p3_want : SV) (h0 : H) (post : Value → H → Prop) (hx : f62_sem p0_0_b p0_1_b p0_2_b p0_3_b p0_4_b p1_back p2_t p3_want h0 post) : SemCall Tryz.prog 62 (List.toArray [(Value.agg (List.toArray [(Value.slice p0_0_b.a p0_0_b.len p0_0_b.cap), (Value.slice p0_1_b.a p0_1_b.len p0_1_b.cap), (Value.slice p0_2_b.a p0_2_b.len p0_2_b.cap), (Value.string p0_3_b), (Value.int .i64 p0_4_b)])), (Value.bool p1_back), (Value.int .i64 p2_t), (Value.slice p3_want.a p3_want.len p3_want.cap)]) h0 post :=
 sem_of_exec (g := f62_hint) mixed Tryz.func62 (bodyOf_eq (by kernel_rfl)) (by kernel_rfl) ((f62_eq p0_0_b p0_1_b p0_2_b p0_3_b p0_4_b p1_back p2_t p3_want h0 post).mpr hx)

/- slices.Clone[[]int,int] -/
def f63_sem (p0_s : SV) (h0 : H) (post : Value → H → Prop) : Prop :=
 VIf (Option.isNone p0_s.a) (
 VRet h0 (Value.slice none 0 0) post) (
 H.new h0 [] fun r1 h2 =>
 appVC Go.Proofs.Tryz.prog 22 (Value.slice (some (Addr.mk r1 0 none)) 0 0) (Value.slice p0_s.a p0_s.len p0_s.cap) h2 fun x3 h4 =>
 VRet h4 (Value.slice x3.a x3.len x3.cap) post)

def f63_hint : Hint := .leaf

theorem f63_eq (p0_s : SV) (h0 : H) (post : Value → H → Prop) : exec Tryz.prog (bodyOf Tryz.f63) f63_hint (retQ Tryz.prog Tryz.f63 post) (F0 [(Value.slice p0_s.a p0_s.len p0_s.cap)]) h0 = f63_sem p0_s h0 post := by kernel_rfl

set_option maxRecDepth 20000 in
theorem f63_call (p0_s : SV) (h0 : H) (post : Value → H → Prop) (hx : f63_sem p0_s h0 post) : SemCall Tryz.prog 63 (List.toArray [(Value.slice p0_s.a p0_s.len p0_s.cap)]) h0 post :=
 sem_of_exec (g := f63_hint) mixed Tryz.func63 (bodyOf_eq (by kernel_rfl)) (by kernel_rfl) ((f63_eq p0_s h0 post).mpr hx)

/- latchgarth/bank.asked -/
def f65_L1 (p2_want : SV) (post : Value → H → Prop) (R14 : H → Prop) (I15 : Nat → Int → H → Prop) (n16 : Nat) (x19 : Int) (h20 : H) : Prop :=
 VIf (decide (x19 < ((p2_want.len : Nat) : Int))) (
 ∃ b21 : Addr, p2_want.a = some b21 ∧ 0 ≤ x19 ∧ x19 < ((p2_want.len : Nat) : Int) ∧
 ∃ x22 : Int, H.rd h20 (Addr.add (Addr.add b21 ((x19).toNat * 1)) 0) (Value.int .i64 x22) ∧
 SemCall Go.Proofs.Tryz.prog 95 (List.toArray [(Value.int .i64 x22), (Value.int .i64 0), (Value.int .i64 (1000 : Int))]) h20 fun v23 h24 =>
 ∃ x25 : Bool, v23 = (Value.bool x25) ∧
 VIf (!x25) (
 VRet h24 (Value.iface 57 (Value.int .i64 (1 : Int))) post) (
 In64 (x19 + (1 : Int)) ∧
 ∃ m17, m17 < n16 ∧ (∃ h26, Gh h24 h26 ∧ I15 m17 (x19 + (1 : Int)) h26))) (
 (∃ h27, Gh h20 h27 ∧ R14 h27))

def f65_sem (p0_0_b : SV) (p0_1_b : SV) (p0_2_b : SV) (p1_t : Int) (p2_want : SV) (h0 : H) (post : Value → H → Prop) : Prop :=
 H.new h0 [(Value.slice p0_0_b.a p0_0_b.len p0_0_b.cap), (Value.slice p0_1_b.a p0_1_b.len p0_1_b.cap), (Value.slice p0_2_b.a p0_2_b.len p0_2_b.cap)] fun r1 h2 =>
 ∃ x3 : SV, H.rd h2 (Addr.add (Addr.mk r1 0 none) 0) (Value.slice x3.a x3.len x3.cap) ∧
 ∃ x4 : SV, H.rd h2 (Addr.add (Addr.mk r1 0 none) 1) (Value.slice x4.a x4.len x4.cap) ∧
 ∃ x5 : SV, H.rd h2 (Addr.add (Addr.mk r1 0 none) 2) (Value.slice x5.a x5.len x5.cap) ∧
 SemCall Go.Proofs.Tryz.prog 80 (List.toArray [(Value.agg (List.toArray [(Value.slice x3.a x3.len x3.cap), (Value.slice x4.a x4.len x4.cap), (Value.slice x5.a x5.len x5.cap)]))]) h2 fun v6 h7 =>
 ∃ x8 : Option (TypeId × Value), v6 = (errV x8) ∧
 isIfaceV (errV x8) = true ∧
 VIf (!(isNilV (errV x8))) (
 VRet h7 (errV x8) post) (
 ∃ x9 : SV, H.rd h7 (Addr.add (Addr.add (Addr.mk r1 0 none) 1) 0) (Value.slice x9.a x9.len x9.cap) ∧
 In64 (((x9.len : Nat) : Int) - (1 : Int)) ∧
 SemCall Go.Proofs.Tryz.prog 95 (List.toArray [(Value.int .i64 p1_t), (Value.int .i64 0), (Value.int .i64 (((x9.len : Nat) : Int) - (1 : Int)))]) h7 fun v10 h11 =>
 ∃ x12 : Bool, v10 = (Value.bool x12) ∧
 VIf (!x12) (
 VRet h11 (Value.iface 57 (Value.int .i64 (1 : Int))) post) (
 ∃ x13 : SV, H.rd h11 (Addr.add (Addr.add (Addr.mk r1 0 none) 0) 0) (Value.slice x13.a x13.len x13.cap) ∧
 VIf (((p2_want.len : Nat) : Int) != ((x13.len : Nat) : Int)) (
 VRet h11 (Value.iface 57 (Value.int .i64 (3 : Int))) post) (
 ∃ R14 : H → Prop, (
 ∃ I15 : Nat → Int → H → Prop, (∃ n16, (∃ h18, Gh h11 h18 ∧ I15 n16 (0 : Int) h18)) ∧
 ∀ (n16 : Nat) (_ : F) (x19 : Int) (h20 : H), I15 n16 x19 h20 →
 f65_L1 p2_want post R14 I15 n16 x19 h20) ∧
 ∀ (_ : F) (h28 : H), R14 h28 →
 VRet h28 Value.nilIface post)))

def f65_hint : Hint := (.node .leaf (.node .leaf (.node .leaf (.node .leaf (.node (.node .leaf (.join [] (.node (.loop [(32, .int)] .leaf) .leaf))) .leaf)))))

theorem f65_eq (p0_0_b : SV) (p0_1_b : SV) (p0_2_b : SV) (p1_t : Int) (p2_want : SV) (h0 : H) (post : Value → H → Prop) : exec Tryz.prog (bodyOf Tryz.f65) f65_hint (retQ Tryz.prog Tryz.f65 post) (F0 [(Value.agg (List.toArray [(Value.slice p0_0_b.a p0_0_b.len p0_0_b.cap), (Value.slice p0_1_b.a p0_1_b.len p0_1_b.cap), (Value.slice p0_2_b.a p0_2_b.len p0_2_b.cap)])), (Value.int .i64 p1_t), (Value.slice p2_want.a p2_want.len p2_want.cap)]) h0 = f65_sem p0_0_b p0_1_b p0_2_b p1_t p2_want h0 post := by kernel_rfl

set_option maxRecDepth 20000 in
theorem f65_call (p0_0_b : SV) (p0_1_b : SV) (p0_2_b : SV) (p1_t : Int) (p2_want : SV) (h0 : H) (post : Value → H → Prop) (hx : f65_sem p0_0_b p0_1_b p0_2_b p1_t p2_want h0 post) : SemCall Tryz.prog 65 (List.toArray [(Value.agg (List.toArray [(Value.slice p0_0_b.a p0_0_b.len p0_0_b.cap), (Value.slice p0_1_b.a p0_1_b.len p0_1_b.cap), (Value.slice p0_2_b.a p0_2_b.len p0_2_b.cap)])), (Value.int .i64 p1_t), (Value.slice p2_want.a p2_want.len p2_want.cap)]) h0 post :=
 sem_of_exec (g := f65_hint) mixed Tryz.func65 (bodyOf_eq (by kernel_rfl)) (by kernel_rfl) ((f65_eq p0_0_b p0_1_b p0_2_b p1_t p2_want h0 post).mpr hx)

/- latchgarth/bank.moved -/
def f66_L1 (r1 : Nat) (r9 : Nat) (x12 : SV) (R13 : H → Prop) (I14 : Nat → Int → H → Prop) (n15 : Nat) (x18 : Int) (h19 : H) : Prop :=
 VIf (decide (x18 < ((x12.len : Nat) : Int))) (
 ∃ x20 : SV, H.rd h19 (Addr.add (Addr.add (Addr.mk r9 0 none) 1) 0) (Value.slice x20.a x20.len x20.cap) ∧
 ∃ x21 : SV, H.rd h19 (Addr.add (Addr.add (Addr.mk r1 0 none) 1) 0) (Value.slice x21.a x21.len x21.cap) ∧
 ∃ b22 : Addr, x21.a = some b22 ∧ 0 ≤ x18 ∧ x18 < ((x21.len : Nat) : Int) ∧
 ∃ x23 : SV, H.rd h19 (Addr.add (Addr.add b22 ((x18).toNat * 1)) 0) (Value.slice x23.a x23.len x23.cap) ∧
 SemCall Go.Proofs.Tryz.prog 63 (List.toArray [(Value.slice x23.a x23.len x23.cap)]) h19 fun v24 h25 => OwnExt h19 h25 ∧
 ∃ x26 : SV, v24 = (Value.slice x26.a x26.len x26.cap) ∧
 H.new h25 [(Value.slice x26.a x26.len x26.cap)] fun r27 h28 =>
 appVC Go.Proofs.Tryz.prog 23 (Value.slice x20.a x20.len x20.cap) (Value.slice (some (Addr.mk r27 0 none)) 1 1) h28 fun x29 h30 =>
 H.wr h30 (Addr.add (Addr.mk r9 0 none) 1) ([(Value.slice x29.a x29.len x29.cap)]) fun h31 =>
 ∃ x32 : SV, H.rd h31 (Addr.add (Addr.add (Addr.mk r9 0 none) 2) 0) (Value.slice x32.a x32.len x32.cap) ∧
 ∃ x33 : SV, H.rd h31 (Addr.add (Addr.add (Addr.mk r1 0 none) 2) 0) (Value.slice x33.a x33.len x33.cap) ∧
 ∃ b34 : Addr, x33.a = some b34 ∧ 0 ≤ x18 ∧ x18 < ((x33.len : Nat) : Int) ∧
 ∃ x35 : SV, H.rd h31 (Addr.add (Addr.add b34 ((x18).toNat * 1)) 0) (Value.slice x35.a x35.len x35.cap) ∧
 SemCall Go.Proofs.Tryz.prog 63 (List.toArray [(Value.slice x35.a x35.len x35.cap)]) h31 fun v36 h37 => OwnExt h31 h37 ∧
 ∃ x38 : SV, v36 = (Value.slice x38.a x38.len x38.cap) ∧
 H.new h37 [(Value.slice x38.a x38.len x38.cap)] fun r39 h40 =>
 appVC Go.Proofs.Tryz.prog 23 (Value.slice x32.a x32.len x32.cap) (Value.slice (some (Addr.mk r39 0 none)) 1 1) h40 fun x41 h42 =>
 H.wr h42 (Addr.add (Addr.mk r9 0 none) 2) ([(Value.slice x41.a x41.len x41.cap)]) fun h43 =>
 In64 (x18 + (1 : Int)) ∧
 ∃ m16, m16 < n15 ∧ (∃ h44, Gh h43 h44 ∧ I14 m16 (x18 + (1 : Int)) h44)) (
 (∃ h45, Gh h19 h45 ∧ R13 h45))

def f66_L2 (p1_t : Int) (p2_want : SV) (p3_sign : Int) (r9 : Nat) (R47 : H → Prop) (I48 : Nat → Int → H → Prop) (n49 : Nat) (x52 : Int) (h53 : H) : Prop :=
 VIf (decide (x52 < ((p2_want.len : Nat) : Int))) (
 ∃ b54 : Addr, p2_want.a = some b54 ∧ 0 ≤ x52 ∧ x52 < ((p2_want.len : Nat) : Int) ∧
 ∃ x55 : Int, H.rd h53 (Addr.add (Addr.add b54 ((x52).toNat * 1)) 0) (Value.int .i64 x55) ∧
 ∃ x56 : SV, H.rd h53 (Addr.add (Addr.add (Addr.mk r9 0 none) 0) 0) (Value.slice x56.a x56.len x56.cap) ∧
 ∃ b57 : Addr, x56.a = some b57 ∧ 0 ≤ x52 ∧ x52 < ((x56.len : Nat) : Int) ∧
 ∃ x58 : Int, H.rd h53 (Addr.add (Addr.add b57 ((x52).toNat * 1)) 0) (Value.int .i64 x58) ∧
 In64 (p3_sign * x55) ∧
 In64 (x58 - (p3_sign * x55)) ∧
 ∃ b59 : Addr, x56.a = some b59 ∧ 0 ≤ x52 ∧ x52 < ((x56.len : Nat) : Int) ∧
 H.wr h53 (Addr.add b59 ((x52).toNat * 1)) ([(Value.int .i64 (x58 - (p3_sign * x55)))]) fun h60 =>
 ∃ x61 : SV, H.rd h60 (Addr.add (Addr.add (Addr.mk r9 0 none) 2) 0) (Value.slice x61.a x61.len x61.cap) ∧
 ∃ b62 : Addr, x61.a = some b62 ∧ 0 ≤ p1_t ∧ p1_t < ((x61.len : Nat) : Int) ∧
 ∃ x63 : SV, H.rd h60 (Addr.add (Addr.add b62 ((p1_t).toNat * 1)) 0) (Value.slice x63.a x63.len x63.cap) ∧
 ∃ b64 : Addr, x63.a = some b64 ∧ 0 ≤ x52 ∧ x52 < ((x63.len : Nat) : Int) ∧
 ∃ x65 : Int, H.rd h60 (Addr.add (Addr.add b64 ((x52).toNat * 1)) 0) (Value.int .i64 x65) ∧
 In64 (p3_sign * x55) ∧
 In64 (x65 + (p3_sign * x55)) ∧
 ∃ b66 : Addr, x63.a = some b66 ∧ 0 ≤ x52 ∧ x52 < ((x63.len : Nat) : Int) ∧
 H.wr h60 (Addr.add b66 ((x52).toNat * 1)) ([(Value.int .i64 (x65 + (p3_sign * x55)))]) fun h67 =>
 In64 (x52 + (1 : Int)) ∧
 ∃ m50, m50 < n49 ∧ (∃ h68, Gh h67 h68 ∧ I48 m50 (x52 + (1 : Int)) h68)) (
 (∃ h69, Gh h53 h69 ∧ R47 h69))

def f66_J3 (p1_t : Int) (p2_want : SV) (p3_sign : Int) (post : Value → H → Prop) (r3 : Nat) (r9 : Nat) (h46 : H) : Prop :=
 ∃ R47 : H → Prop, (
 ∃ I48 : Nat → Int → H → Prop, (∃ n49, (∃ h51, Gh h46 h51 ∧ I48 n49 (0 : Int) h51)) ∧
 ∀ (n49 : Nat) (_ : F) (x52 : Int) (h53 : H), I48 n49 x52 h53 →
 f66_L2 p1_t p2_want p3_sign r9 R47 I48 n49 x52 h53) ∧
 ∀ (_ : F) (h70 : H), R47 h70 →
 ∃ x71 : SV, H.rd h70 (Addr.add (Addr.mk r9 0 none) 0) (Value.slice x71.a x71.len x71.cap) ∧
 ∃ x72 : SV, H.rd h70 (Addr.add (Addr.mk r9 0 none) 1) (Value.slice x72.a x72.len x72.cap) ∧
 ∃ x73 : SV, H.rd h70 (Addr.add (Addr.mk r9 0 none) 2) (Value.slice x73.a x73.len x73.cap) ∧
 ([(Value.slice x71.a x71.len x71.cap), (Value.slice x72.a x72.len x72.cap), (Value.slice x73.a x73.len x73.cap)]).length = 3 ∧ (Program.underlying Go.Proofs.Tryz.prog 25).isSome = true ∧
 H.wr h70 (Addr.mk r3 0 none) ([(Value.slice x71.a x71.len x71.cap), (Value.slice x72.a x72.len x72.cap), (Value.slice x73.a x73.len x73.cap)]) fun h74 =>
 ∃ x75 : SV, H.rd h74 (Addr.add (Addr.mk r3 0 none) 0) (Value.slice x75.a x75.len x75.cap) ∧
 ∃ x76 : SV, H.rd h74 (Addr.add (Addr.mk r3 0 none) 1) (Value.slice x76.a x76.len x76.cap) ∧
 ∃ x77 : SV, H.rd h74 (Addr.add (Addr.mk r3 0 none) 2) (Value.slice x77.a x77.len x77.cap) ∧
 VRet h74 (Value.agg (List.toArray [(Value.slice x75.a x75.len x75.cap), (Value.slice x76.a x76.len x76.cap), (Value.slice x77.a x77.len x77.cap)])) post

def f66_sem (p0_0_b : SV) (p0_1_b : SV) (p0_2_b : SV) (p1_t : Int) (p2_want : SV) (p3_sign : Int) (h0 : H) (post : Value → H → Prop) : Prop :=
 H.new h0 [(Value.slice p0_0_b.a p0_0_b.len p0_0_b.cap), (Value.slice p0_1_b.a p0_1_b.len p0_1_b.cap), (Value.slice p0_2_b.a p0_2_b.len p0_2_b.cap)] fun r1 h2 =>
 H.new h2 [(Value.slice none 0 0), (Value.slice none 0 0), (Value.slice none 0 0)] fun r3 h4 =>
 ∃ x5 : SV, H.rd h4 (Addr.add (Addr.add (Addr.mk r1 0 none) 0) 0) (Value.slice x5.a x5.len x5.cap) ∧
 SemCall Go.Proofs.Tryz.prog 63 (List.toArray [(Value.slice x5.a x5.len x5.cap)]) h4 fun v6 h7 =>
 ∃ x8 : SV, v6 = (Value.slice x8.a x8.len x8.cap) ∧
 H.new h7 [(Value.slice none 0 0), (Value.slice none 0 0), (Value.slice none 0 0)] fun r9 h10 =>
 ([(Value.slice x8.a x8.len x8.cap), (Value.slice none 0 0), (Value.slice none 0 0)]).length = 3 ∧ (Program.underlying Go.Proofs.Tryz.prog 25).isSome = true ∧
 H.wr h10 (Addr.mk r9 0 none) ([(Value.slice x8.a x8.len x8.cap), (Value.slice none 0 0), (Value.slice none 0 0)]) fun h11 =>
 ∃ x12 : SV, H.rd h11 (Addr.add (Addr.add (Addr.mk r1 0 none) 1) 0) (Value.slice x12.a x12.len x12.cap) ∧
 ∃ R13 : H → Prop, (
 ∃ I14 : Nat → Int → H → Prop, (∃ n15, (∃ h17, Gh h11 h17 ∧ I14 n15 (0 : Int) h17)) ∧
 ∀ (n15 : Nat) (_ : F) (x18 : Int) (h19 : H), I14 n15 x18 h19 →
 f66_L1 r1 r9 x12 R13 I14 n15 x18 h19) ∧
 ∀ (_ : F) (h46 : H), R13 h46 →
 f66_J3 p1_t p2_want p3_sign post r3 r9 h46

def f66_hint : Hint := (.node .leaf (.node .leaf (.node (.node .leaf (.join [] (.node (.loop [(20, .int)] (.node .leaf (.node .leaf (.node (.node (.node .leaf (.node .lex .lex)) .leaf) .leaf)))) .leaf))) (.node (.node .leaf (.join [] (.node (.loop [(48, .int)] .leaf) .leaf))) .leaf))))

theorem f66_eq (p0_0_b : SV) (p0_1_b : SV) (p0_2_b : SV) (p1_t : Int) (p2_want : SV) (p3_sign : Int) (h0 : H) (post : Value → H → Prop) : exec Tryz.prog (bodyOf Tryz.f66) f66_hint (retQ Tryz.prog Tryz.f66 post) (F0 [(Value.agg (List.toArray [(Value.slice p0_0_b.a p0_0_b.len p0_0_b.cap), (Value.slice p0_1_b.a p0_1_b.len p0_1_b.cap), (Value.slice p0_2_b.a p0_2_b.len p0_2_b.cap)])), (Value.int .i64 p1_t), (Value.slice p2_want.a p2_want.len p2_want.cap), (Value.int .i64 p3_sign)]) h0 = f66_sem p0_0_b p0_1_b p0_2_b p1_t p2_want p3_sign h0 post := by kernel_rfl

set_option maxRecDepth 20000 in
theorem f66_call (p0_0_b : SV) (p0_1_b : SV) (p0_2_b : SV) (p1_t : Int) (p2_want : SV) (p3_sign : Int) (h0 : H) (post : Value → H → Prop) (hx : f66_sem p0_0_b p0_1_b p0_2_b p1_t p2_want p3_sign h0 post) : SemCall Tryz.prog 66 (List.toArray [(Value.agg (List.toArray [(Value.slice p0_0_b.a p0_0_b.len p0_0_b.cap), (Value.slice p0_1_b.a p0_1_b.len p0_1_b.cap), (Value.slice p0_2_b.a p0_2_b.len p0_2_b.cap)])), (Value.int .i64 p1_t), (Value.slice p2_want.a p2_want.len p2_want.cap), (Value.int .i64 p3_sign)]) h0 post :=
 sem_of_exec (g := f66_hint) mixed Tryz.func66 (bodyOf_eq (by kernel_rfl)) (by kernel_rfl) ((f66_eq p0_0_b p0_1_b p0_2_b p1_t p2_want p3_sign h0 post).mpr hx)

/- latchgarth/bank.row -/
def f67_L1 (r1 : Nat) (x6 : SV) (x12_out : SV) (R16 : Int → H → Prop) (I17 : Nat → Int → H → Prop) (n18 : Nat) (x21_t : Int) (h22 : H) : Prop :=
 ∃ R23 : Bool → H → Prop, (
 ∃ x24 : SV, H.rd h22 (Addr.add (Addr.add (Addr.mk r1 0 none) 1) 0) (Value.slice x24.a x24.len x24.cap) ∧
 VIf (decide (x21_t < ((x24.len : Nat) : Int))) (
 SemCall Go.Proofs.Tryz.prog 96 (List.toArray [(Value.slice x12_out.a x12_out.len x12_out.cap), (Value.int .i64 x21_t)]) h22 fun v25 h26 =>
 ∃ x27 : Bool, v25 = (Value.bool x27) ∧
 VIf x27 (
 (∃ h28, Gh h26 h28 ∧ R23 true h28)) (
 ∃ x29 : SV, H.rd h26 (Addr.add (Addr.mk r1 0 none) 0) (Value.slice x29.a x29.len x29.cap) ∧
 ∃ x30 : SV, H.rd h26 (Addr.add (Addr.mk r1 0 none) 1) (Value.slice x30.a x30.len x30.cap) ∧
 ∃ x31 : SV, H.rd h26 (Addr.add (Addr.mk r1 0 none) 2) (Value.slice x31.a x31.len x31.cap) ∧
 SemCall Go.Proofs.Tryz.prog 97 (List.toArray [(Value.agg (List.toArray [(Value.slice x29.a x29.len x29.cap), (Value.slice x30.a x30.len x30.cap), (Value.slice x31.a x31.len x31.cap)])), (Value.slice x6.a x6.len x6.cap), (Value.int .i64 x21_t)]) h26 fun v32 h33 =>
 ∃ x34 : Bool, v32 = (Value.bool x34) ∧
 (∃ h35, Gh h33 h35 ∧ R23 (!x34) h35))) (
 (∃ h36, Gh h22 h36 ∧ R23 false h36))) ∧
 ∀ (_ : F) (x37 : Bool) (h38 : H), R23 x37 h38 →
 VIf x37 (
 In64 (x21_t + (1 : Int)) ∧
 ∃ m19, m19 < n18 ∧ (∃ h39, Gh h38 h39 ∧ I17 m19 (x21_t + (1 : Int)) h39)) (
 (∃ h40, Gh h38 h40 ∧ R16 x21_t h40))

def f67_L2 (r1 : Nat) (x6 : SV) (x41_t : Int) (R48 : H → Prop) (I49 : Nat → Int → H → Prop) (n50 : Nat) (x53 : Int) (h54 : H) : Prop :=
 VIf (decide (x53 < ((x6.len : Nat) : Int))) (
 ∃ b55 : Addr, x6.a = some b55 ∧ 0 ≤ x53 ∧ x53 < ((x6.len : Nat) : Int) ∧
 ∃ x56 : Int, H.rd h54 (Addr.add (Addr.add b55 ((x53).toNat * 1)) 0) (Value.int .i64 x56) ∧
 ∃ x57 : SV, H.rd h54 (Addr.add (Addr.add (Addr.mk r1 0 none) 2) 0) (Value.slice x57.a x57.len x57.cap) ∧
 ∃ b58 : Addr, x57.a = some b58 ∧ 0 ≤ x41_t ∧ x41_t < ((x57.len : Nat) : Int) ∧
 ∃ x59 : SV, H.rd h54 (Addr.add (Addr.add b58 ((x41_t).toNat * 1)) 0) (Value.slice x59.a x59.len x59.cap) ∧
 ∃ b60 : Addr, x59.a = some b60 ∧ 0 ≤ x53 ∧ x53 < ((x59.len : Nat) : Int) ∧
 ∃ x61 : Int, H.rd h54 (Addr.add (Addr.add b60 ((x53).toNat * 1)) 0) (Value.int .i64 x61) ∧
 In64 (x56 + x61) ∧
 ∃ b62 : Addr, x6.a = some b62 ∧ 0 ≤ x53 ∧ x53 < ((x6.len : Nat) : Int) ∧
 H.wr h54 (Addr.add b62 ((x53).toNat * 1)) ([(Value.int .i64 (x56 + x61))]) fun h63 =>
 In64 (x53 + (1 : Int)) ∧
 ∃ m51, m51 < n50 ∧ (∃ h64, Gh h63 h64 ∧ I49 m51 (x53 + (1 : Int)) h64)) (
 (∃ h65, Gh h54 h65 ∧ R48 h65))

def f67_J3 (post : Value → H → Prop) (r1 : Nat) (x6 : SV) (x12_out : SV) (R15 : SV → H → Prop) (x41_t : Int) (h42 : H) : Prop :=
 ∃ x43 : SV, H.rd h42 (Addr.add (Addr.add (Addr.mk r1 0 none) 1) 0) (Value.slice x43.a x43.len x43.cap) ∧
 VIf (x41_t == ((x43.len : Nat) : Int)) (
 VRet h42 (Value.tuple (List.toArray [(Value.slice none 0 0), (Value.bool false)])) post) (
 H.new h42 [(Value.int .i64 x41_t)] fun r44 h45 =>
 appVC Go.Proofs.Tryz.prog 22 (Value.slice x12_out.a x12_out.len x12_out.cap) (Value.slice (some (Addr.mk r44 0 none)) 1 1) h45 fun x46 h47 =>
 ∃ R48 : H → Prop, (
 ∃ I49 : Nat → Int → H → Prop, (∃ n50, (∃ h52, Gh h47 h52 ∧ I49 n50 (0 : Int) h52)) ∧
 ∀ (n50 : Nat) (_ : F) (x53 : Int) (h54 : H), I49 n50 x53 h54 →
 f67_L2 r1 x6 x41_t R48 I49 n50 x53 h54) ∧
 ∀ (_ : F) (h66 : H), R48 h66 →
 (∃ h67, Gh h66 h67 ∧ R15 x46 h67))

def f67_L4 (post : Value → H → Prop) (r1 : Nat) (x6 : SV) (R7 : SV → H → Prop) (I8 : Nat → SV → H → Prop) (n9 : Nat) (x12_out : SV) (h13 : H) : Prop :=
 ∃ x14 : SV, H.rd h13 (Addr.add (Addr.add (Addr.mk r1 0 none) 1) 0) (Value.slice x14.a x14.len x14.cap) ∧
 VIf (decide (((x12_out.len : Nat) : Int) < ((x14.len : Nat) : Int))) (
 ∃ R15 : SV → H → Prop, (
 ∃ R16 : Int → H → Prop, (
 ∃ I17 : Nat → Int → H → Prop, (∃ n18, (∃ h20, Gh h13 h20 ∧ I17 n18 (0 : Int) h20)) ∧
 ∀ (n18 : Nat) (_ : F) (x21_t : Int) (h22 : H), I17 n18 x21_t h22 →
 f67_L1 r1 x6 x12_out R16 I17 n18 x21_t h22) ∧
 ∀ (_ : F) (x41_t : Int) (h42 : H), R16 x41_t h42 →
 f67_J3 post r1 x6 x12_out R15 x41_t h42) ∧
 ∀ (_ : F) (x68_out : SV) (h69 : H), R15 x68_out h69 →
 ∃ m10, m10 < n9 ∧ (∃ h70, Gh h69 h70 ∧ I8 m10 x68_out h70)) (
 (∃ h71, Gh h13 h71 ∧ R7 x12_out h71))

def f67_sem (p0_0_b : SV) (p0_1_b : SV) (p0_2_b : SV) (h0 : H) (post : Value → H → Prop) : Prop :=
 H.new h0 [(Value.slice p0_0_b.a p0_0_b.len p0_0_b.cap), (Value.slice p0_1_b.a p0_1_b.len p0_1_b.cap), (Value.slice p0_2_b.a p0_2_b.len p0_2_b.cap)] fun r1 h2 =>
 ∃ x3 : SV, H.rd h2 (Addr.add (Addr.add (Addr.mk r1 0 none) 0) 0) (Value.slice x3.a x3.len x3.cap) ∧
 SemCall Go.Proofs.Tryz.prog 63 (List.toArray [(Value.slice x3.a x3.len x3.cap)]) h2 fun v4 h5 =>
 ∃ x6 : SV, v4 = (Value.slice x6.a x6.len x6.cap) ∧
 ∃ R7 : SV → H → Prop, (
 ∃ I8 : Nat → SV → H → Prop, (∃ n9, (∃ h11, Gh h5 h11 ∧ I8 n9 (SV.mk none 0 0) h11)) ∧
 ∀ (n9 : Nat) (_ : F) (x12_out : SV) (h13 : H), I8 n9 x12_out h13 →
 f67_L4 post r1 x6 R7 I8 n9 x12_out h13) ∧
 ∀ (_ : F) (x72_out : SV) (h73 : H), R7 x72_out h73 →
 VRet h73 (Value.tuple (List.toArray [(Value.slice x72_out.a x72_out.len x72_out.cap), (Value.bool true)])) post

def f67_hint : Hint := (.node .leaf (.node .leaf (.node .leaf (.node (.join [(5, .sl)] (.node (.loop [(5, .sl)] (.node .leaf (.join [(5, .sl)] (.node (.node .leaf (.node (.join [(6, .int)] (.node (.loop [(6, .int)] (.node (.node (.join [(33, .bool)] .leaf) .leaf) .leaf)) .leaf)) (.node .leaf (.node .leaf (.node .leaf (.join [] (.node (.loop [(47, .int)] (.node .leaf (.node .leaf (.node (.node (.node .leaf (.tail 14)) .leaf) .leaf)))) .leaf))))))) .leaf)))) .leaf)) .leaf))))

theorem f67_eq (p0_0_b : SV) (p0_1_b : SV) (p0_2_b : SV) (h0 : H) (post : Value → H → Prop) : exec Tryz.prog (bodyOf Tryz.f67) f67_hint (retQ Tryz.prog Tryz.f67 post) (F0 [(Value.agg (List.toArray [(Value.slice p0_0_b.a p0_0_b.len p0_0_b.cap), (Value.slice p0_1_b.a p0_1_b.len p0_1_b.cap), (Value.slice p0_2_b.a p0_2_b.len p0_2_b.cap)]))]) h0 = f67_sem p0_0_b p0_1_b p0_2_b h0 post := by kernel_rfl

set_option maxRecDepth 20000 in
theorem f67_call (p0_0_b : SV) (p0_1_b : SV) (p0_2_b : SV) (h0 : H) (post : Value → H → Prop) (hx : f67_sem p0_0_b p0_1_b p0_2_b h0 post) : SemCall Tryz.prog 67 (List.toArray [(Value.agg (List.toArray [(Value.slice p0_0_b.a p0_0_b.len p0_0_b.cap), (Value.slice p0_1_b.a p0_1_b.len p0_1_b.cap), (Value.slice p0_2_b.a p0_2_b.len p0_2_b.cap)]))]) h0 post :=
 sem_of_exec (g := f67_hint) mixed Tryz.func67 (bodyOf_eq (by kernel_rfl)) (by kernel_rfl) ((f67_eq p0_0_b p0_1_b p0_2_b h0 post).mpr hx)

/- latchgarth/latchgarthref5.Digits -/
def f79_sem (p0_n : Int) (h0 : H) (post : Value → H → Prop) : Prop :=
 VIf (decide (p0_n < (10 : Int))) (
 In64 (p0_n + (1 : Int)) ∧
 0 ≤ (p0_n + (1 : Int)) ∧ (p0_n + (1 : Int)) ≤ ((ByteArray.size (ByteArray.mk (List.toArray [(48 : UInt8), (49 : UInt8), (50 : UInt8), (51 : UInt8), (52 : UInt8), (53 : UInt8), (54 : UInt8), (55 : UInt8), (56 : UInt8), (57 : UInt8)])) : Nat) : Int) ∧ 0 ≤ p0_n ∧ p0_n ≤ (p0_n + (1 : Int)) ∧
 VRet h0 (Value.string (ByteArray.extract (ByteArray.mk (List.toArray [(48 : UInt8), (49 : UInt8), (50 : UInt8), (51 : UInt8), (52 : UInt8), (53 : UInt8), (54 : UInt8), (55 : UInt8), (56 : UInt8), (57 : UInt8)])) (p0_n).toNat ((p0_n + (1 : Int))).toNat)) post) (
 (10 : Int) ≠ 0 ∧ In64 (Int.tdiv p0_n (10 : Int)) ∧
 SemCall Go.Proofs.Tryz.prog 79 (List.toArray [(Value.int .i64 (Int.tdiv p0_n (10 : Int)))]) h0 fun v1 h2 =>
 ∃ x3 : ByteArray, v1 = (Value.string x3) ∧
 (10 : Int) ≠ 0 ∧
 SemCall Go.Proofs.Tryz.prog 79 (List.toArray [(Value.int .i64 (Int.tmod p0_n (10 : Int)))]) h2 fun v4 h5 =>
 ∃ x6 : ByteArray, v4 = (Value.string x6) ∧
 ((ByteArray.size x3 + ByteArray.size x6 : Nat) : Int) ≤ 9223372036854775807 ∧
 VRet h5 (Value.string (x3 ++ x6)) post)

def f79_hint : Hint := .leaf

theorem f79_eq (p0_n : Int) (h0 : H) (post : Value → H → Prop) : exec Tryz.prog (bodyOf Tryz.f79) f79_hint (retQ Tryz.prog Tryz.f79 post) (F0 [(Value.int .i64 p0_n)]) h0 = f79_sem p0_n h0 post := by kernel_rfl

set_option maxRecDepth 20000 in
theorem f79_call (p0_n : Int) (h0 : H) (post : Value → H → Prop) (hx : f79_sem p0_n h0 post) : SemCall Tryz.prog 79 (List.toArray [(Value.int .i64 p0_n)]) h0 post :=
 sem_of_exec (g := f79_hint) mixed Tryz.func79 (bodyOf_eq (by kernel_rfl)) (by kernel_rfl) ((f79_eq p0_n h0 post).mpr hx)

/- latchgarth/bank.Check -/
def f80_L1 (post : Value → H → Prop) (r1 : Nat) (x13 : SV) (R14 : H → Prop) (I15 : Nat → Int → H → Prop) (n16 : Nat) (x19 : Int) (h20 : H) : Prop :=
 VIf (decide (x19 < ((x13.len : Nat) : Int))) (
 ∃ R21 : Bool → H → Prop, (
 ∃ x22 : SV, H.rd h20 (Addr.add (Addr.add (Addr.mk r1 0 none) 1) 0) (Value.slice x22.a x22.len x22.cap) ∧
 ∃ b23 : Addr, x22.a = some b23 ∧ 0 ≤ x19 ∧ x19 < ((x22.len : Nat) : Int) ∧
 ∃ x24 : SV, H.rd h20 (Addr.add (Addr.add b23 ((x19).toNat * 1)) 0) (Value.slice x24.a x24.len x24.cap) ∧
 ∃ x25 : SV, H.rd h20 (Addr.add (Addr.add (Addr.mk r1 0 none) 0) 0) (Value.slice x25.a x25.len x25.cap) ∧
 VIf (((x24.len : Nat) : Int) != ((x25.len : Nat) : Int)) (
 (∃ h26, Gh h20 h26 ∧ R21 true h26)) (
 ∃ x27 : SV, H.rd h20 (Addr.add (Addr.add (Addr.mk r1 0 none) 2) 0) (Value.slice x27.a x27.len x27.cap) ∧
 ∃ b28 : Addr, x27.a = some b28 ∧ 0 ≤ x19 ∧ x19 < ((x27.len : Nat) : Int) ∧
 ∃ x29 : SV, H.rd h20 (Addr.add (Addr.add b28 ((x19).toNat * 1)) 0) (Value.slice x29.a x29.len x29.cap) ∧
 ∃ x30 : SV, H.rd h20 (Addr.add (Addr.add (Addr.mk r1 0 none) 0) 0) (Value.slice x30.a x30.len x30.cap) ∧
 (∃ h31, Gh h20 h31 ∧ R21 (((x29.len : Nat) : Int) != ((x30.len : Nat) : Int)) h31))) ∧
 ∀ (_ : F) (x32 : Bool) (h33 : H), R21 x32 h33 →
 VIf x32 (
 VRet h33 (Value.iface 57 (Value.int .i64 (3 : Int))) post) (
 In64 (x19 + (1 : Int)) ∧
 ∃ m17, m17 < n16 ∧ (∃ h34, Gh h33 h34 ∧ I15 m17 (x19 + (1 : Int)) h34))) (
 (∃ h35, Gh h20 h35 ∧ R14 h35))

def f80_L2 (post : Value → H → Prop) (x41 : SV) (R42 : H → Prop) (I43 : Nat → Int → H → Prop) (n44 : Nat) (x47 : Int) (h48 : H) : Prop :=
 VIf (decide (x47 < ((x41.len : Nat) : Int))) (
 ∃ b49 : Addr, x41.a = some b49 ∧ 0 ≤ x47 ∧ x47 < ((x41.len : Nat) : Int) ∧
 ∃ x50 : Int, H.rd h48 (Addr.add (Addr.add b49 ((x47).toNat * 1)) 0) (Value.int .i64 x50) ∧
 SemCall Go.Proofs.Tryz.prog 95 (List.toArray [(Value.int .i64 x50), (Value.int .i64 0), (Value.int .i64 (1000 : Int))]) h48 fun v51 h52 =>
 ∃ x53 : Bool, v51 = (Value.bool x53) ∧
 VIf (!x53) (
 VRet h52 (Value.iface 57 (Value.int .i64 (1 : Int))) post) (
 In64 (x47 + (1 : Int)) ∧
 ∃ m45, m45 < n44 ∧ (∃ h54, Gh h52 h54 ∧ I43 m45 (x47 + (1 : Int)) h54))) (
 (∃ h55, Gh h48 h55 ∧ R42 h55))

def f80_J3 (post : Value → H → Prop) (r1 : Nat) (x40 : SV) (x63 : Int) (I70 : Nat → Int → H → Prop) (n71 : Nat) (x74 : Int) (x92 : Bool) (h93 : H) : Prop :=
 VIf x92 (
 VRet h93 (Value.iface 57 (Value.int .i64 (1 : Int))) post) (
 ∃ b94 : Addr, x40.a = some b94 ∧ 0 ≤ x74 ∧ x74 < ((x40.len : Nat) : Int) ∧
 ∃ x95 : Int, H.rd h93 (Addr.add (Addr.add b94 ((x74).toNat * 1)) 0) (Value.int .i64 x95) ∧
 ∃ x96 : SV, H.rd h93 (Addr.add (Addr.add (Addr.mk r1 0 none) 2) 0) (Value.slice x96.a x96.len x96.cap) ∧
 ∃ b97 : Addr, x96.a = some b97 ∧ 0 ≤ x63 ∧ x63 < ((x96.len : Nat) : Int) ∧
 ∃ x98 : SV, H.rd h93 (Addr.add (Addr.add b97 ((x63).toNat * 1)) 0) (Value.slice x98.a x98.len x98.cap) ∧
 ∃ b99 : Addr, x98.a = some b99 ∧ 0 ≤ x74 ∧ x74 < ((x98.len : Nat) : Int) ∧
 ∃ x100 : Int, H.rd h93 (Addr.add (Addr.add b99 ((x74).toNat * 1)) 0) (Value.int .i64 x100) ∧
 In64 (x95 + x100) ∧
 ∃ b101 : Addr, x40.a = some b101 ∧ 0 ≤ x74 ∧ x74 < ((x40.len : Nat) : Int) ∧
 H.wr h93 (Addr.add b101 ((x74).toNat * 1)) ([(Value.int .i64 (x95 + x100))]) fun h102 =>
 In64 (x74 + (1 : Int)) ∧
 ∃ m72, m72 < n71 ∧ (∃ h103, Gh h102 h103 ∧ I70 m72 (x74 + (1 : Int)) h103))

def f80_L4 (post : Value → H → Prop) (r1 : Nat) (x40 : SV) (x63 : Int) (x68 : SV) (R69 : H → Prop) (I70 : Nat → Int → H → Prop) (n71 : Nat) (x74 : Int) (h75 : H) : Prop :=
 VIf (decide (x74 < ((x68.len : Nat) : Int))) (
 ∃ b76 : Addr, x68.a = some b76 ∧ 0 ≤ x74 ∧ x74 < ((x68.len : Nat) : Int) ∧
 ∃ x77 : Int, H.rd h75 (Addr.add (Addr.add b76 ((x74).toNat * 1)) 0) (Value.int .i64 x77) ∧
 ∃ R78 : Bool → H → Prop, (
 SemCall Go.Proofs.Tryz.prog 95 (List.toArray [(Value.int .i64 x77), (Value.int .i64 0), (Value.int .i64 (1000 : Int))]) h75 fun v79 h80 =>
 ∃ x81 : Bool, v79 = (Value.bool x81) ∧
 VIf (!x81) (
 (∃ h82, Gh h80 h82 ∧ R78 true h82)) (
 ∃ x83 : SV, H.rd h80 (Addr.add (Addr.add (Addr.mk r1 0 none) 2) 0) (Value.slice x83.a x83.len x83.cap) ∧
 ∃ b84 : Addr, x83.a = some b84 ∧ 0 ≤ x63 ∧ x63 < ((x83.len : Nat) : Int) ∧
 ∃ x85 : SV, H.rd h80 (Addr.add (Addr.add b84 ((x63).toNat * 1)) 0) (Value.slice x85.a x85.len x85.cap) ∧
 ∃ b86 : Addr, x85.a = some b86 ∧ 0 ≤ x74 ∧ x74 < ((x85.len : Nat) : Int) ∧
 ∃ x87 : Int, H.rd h80 (Addr.add (Addr.add b86 ((x74).toNat * 1)) 0) (Value.int .i64 x87) ∧
 SemCall Go.Proofs.Tryz.prog 95 (List.toArray [(Value.int .i64 x87), (Value.int .i64 0), (Value.int .i64 x77)]) h80 fun v88 h89 =>
 ∃ x90 : Bool, v88 = (Value.bool x90) ∧
 (∃ h91, Gh h89 h91 ∧ R78 (!x90) h91))) ∧
 ∀ (_ : F) (x92 : Bool) (h93 : H), R78 x92 h93 →
 f80_J3 post r1 x40 x63 I70 n71 x74 x92 h93) (
 (∃ h104, Gh h75 h104 ∧ R69 h104))

def f80_L5 (post : Value → H → Prop) (r1 : Nat) (x40 : SV) (x57 : SV) (R58 : H → Prop) (I59 : Nat → Int → H → Prop) (n60 : Nat) (x63 : Int) (h64 : H) : Prop :=
 VIf (decide (x63 < ((x57.len : Nat) : Int))) (
 ∃ R65 : H → Prop, (
 ∃ x66 : SV, H.rd h64 (Addr.add (Addr.add (Addr.mk r1 0 none) 1) 0) (Value.slice x66.a x66.len x66.cap) ∧
 ∃ b67 : Addr, x66.a = some b67 ∧ 0 ≤ x63 ∧ x63 < ((x66.len : Nat) : Int) ∧
 ∃ x68 : SV, H.rd h64 (Addr.add (Addr.add b67 ((x63).toNat * 1)) 0) (Value.slice x68.a x68.len x68.cap) ∧
 ∃ R69 : H → Prop, (
 ∃ I70 : Nat → Int → H → Prop, (∃ n71, (∃ h73, Gh h64 h73 ∧ I70 n71 (0 : Int) h73)) ∧
 ∀ (n71 : Nat) (_ : F) (x74 : Int) (h75 : H), I70 n71 x74 h75 →
 f80_L4 post r1 x40 x63 x68 R69 I70 n71 x74 h75) ∧
 ∀ (_ : F) (h105 : H), R69 h105 →
 (∃ h106, Gh h105 h106 ∧ R65 h106)) ∧
 ∀ (_ : F) (h107 : H), R65 h107 →
 In64 (x63 + (1 : Int)) ∧
 ∃ m61, m61 < n60 ∧ (∃ h108, Gh h107 h108 ∧ I59 m61 (x63 + (1 : Int)) h108)) (
 (∃ h109, Gh h64 h109 ∧ R58 h109))

def f80_L6 (post : Value → H → Prop) (x40 : SV) (x122 : SV) (R123 : H → Prop) (I124 : Nat → Int → H → Prop) (n125 : Nat) (x128 : Int) (h129 : H) : Prop :=
 VIf (decide (x128 < ((x122.len : Nat) : Int))) (
 ∃ b130 : Addr, x122.a = some b130 ∧ 0 ≤ x128 ∧ x128 < ((x122.len : Nat) : Int) ∧
 ∃ x131 : Int, H.rd h129 (Addr.add (Addr.add b130 ((x128).toNat * 1)) 0) (Value.int .i64 x131) ∧
 ∃ b132 : Addr, x40.a = some b132 ∧ 0 ≤ x128 ∧ x128 < ((x40.len : Nat) : Int) ∧
 ∃ x133 : Int, H.rd h129 (Addr.add (Addr.add b132 ((x128).toNat * 1)) 0) (Value.int .i64 x133) ∧
 VIf (decide (x131 > x133)) (
 VRet h129 (Value.iface 57 (Value.int .i64 (6 : Int))) post) (
 In64 (x128 + (1 : Int)) ∧
 ∃ m126, m126 < n125 ∧ (∃ h134, Gh h129 h134 ∧ I124 m126 (x128 + (1 : Int)) h134))) (
 (∃ h135, Gh h129 h135 ∧ R123 h135))

def f80_L7 (post : Value → H → Prop) (r1 : Nat) (x40 : SV) (x111 : SV) (R112 : H → Prop) (I113 : Nat → Int → H → Prop) (n114 : Nat) (x117 : Int) (h118 : H) : Prop :=
 VIf (decide (x117 < ((x111.len : Nat) : Int))) (
 ∃ R119 : H → Prop, (
 ∃ x120 : SV, H.rd h118 (Addr.add (Addr.add (Addr.mk r1 0 none) 1) 0) (Value.slice x120.a x120.len x120.cap) ∧
 ∃ b121 : Addr, x120.a = some b121 ∧ 0 ≤ x117 ∧ x117 < ((x120.len : Nat) : Int) ∧
 ∃ x122 : SV, H.rd h118 (Addr.add (Addr.add b121 ((x117).toNat * 1)) 0) (Value.slice x122.a x122.len x122.cap) ∧
 ∃ R123 : H → Prop, (
 ∃ I124 : Nat → Int → H → Prop, (∃ n125, (∃ h127, Gh h118 h127 ∧ I124 n125 (0 : Int) h127)) ∧
 ∀ (n125 : Nat) (_ : F) (x128 : Int) (h129 : H), I124 n125 x128 h129 →
 f80_L6 post x40 x122 R123 I124 n125 x128 h129) ∧
 ∀ (_ : F) (h136 : H), R123 h136 →
 (∃ h137, Gh h136 h137 ∧ R119 h137)) ∧
 ∀ (_ : F) (h138 : H), R119 h138 →
 In64 (x117 + (1 : Int)) ∧
 ∃ m115, m115 < n114 ∧ (∃ h139, Gh h138 h139 ∧ I113 m115 (x117 + (1 : Int)) h139)) (
 (∃ h140, Gh h118 h140 ∧ R112 h140))

def f80_J8 (post : Value → H → Prop) (r1 : Nat) (x40 : SV) (h56 : H) : Prop :=
 ∃ x57 : SV, H.rd h56 (Addr.add (Addr.add (Addr.mk r1 0 none) 1) 0) (Value.slice x57.a x57.len x57.cap) ∧
 ∃ R58 : H → Prop, (
 ∃ I59 : Nat → Int → H → Prop, (∃ n60, (∃ h62, Gh h56 h62 ∧ I59 n60 (0 : Int) h62)) ∧
 ∀ (n60 : Nat) (_ : F) (x63 : Int) (h64 : H), I59 n60 x63 h64 →
 f80_L5 post r1 x40 x57 R58 I59 n60 x63 h64) ∧
 ∀ (_ : F) (h110 : H), R58 h110 →
 ∃ x111 : SV, H.rd h110 (Addr.add (Addr.add (Addr.mk r1 0 none) 1) 0) (Value.slice x111.a x111.len x111.cap) ∧
 ∃ R112 : H → Prop, (
 ∃ I113 : Nat → Int → H → Prop, (∃ n114, (∃ h116, Gh h110 h116 ∧ I113 n114 (0 : Int) h116)) ∧
 ∀ (n114 : Nat) (_ : F) (x117 : Int) (h118 : H), I113 n114 x117 h118 →
 f80_L7 post r1 x40 x111 R112 I113 n114 x117 h118) ∧
 ∀ (_ : F) (h141 : H), R112 h141 →
 VRet h141 Value.nilIface post

def f80_J9 (post : Value → H → Prop) (r1 : Nat) (h36 : H) : Prop :=
 ∃ x37 : SV, H.rd h36 (Addr.add (Addr.add (Addr.mk r1 0 none) 0) 0) (Value.slice x37.a x37.len x37.cap) ∧
 SemCall Go.Proofs.Tryz.prog 63 (List.toArray [(Value.slice x37.a x37.len x37.cap)]) h36 fun v38 h39 =>
 ∃ x40 : SV, v38 = (Value.slice x40.a x40.len x40.cap) ∧
 ∃ x41 : SV, H.rd h39 (Addr.add (Addr.add (Addr.mk r1 0 none) 0) 0) (Value.slice x41.a x41.len x41.cap) ∧
 ∃ R42 : H → Prop, (
 ∃ I43 : Nat → Int → H → Prop, (∃ n44, (∃ h46, Gh h39 h46 ∧ I43 n44 (0 : Int) h46)) ∧
 ∀ (n44 : Nat) (_ : F) (x47 : Int) (h48 : H), I43 n44 x47 h48 →
 f80_L2 post x41 R42 I43 n44 x47 h48) ∧
 ∀ (_ : F) (h56 : H), R42 h56 →
 f80_J8 post r1 x40 h56

def f80_J10 (post : Value → H → Prop) (r1 : Nat) (x9 : Bool) (h10 : H) : Prop :=
 VIf x9 (
 VRet h10 (Value.iface 57 (Value.int .i64 (4 : Int))) post) (
 ∃ x11 : SV, H.rd h10 (Addr.add (Addr.add (Addr.mk r1 0 none) 2) 0) (Value.slice x11.a x11.len x11.cap) ∧
 ∃ x12 : SV, H.rd h10 (Addr.add (Addr.add (Addr.mk r1 0 none) 1) 0) (Value.slice x12.a x12.len x12.cap) ∧
 VIf (((x11.len : Nat) : Int) != ((x12.len : Nat) : Int)) (
 VRet h10 (Value.iface 57 (Value.int .i64 (3 : Int))) post) (
 ∃ x13 : SV, H.rd h10 (Addr.add (Addr.add (Addr.mk r1 0 none) 1) 0) (Value.slice x13.a x13.len x13.cap) ∧
 ∃ R14 : H → Prop, (
 ∃ I15 : Nat → Int → H → Prop, (∃ n16, (∃ h18, Gh h10 h18 ∧ I15 n16 (0 : Int) h18)) ∧
 ∀ (n16 : Nat) (_ : F) (x19 : Int) (h20 : H), I15 n16 x19 h20 →
 f80_L1 post r1 x13 R14 I15 n16 x19 h20) ∧
 ∀ (_ : F) (h36 : H), R14 h36 →
 f80_J9 post r1 h36))

def f80_sem (p0_0_b : SV) (p0_1_b : SV) (p0_2_b : SV) (h0 : H) (post : Value → H → Prop) : Prop :=
 H.new h0 [(Value.slice p0_0_b.a p0_0_b.len p0_0_b.cap), (Value.slice p0_1_b.a p0_1_b.len p0_1_b.cap), (Value.slice p0_2_b.a p0_2_b.len p0_2_b.cap)] fun r1 h2 =>
 ∃ x3 : SV, H.rd h2 (Addr.add (Addr.add (Addr.mk r1 0 none) 0) 0) (Value.slice x3.a x3.len x3.cap) ∧
 VIf (((x3.len : Nat) : Int) == (0 : Int)) (
 VRet h2 (Value.iface 57 (Value.int .i64 (5 : Int))) post) (
 ∃ R4 : Bool → H → Prop, (
 ∃ x5 : SV, H.rd h2 (Addr.add (Addr.add (Addr.mk r1 0 none) 0) 0) (Value.slice x5.a x5.len x5.cap) ∧
 VIf (decide (((x5.len : Nat) : Int) > (3 : Int))) (
 (∃ h6, Gh h2 h6 ∧ R4 true h6)) (
 ∃ x7 : SV, H.rd h2 (Addr.add (Addr.add (Addr.mk r1 0 none) 1) 0) (Value.slice x7.a x7.len x7.cap) ∧
 (∃ h8, Gh h2 h8 ∧ R4 (decide (((x7.len : Nat) : Int) > (5 : Int))) h8))) ∧
 ∀ (_ : F) (x9 : Bool) (h10 : H), R4 x9 h10 →
 f80_J10 post r1 x9 h10)

def f80_hint : Hint := (.node .leaf (.node .leaf (.node (.node (.join [(27, .bool)] .leaf) .leaf) (.node .leaf (.node (.node .leaf (.join [] (.node (.loop [(40, .int)] (.node .leaf (.node .leaf (.node (.node (.node .leaf (.node (.join [(64, .bool)] .leaf) .leaf)) .leaf) .leaf)))) .leaf))) (.node .leaf (.node (.node .leaf (.join [] (.node (.loop [(73, .int)] .leaf) .leaf))) (.node (.node .leaf (.join [] (.node (.loop [(85, .int)] (.node .leaf (.node .leaf (.node (.join [] (.node (.node .leaf (.node .leaf (.join [] (.node (.loop [(94, .int)] (.node .leaf (.node .leaf (.node (.node (.node .leaf (.node (.node (.join [(114, .bool)] .leaf) .leaf) (.tail 14))) .leaf) .leaf)))) .leaf)))) .leaf)) .leaf)))) .leaf))) (.node (.node .leaf (.join [] (.node (.loop [(135, .int)] (.node .leaf (.node .leaf (.node (.join [] (.node (.node .leaf (.node .leaf (.join [] (.node (.loop [(144, .int)] .leaf) .leaf)))) .leaf)) .leaf)))) .leaf))) .leaf)))))))))

theorem f80_eq (p0_0_b : SV) (p0_1_b : SV) (p0_2_b : SV) (h0 : H) (post : Value → H → Prop) : exec Tryz.prog (bodyOf Tryz.f80) f80_hint (retQ Tryz.prog Tryz.f80 post) (F0 [(Value.agg (List.toArray [(Value.slice p0_0_b.a p0_0_b.len p0_0_b.cap), (Value.slice p0_1_b.a p0_1_b.len p0_1_b.cap), (Value.slice p0_2_b.a p0_2_b.len p0_2_b.cap)]))]) h0 = f80_sem p0_0_b p0_1_b p0_2_b h0 post := by kernel_rfl

set_option maxRecDepth 20000 in
theorem f80_call (p0_0_b : SV) (p0_1_b : SV) (p0_2_b : SV) (h0 : H) (post : Value → H → Prop) (hx : f80_sem p0_0_b p0_1_b p0_2_b h0 post) : SemCall Tryz.prog 80 (List.toArray [(Value.agg (List.toArray [(Value.slice p0_0_b.a p0_0_b.len p0_0_b.cap), (Value.slice p0_1_b.a p0_1_b.len p0_1_b.cap), (Value.slice p0_2_b.a p0_2_b.len p0_2_b.cap)]))]) h0 post :=
 sem_of_exec (g := f80_hint) mixed Tryz.func80 (bodyOf_eq (by kernel_rfl)) (by kernel_rfl) ((f80_eq p0_0_b p0_1_b p0_2_b h0 post).mpr hx)

/- latchgarth/latchgarthref4.in -/
def f90_sem (p0_n : Int) (p1_low : Int) (p2_high : Int) (h0 : H) (post : Value → H → Prop) : Prop :=
 ∃ R1 : Bool → H → Prop, (
 VIf (decide (p0_n ≥ p1_low)) (
 (∃ h2, Gh h0 h2 ∧ R1 (decide (p0_n ≤ p2_high)) h2)) (
 (∃ h3, Gh h0 h3 ∧ R1 false h3))) ∧
 ∀ (_ : F) (x4 : Bool) (h5 : H), R1 x4 h5 →
 VRet h5 (Value.bool x4) post

def f90_hint : Hint := (.node .leaf (.node (.join [(6, .bool)] .leaf) .leaf))

theorem f90_eq (p0_n : Int) (p1_low : Int) (p2_high : Int) (h0 : H) (post : Value → H → Prop) : exec Tryz.prog (bodyOf Tryz.f90) f90_hint (retQ Tryz.prog Tryz.f90 post) (F0 [(Value.int .i64 p0_n), (Value.int .i64 p1_low), (Value.int .i64 p2_high)]) h0 = f90_sem p0_n p1_low p2_high h0 post := by kernel_rfl

set_option maxRecDepth 20000 in
theorem f90_call (p0_n : Int) (p1_low : Int) (p2_high : Int) (h0 : H) (post : Value → H → Prop) (hx : f90_sem p0_n p1_low p2_high h0 post) : SemCall Tryz.prog 90 (List.toArray [(Value.int .i64 p0_n), (Value.int .i64 p1_low), (Value.int .i64 p2_high)]) h0 post :=
 sem_of_exec (g := f90_hint) mixed Tryz.func90 (bodyOf_eq (by kernel_rfl)) (by kernel_rfl) ((f90_eq p0_n p1_low p2_high h0 post).mpr hx)

/- latchgarth/latchgarthref4.All -/
def f91_L1 (p1_k : Int) (r1 : Nat) (R6 : Int → H → Prop) (I7 : Nat → Int → Int → H → Prop) (n8 : Nat) (x11_n : Int) (x12_t : Int) (h13 : H) : Prop :=
 ∃ x14 : SV, H.rd h13 (Addr.add (Addr.add (Addr.mk r1 0 none) 2) 0) (Value.slice x14.a x14.len x14.cap) ∧
 VIf (decide (x12_t < ((x14.len : Nat) : Int))) (
 ∃ x15 : SV, H.rd h13 (Addr.add (Addr.add (Addr.mk r1 0 none) 2) 0) (Value.slice x15.a x15.len x15.cap) ∧
 ∃ b16 : Addr, x15.a = some b16 ∧ 0 ≤ x12_t ∧ x12_t < ((x15.len : Nat) : Int) ∧
 ∃ x17 : SV, H.rd h13 (Addr.add (Addr.add b16 ((x12_t).toNat * 1)) 0) (Value.slice x17.a x17.len x17.cap) ∧
 ∃ b18 : Addr, x17.a = some b18 ∧ 0 ≤ p1_k ∧ p1_k < ((x17.len : Nat) : Int) ∧
 ∃ x19 : Int, H.rd h13 (Addr.add (Addr.add b18 ((p1_k).toNat * 1)) 0) (Value.int .i64 x19) ∧
 In64 (x11_n + x19) ∧
 In64 (x12_t + (1 : Int)) ∧
 ∃ m9, m9 < n8 ∧ (∃ h20, Gh h13 h20 ∧ I7 m9 (x11_n + x19) (x12_t + (1 : Int)) h20)) (
 (∃ h21, Gh h13 h21 ∧ R6 x11_n h21))

def f91_sem (p0_0_b : SV) (p0_1_b : SV) (p0_2_b : SV) (p1_k : Int) (h0 : H) (post : Value → H → Prop) : Prop :=
 H.new h0 [(Value.slice p0_0_b.a p0_0_b.len p0_0_b.cap), (Value.slice p0_1_b.a p0_1_b.len p0_1_b.cap), (Value.slice p0_2_b.a p0_2_b.len p0_2_b.cap)] fun r1 h2 =>
 ∃ x3 : SV, H.rd h2 (Addr.add (Addr.add (Addr.mk r1 0 none) 0) 0) (Value.slice x3.a x3.len x3.cap) ∧
 ∃ b4 : Addr, x3.a = some b4 ∧ 0 ≤ p1_k ∧ p1_k < ((x3.len : Nat) : Int) ∧
 ∃ x5 : Int, H.rd h2 (Addr.add (Addr.add b4 ((p1_k).toNat * 1)) 0) (Value.int .i64 x5) ∧
 ∃ R6 : Int → H → Prop, (
 ∃ I7 : Nat → Int → Int → H → Prop, (∃ n8, (∃ h10, Gh h2 h10 ∧ I7 n8 x5 (0 : Int) h10)) ∧
 ∀ (n8 : Nat) (_ : F) (x11_n : Int) (x12_t : Int) (h13 : H), I7 n8 x11_n x12_t h13 →
 f91_L1 p1_k r1 R6 I7 n8 x11_n x12_t h13) ∧
 ∀ (_ : F) (x22_n : Int) (h23 : H), R6 x22_n h23 →
 VRet h23 (Value.int .i64 x22_n) post

def f91_hint : Hint := (.node .leaf (.node .leaf (.node (.node .leaf (.join [(5, .int)] (.node (.loop [(5, .int), (6, .int)] .leaf) .leaf))) .leaf)))

theorem f91_eq (p0_0_b : SV) (p0_1_b : SV) (p0_2_b : SV) (p1_k : Int) (h0 : H) (post : Value → H → Prop) : exec Tryz.prog (bodyOf Tryz.f91) f91_hint (retQ Tryz.prog Tryz.f91 post) (F0 [(Value.agg (List.toArray [(Value.slice p0_0_b.a p0_0_b.len p0_0_b.cap), (Value.slice p0_1_b.a p0_1_b.len p0_1_b.cap), (Value.slice p0_2_b.a p0_2_b.len p0_2_b.cap)])), (Value.int .i64 p1_k)]) h0 = f91_sem p0_0_b p0_1_b p0_2_b p1_k h0 post := by kernel_rfl

set_option maxRecDepth 20000 in
theorem f91_call (p0_0_b : SV) (p0_1_b : SV) (p0_2_b : SV) (p1_k : Int) (h0 : H) (post : Value → H → Prop) (hx : f91_sem p0_0_b p0_1_b p0_2_b p1_k h0 post) : SemCall Tryz.prog 91 (List.toArray [(Value.agg (List.toArray [(Value.slice p0_0_b.a p0_0_b.len p0_0_b.cap), (Value.slice p0_1_b.a p0_1_b.len p0_1_b.cap), (Value.slice p0_2_b.a p0_2_b.len p0_2_b.cap)])), (Value.int .i64 p1_k)]) h0 post :=
 sem_of_exec (g := f91_hint) mixed Tryz.func91 (bodyOf_eq (by kernel_rfl)) (by kernel_rfl) ((f91_eq p0_0_b p0_1_b p0_2_b p1_k h0 post).mpr hx)

/- latchgarth/latchgarthref4.safeFrom -/
def f92_L1 (p1_told : SV) (x8_t : Int) (R18 : Bool → H → Prop) (I19 : Nat → Bool → Int → H → Prop) (n20 : Nat) (x23_here : Bool) (x24_k : Int) (h25 : H) : Prop :=
 VIf (decide (x24_k < ((p1_told.len : Nat) : Int))) (
 ∃ R26 : Bool → H → Prop, (
 VIf x23_here (
 (∃ h27, Gh h25 h27 ∧ R26 true h27)) (
 ∃ b28 : Addr, p1_told.a = some b28 ∧ 0 ≤ x24_k ∧ x24_k < ((p1_told.len : Nat) : Int) ∧
 ∃ x29 : Int, H.rd h25 (Addr.add (Addr.add b28 ((x24_k).toNat * 1)) 0) (Value.int .i64 x29) ∧
 (∃ h30, Gh h25 h30 ∧ R26 (x29 == x8_t) h30))) ∧
 ∀ (_ : F) (x31_here : Bool) (h32 : H), R26 x31_here h32 →
 In64 (x24_k + (1 : Int)) ∧
 ∃ m21, m21 < n20 ∧ (∃ h33, Gh h32 h33 ∧ I19 m21 x31_here (x24_k + (1 : Int)) h33)) (
 (∃ h34, Gh h25 h34 ∧ R18 x23_here h34))

def f92_J2 (p1_told : SV) (post : Value → H → Prop) (r1 : Nat) (x8_t : Int) (R17 : H → Prop) (x35_here : Bool) (h36 : H) : Prop :=
 VIf x35_here (
 (∃ h37, Gh h36 h37 ∧ R17 h37)) (
 ∃ x38 : SV, H.rd h36 (Addr.add (Addr.mk r1 0 none) 0) (Value.slice x38.a x38.len x38.cap) ∧
 ∃ x39 : SV, H.rd h36 (Addr.add (Addr.mk r1 0 none) 1) (Value.slice x39.a x39.len x39.cap) ∧
 ∃ x40 : SV, H.rd h36 (Addr.add (Addr.mk r1 0 none) 2) (Value.slice x40.a x40.len x40.cap) ∧
 SemCall Go.Proofs.Tryz.prog 109 (List.toArray [(Value.agg (List.toArray [(Value.slice x38.a x38.len x38.cap), (Value.slice x39.a x39.len x39.cap), (Value.slice x40.a x40.len x40.cap)])), (Value.int .i64 x8_t)]) h36 fun v41 h42 =>
 ∃ x43 : SV, ∃ x44 : SV, ∃ x45 : SV, ∃ x46 : Bool, v41 = (Value.tuple (List.toArray [(Value.agg (List.toArray [(Value.slice x43.a x43.len x43.cap), (Value.slice x44.a x44.len x44.cap), (Value.slice x45.a x45.len x45.cap)])), (Value.bool x46)])) ∧
 H.new h42 [(Value.slice none 0 0), (Value.slice none 0 0), (Value.slice none 0 0)] fun r47 h48 =>
 ([(Value.slice x43.a x43.len x43.cap), (Value.slice x44.a x44.len x44.cap), (Value.slice x45.a x45.len x45.cap)]).length = 3 ∧ (Program.underlying Go.Proofs.Tryz.prog 25).isSome = true ∧
 H.wr h48 (Addr.mk r47 0 none) ([(Value.slice x43.a x43.len x43.cap), (Value.slice x44.a x44.len x44.cap), (Value.slice x45.a x45.len x45.cap)]) fun h49 =>
 VIf x46 (
 appVC Go.Proofs.Tryz.prog 22 (Value.slice none 0 0) (Value.slice p1_told.a p1_told.len p1_told.cap) h49 fun x50 h51 =>
 ∃ R52 : SV → H → Prop, (
 (
 ∃ x53 : SV, H.rd h51 (Addr.add (Addr.mk r47 0 none) 0) (Value.slice x53.a x53.len x53.cap) ∧
 ∃ x54 : SV, H.rd h51 (Addr.add (Addr.mk r47 0 none) 1) (Value.slice x54.a x54.len x54.cap) ∧
 ∃ x55 : SV, H.rd h51 (Addr.add (Addr.mk r47 0 none) 2) (Value.slice x55.a x55.len x55.cap) ∧
 H.new h51 [(Value.int .i64 x8_t)] fun r56 h57 =>
 appVC Go.Proofs.Tryz.prog 22 (Value.slice x50.a x50.len x50.cap) (Value.slice (some (Addr.mk r56 0 none)) 1 1) h57 fun x58 h59 =>
 SemCall Go.Proofs.Tryz.prog 92 (List.toArray [(Value.agg (List.toArray [(Value.slice x53.a x53.len x53.cap), (Value.slice x54.a x54.len x54.cap), (Value.slice x55.a x55.len x55.cap)])), (Value.slice x58.a x58.len x58.cap)]) h59 fun v60 h61 =>
 ∃ x62 : SV, v60 = (Value.slice x62.a x62.len x62.cap) ∧
 (∃ h63, Gh h61 h63 ∧ R52 x62 h63)) ∧
 (
 H.new h51 [(Value.int .i64 x8_t)] fun r64 h65 =>
 (
 ∃ x66 : SV, H.rd h65 (Addr.add (Addr.mk r47 0 none) 0) (Value.slice x66.a x66.len x66.cap) ∧
 ∃ x67 : SV, H.rd h65 (Addr.add (Addr.mk r47 0 none) 1) (Value.slice x67.a x67.len x67.cap) ∧
 ∃ x68 : SV, H.rd h65 (Addr.add (Addr.mk r47 0 none) 2) (Value.slice x68.a x68.len x68.cap) ∧
 appVC Go.Proofs.Tryz.prog 22 (Value.slice x50.a x50.len x50.cap) (Value.slice (some (Addr.mk r64 0 none)) 1 1) h65 fun x69 h70 =>
 SemCall Go.Proofs.Tryz.prog 92 (List.toArray [(Value.agg (List.toArray [(Value.slice x66.a x66.len x66.cap), (Value.slice x67.a x67.len x67.cap), (Value.slice x68.a x68.len x68.cap)])), (Value.slice x69.a x69.len x69.cap)]) h70 fun v71 h72 =>
 ∃ x73 : SV, v71 = (Value.slice x73.a x73.len x73.cap) ∧
 (∃ h74, Gh h72 h74 ∧ R52 x73 h74)) ∧
 (
 appVC Go.Proofs.Tryz.prog 22 (Value.slice x50.a x50.len x50.cap) (Value.slice (some (Addr.mk r64 0 none)) 1 1) h65 fun x75 h76 =>
 ∃ x77 : SV, H.rd h76 (Addr.add (Addr.mk r47 0 none) 0) (Value.slice x77.a x77.len x77.cap) ∧
 ∃ x78 : SV, H.rd h76 (Addr.add (Addr.mk r47 0 none) 1) (Value.slice x78.a x78.len x78.cap) ∧
 ∃ x79 : SV, H.rd h76 (Addr.add (Addr.mk r47 0 none) 2) (Value.slice x79.a x79.len x79.cap) ∧
 SemCall Go.Proofs.Tryz.prog 92 (List.toArray [(Value.agg (List.toArray [(Value.slice x77.a x77.len x77.cap), (Value.slice x78.a x78.len x78.cap), (Value.slice x79.a x79.len x79.cap)])), (Value.slice x75.a x75.len x75.cap)]) h76 fun v80 h81 =>
 ∃ x82 : SV, v80 = (Value.slice x82.a x82.len x82.cap) ∧
 (∃ h83, Gh h81 h83 ∧ R52 x82 h83)))) ∧
 ∀ (_ : F) (x84_all : SV) (h85 : H), R52 x84_all h85 →
 ∃ x86 : SV, H.rd h85 (Addr.add (Addr.add (Addr.mk r1 0 none) 1) 0) (Value.slice x86.a x86.len x86.cap) ∧
 VIf (((x84_all.len : Nat) : Int) == ((x86.len : Nat) : Int)) (
 VRet h85 (Value.slice x84_all.a x84_all.len x84_all.cap) post) (
 (∃ h87, Gh h85 h87 ∧ R17 h87))) (
 (∃ h88, Gh h49 h88 ∧ R17 h88)))

def f92_J3 (p1_told : SV) (post : Value → H → Prop) (r1 : Nat) (R3 : H → Prop) (I4 : Nat → Int → H → Prop) (n5 : Nat) (x8_t : Int) (x15 : Bool) (h16 : H) : Prop :=
 VIf x15 (
 ∃ R17 : H → Prop, (
 ∃ R18 : Bool → H → Prop, (
 ∃ I19 : Nat → Bool → Int → H → Prop, (∃ n20, (∃ h22, Gh h16 h22 ∧ I19 n20 false (0 : Int) h22)) ∧
 ∀ (n20 : Nat) (_ : F) (x23_here : Bool) (x24_k : Int) (h25 : H), I19 n20 x23_here x24_k h25 →
 f92_L1 p1_told x8_t R18 I19 n20 x23_here x24_k h25) ∧
 ∀ (_ : F) (x35_here : Bool) (h36 : H), R18 x35_here h36 →
 f92_J2 p1_told post r1 x8_t R17 x35_here h36) ∧
 ∀ (_ : F) (h89 : H), R17 h89 →
 In64 (x8_t + (1 : Int)) ∧
 ∃ m6, m6 < n5 ∧ (∃ h90, Gh h89 h90 ∧ I4 m6 (x8_t + (1 : Int)) h90)) (
 (∃ h91, Gh h16 h91 ∧ R3 h91))

def f92_L4 (p1_told : SV) (post : Value → H → Prop) (r1 : Nat) (R3 : H → Prop) (I4 : Nat → Int → H → Prop) (n5 : Nat) (x8_t : Int) (h9 : H) : Prop :=
 ∃ R10 : Bool → H → Prop, (
 ∃ x11 : SV, H.rd h9 (Addr.add (Addr.add (Addr.mk r1 0 none) 1) 0) (Value.slice x11.a x11.len x11.cap) ∧
 VIf (decide (x8_t < ((x11.len : Nat) : Int))) (
 ∃ x12 : SV, H.rd h9 (Addr.add (Addr.add (Addr.mk r1 0 none) 1) 0) (Value.slice x12.a x12.len x12.cap) ∧
 (∃ h13, Gh h9 h13 ∧ R10 (decide (((p1_told.len : Nat) : Int) < ((x12.len : Nat) : Int))) h13)) (
 (∃ h14, Gh h9 h14 ∧ R10 false h14))) ∧
 ∀ (_ : F) (x15 : Bool) (h16 : H), R10 x15 h16 →
 f92_J3 p1_told post r1 R3 I4 n5 x8_t x15 h16

def f92_sem (p0_0_b : SV) (p0_1_b : SV) (p0_2_b : SV) (p1_told : SV) (h0 : H) (post : Value → H → Prop) : Prop :=
 H.new h0 [(Value.slice p0_0_b.a p0_0_b.len p0_0_b.cap), (Value.slice p0_1_b.a p0_1_b.len p0_1_b.cap), (Value.slice p0_2_b.a p0_2_b.len p0_2_b.cap)] fun r1 h2 =>
 ∃ R3 : H → Prop, (
 ∃ I4 : Nat → Int → H → Prop, (∃ n5, (∃ h7, Gh h2 h7 ∧ I4 n5 (0 : Int) h7)) ∧
 ∀ (n5 : Nat) (_ : F) (x8_t : Int) (h9 : H), I4 n5 x8_t h9 →
 f92_L4 p1_told post r1 R3 I4 n5 x8_t h9) ∧
 ∀ (_ : F) (h92 : H), R3 h92 →
 VRet h92 (Value.slice p1_told.a p1_told.len p1_told.cap) post

def f92_hint : Hint := (.node .leaf (.node (.node .leaf (.join [] (.node (.loop [(5, .int)] (.node (.node (.join [(24, .bool)] .leaf) .leaf) (.node (.join [] (.node (.node .leaf (.node (.node .leaf (.join [(6, .bool)] (.node (.loop [(6, .bool), (7, .int)] (.node .leaf (.node (.node (.join [(6, .bool)] .leaf) .leaf) .leaf))) .leaf))) (.node .leaf (.node .leaf (.node .leaf (.node (.node .leaf (.node .leaf (.node (.join [(11, .sl)] .any) .leaf))) .leaf)))))) .leaf)) .leaf))) .leaf))) .leaf))

theorem f92_eq (p0_0_b : SV) (p0_1_b : SV) (p0_2_b : SV) (p1_told : SV) (h0 : H) (post : Value → H → Prop) : exec Tryz.prog (bodyOf Tryz.f92) f92_hint (retQ Tryz.prog Tryz.f92 post) (F0 [(Value.agg (List.toArray [(Value.slice p0_0_b.a p0_0_b.len p0_0_b.cap), (Value.slice p0_1_b.a p0_1_b.len p0_1_b.cap), (Value.slice p0_2_b.a p0_2_b.len p0_2_b.cap)])), (Value.slice p1_told.a p1_told.len p1_told.cap)]) h0 = f92_sem p0_0_b p0_1_b p0_2_b p1_told h0 post := by kernel_rfl

set_option maxRecDepth 20000 in
theorem f92_call (p0_0_b : SV) (p0_1_b : SV) (p0_2_b : SV) (p1_told : SV) (h0 : H) (post : Value → H → Prop) (hx : f92_sem p0_0_b p0_1_b p0_2_b p1_told h0 post) : SemCall Tryz.prog 92 (List.toArray [(Value.agg (List.toArray [(Value.slice p0_0_b.a p0_0_b.len p0_0_b.cap), (Value.slice p0_1_b.a p0_1_b.len p0_1_b.cap), (Value.slice p0_2_b.a p0_2_b.len p0_2_b.cap)])), (Value.slice p1_told.a p1_told.len p1_told.cap)]) h0 post :=
 sem_of_exec (g := f92_hint) mixed Tryz.func92 (bodyOf_eq (by kernel_rfl)) (by kernel_rfl) ((f92_eq p0_0_b p0_1_b p0_2_b p1_told h0 post).mpr hx)

/- latchgarth/latchgarthref4.Lend -/
def f93_J1 (p2_want : SV) (R36 : Int → H → Prop) (I37 : Nat → Int → Int → H → Prop) (n38 : Nat) (x41_e : Int) (x42_k : Int) (x47 : Bool) (h48 : H) : Prop :=
 VIf x47 (
 ∃ b49 : Addr, p2_want.a = some b49 ∧ 0 ≤ x42_k ∧ x42_k < ((p2_want.len : Nat) : Int) ∧
 ∃ x50 : Int, H.rd h48 (Addr.add (Addr.add b49 ((x42_k).toNat * 1)) 0) (Value.int .i64 x50) ∧
 SemCall Go.Proofs.Tryz.prog 90 (List.toArray [(Value.int .i64 x50), (Value.int .i64 0), (Value.int .i64 (1000 : Int))]) h48 fun v51 h52 =>
 ∃ x53 : Bool, v51 = (Value.bool x53) ∧
 VIf (!x53) (
 In64 (x42_k + (1 : Int)) ∧
 ∃ m39, m39 < n38 ∧ (∃ h54, Gh h52 h54 ∧ I37 m39 (1 : Int) (x42_k + (1 : Int)) h54)) (
 In64 (x42_k + (1 : Int)) ∧
 ∃ m39, m39 < n38 ∧ (∃ h55, Gh h52 h55 ∧ I37 m39 x41_e (x42_k + (1 : Int)) h55))) (
 (∃ h56, Gh h48 h56 ∧ R36 x41_e h56))

def f93_L2 (p2_want : SV) (R36 : Int → H → Prop) (I37 : Nat → Int → Int → H → Prop) (n38 : Nat) (x41_e : Int) (x42_k : Int) (h43 : H) : Prop :=
 ∃ R44 : Bool → H → Prop, (
 VIf (decide (x42_k < ((p2_want.len : Nat) : Int))) (
 (∃ h45, Gh h43 h45 ∧ R44 (x41_e == (0 : Int)) h45)) (
 (∃ h46, Gh h43 h46 ∧ R44 false h46))) ∧
 ∀ (_ : F) (x47 : Bool) (h48 : H), R44 x47 h48 →
 f93_J1 p2_want R36 I37 n38 x41_e x42_k x47 h48

def f93_J3 (p1_t : Int) (p2_want : SV) (p3_back : Bool) (post : Value → H → Prop) (r1 : Nat) (r3 : Nat) (I64 : Nat → Int → H → Prop) (n65 : Nat) (x68_k : Int) (x80 : Bool) (h81 : H) : Prop :=
 VIf x80 (
 ([(Value.slice none 0 0), (Value.slice none 0 0), (Value.slice none 0 0)]).length = 3 ∧ (Program.underlying Go.Proofs.Tryz.prog 25).isSome = true ∧
 H.wr h81 (Addr.mk r3 0 none) ([(Value.slice none 0 0), (Value.slice none 0 0), (Value.slice none 0 0)]) fun h82 =>
 ∃ x83 : SV, H.rd h82 (Addr.add (Addr.mk r3 0 none) 0) (Value.slice x83.a x83.len x83.cap) ∧
 ∃ x84 : SV, H.rd h82 (Addr.add (Addr.mk r3 0 none) 1) (Value.slice x84.a x84.len x84.cap) ∧
 ∃ x85 : SV, H.rd h82 (Addr.add (Addr.mk r3 0 none) 2) (Value.slice x85.a x85.len x85.cap) ∧
 VRet h82 (Value.tuple (List.toArray [(Value.agg (List.toArray [(Value.slice x83.a x83.len x83.cap), (Value.slice x84.a x84.len x84.cap), (Value.slice x85.a x85.len x85.cap)])), (Value.int .i64 (5 : Int))])) post) (
 ∃ R86 : Bool → H → Prop, (
 VIf (!p3_back) (
 ∃ x87 : SV, H.rd h81 (Addr.add (Addr.add (Addr.mk r1 0 none) 2) 0) (Value.slice x87.a x87.len x87.cap) ∧
 ∃ b88 : Addr, x87.a = some b88 ∧ 0 ≤ p1_t ∧ p1_t < ((x87.len : Nat) : Int) ∧
 ∃ x89 : SV, H.rd h81 (Addr.add (Addr.add b88 ((p1_t).toNat * 1)) 0) (Value.slice x89.a x89.len x89.cap) ∧
 ∃ b90 : Addr, x89.a = some b90 ∧ 0 ≤ x68_k ∧ x68_k < ((x89.len : Nat) : Int) ∧
 ∃ x91 : Int, H.rd h81 (Addr.add (Addr.add b90 ((x68_k).toNat * 1)) 0) (Value.int .i64 x91) ∧
 ∃ b92 : Addr, p2_want.a = some b92 ∧ 0 ≤ x68_k ∧ x68_k < ((p2_want.len : Nat) : Int) ∧
 ∃ x93 : Int, H.rd h81 (Addr.add (Addr.add b92 ((x68_k).toNat * 1)) 0) (Value.int .i64 x93) ∧
 In64 (x91 + x93) ∧
 ∃ x94 : SV, H.rd h81 (Addr.add (Addr.add (Addr.mk r1 0 none) 1) 0) (Value.slice x94.a x94.len x94.cap) ∧
 ∃ b95 : Addr, x94.a = some b95 ∧ 0 ≤ p1_t ∧ p1_t < ((x94.len : Nat) : Int) ∧
 ∃ x96 : SV, H.rd h81 (Addr.add (Addr.add b95 ((p1_t).toNat * 1)) 0) (Value.slice x96.a x96.len x96.cap) ∧
 ∃ b97 : Addr, x96.a = some b97 ∧ 0 ≤ x68_k ∧ x68_k < ((x96.len : Nat) : Int) ∧
 ∃ x98 : Int, H.rd h81 (Addr.add (Addr.add b97 ((x68_k).toNat * 1)) 0) (Value.int .i64 x98) ∧
 (∃ h99, Gh h81 h99 ∧ R86 (decide ((x91 + x93) > x98)) h99)) (
 (∃ h100, Gh h81 h100 ∧ R86 false h100))) ∧
 ∀ (_ : F) (x101 : Bool) (h102 : H), R86 x101 h102 →
 VIf x101 (
 ([(Value.slice none 0 0), (Value.slice none 0 0), (Value.slice none 0 0)]).length = 3 ∧ (Program.underlying Go.Proofs.Tryz.prog 25).isSome = true ∧
 H.wr h102 (Addr.mk r3 0 none) ([(Value.slice none 0 0), (Value.slice none 0 0), (Value.slice none 0 0)]) fun h103 =>
 ∃ x104 : SV, H.rd h103 (Addr.add (Addr.mk r3 0 none) 0) (Value.slice x104.a x104.len x104.cap) ∧
 ∃ x105 : SV, H.rd h103 (Addr.add (Addr.mk r3 0 none) 1) (Value.slice x105.a x105.len x105.cap) ∧
 ∃ x106 : SV, H.rd h103 (Addr.add (Addr.mk r3 0 none) 2) (Value.slice x106.a x106.len x106.cap) ∧
 VRet h103 (Value.tuple (List.toArray [(Value.agg (List.toArray [(Value.slice x104.a x104.len x104.cap), (Value.slice x105.a x105.len x105.cap), (Value.slice x106.a x106.len x106.cap)])), (Value.int .i64 (6 : Int))])) post) (
 In64 (x68_k + (1 : Int)) ∧
 ∃ m66, m66 < n65 ∧ (∃ h107, Gh h102 h107 ∧ I64 m66 (x68_k + (1 : Int)) h107)))

def f93_L4 (p1_t : Int) (p2_want : SV) (p3_back : Bool) (post : Value → H → Prop) (r1 : Nat) (r3 : Nat) (R63 : H → Prop) (I64 : Nat → Int → H → Prop) (n65 : Nat) (x68_k : Int) (h69 : H) : Prop :=
 VIf (decide (x68_k < ((p2_want.len : Nat) : Int))) (
 ∃ R70 : Bool → H → Prop, (
 VIf p3_back (
 ∃ b71 : Addr, p2_want.a = some b71 ∧ 0 ≤ x68_k ∧ x68_k < ((p2_want.len : Nat) : Int) ∧
 ∃ x72 : Int, H.rd h69 (Addr.add (Addr.add b71 ((x68_k).toNat * 1)) 0) (Value.int .i64 x72) ∧
 ∃ x73 : SV, H.rd h69 (Addr.add (Addr.add (Addr.mk r1 0 none) 2) 0) (Value.slice x73.a x73.len x73.cap) ∧
 ∃ b74 : Addr, x73.a = some b74 ∧ 0 ≤ p1_t ∧ p1_t < ((x73.len : Nat) : Int) ∧
 ∃ x75 : SV, H.rd h69 (Addr.add (Addr.add b74 ((p1_t).toNat * 1)) 0) (Value.slice x75.a x75.len x75.cap) ∧
 ∃ b76 : Addr, x75.a = some b76 ∧ 0 ≤ x68_k ∧ x68_k < ((x75.len : Nat) : Int) ∧
 ∃ x77 : Int, H.rd h69 (Addr.add (Addr.add b76 ((x68_k).toNat * 1)) 0) (Value.int .i64 x77) ∧
 (∃ h78, Gh h69 h78 ∧ R70 (decide (x72 > x77)) h78)) (
 (∃ h79, Gh h69 h79 ∧ R70 false h79))) ∧
 ∀ (_ : F) (x80 : Bool) (h81 : H), R70 x80 h81 →
 f93_J3 p1_t p2_want p3_back post r1 r3 I64 n65 x68_k x80 h81) (
 (∃ h108, Gh h69 h108 ∧ R63 h108))

def f93_L5 (p2_want : SV) (post : Value → H → Prop) (r1 : Nat) (r3 : Nat) (R122 : H → Prop) (I123 : Nat → Int → H → Prop) (n124 : Nat) (x127_k : Int) (h128 : H) : Prop :=
 VIf (decide (x127_k < ((p2_want.len : Nat) : Int))) (
 ∃ b129 : Addr, p2_want.a = some b129 ∧ 0 ≤ x127_k ∧ x127_k < ((p2_want.len : Nat) : Int) ∧
 ∃ x130 : Int, H.rd h128 (Addr.add (Addr.add b129 ((x127_k).toNat * 1)) 0) (Value.int .i64 x130) ∧
 ∃ x131 : SV, H.rd h128 (Addr.add (Addr.add (Addr.mk r1 0 none) 0) 0) (Value.slice x131.a x131.len x131.cap) ∧
 ∃ b132 : Addr, x131.a = some b132 ∧ 0 ≤ x127_k ∧ x127_k < ((x131.len : Nat) : Int) ∧
 ∃ x133 : Int, H.rd h128 (Addr.add (Addr.add b132 ((x127_k).toNat * 1)) 0) (Value.int .i64 x133) ∧
 VIf (decide (x130 > x133)) (
 ([(Value.slice none 0 0), (Value.slice none 0 0), (Value.slice none 0 0)]).length = 3 ∧ (Program.underlying Go.Proofs.Tryz.prog 25).isSome = true ∧
 H.wr h128 (Addr.mk r3 0 none) ([(Value.slice none 0 0), (Value.slice none 0 0), (Value.slice none 0 0)]) fun h134 =>
 ∃ x135 : SV, H.rd h134 (Addr.add (Addr.mk r3 0 none) 0) (Value.slice x135.a x135.len x135.cap) ∧
 ∃ x136 : SV, H.rd h134 (Addr.add (Addr.mk r3 0 none) 1) (Value.slice x136.a x136.len x136.cap) ∧
 ∃ x137 : SV, H.rd h134 (Addr.add (Addr.mk r3 0 none) 2) (Value.slice x137.a x137.len x137.cap) ∧
 VRet h134 (Value.tuple (List.toArray [(Value.agg (List.toArray [(Value.slice x135.a x135.len x135.cap), (Value.slice x136.a x136.len x136.cap), (Value.slice x137.a x137.len x137.cap)])), (Value.int .i64 (5 : Int))])) post) (
 In64 (x127_k + (1 : Int)) ∧
 ∃ m125, m125 < n124 ∧ (∃ h138, Gh h128 h138 ∧ I123 m125 (x127_k + (1 : Int)) h138))) (
 (∃ h139, Gh h128 h139 ∧ R122 h139))

def f93_J6 (p1_t : Int) (p2_want : SV) (post : Value → H → Prop) (r1 : Nat) (r3 : Nat) (h140 : H) : Prop :=
 ∃ x141 : SV, H.rd h140 (Addr.add (Addr.mk r1 0 none) 0) (Value.slice x141.a x141.len x141.cap) ∧
 ∃ x142 : SV, H.rd h140 (Addr.add (Addr.mk r1 0 none) 1) (Value.slice x142.a x142.len x142.cap) ∧
 ∃ x143 : SV, H.rd h140 (Addr.add (Addr.mk r1 0 none) 2) (Value.slice x143.a x143.len x143.cap) ∧
 SemCall Go.Proofs.Tryz.prog 110 (List.toArray [(Value.agg (List.toArray [(Value.slice x141.a x141.len x141.cap), (Value.slice x142.a x142.len x142.cap), (Value.slice x143.a x143.len x143.cap)])), (Value.int .i64 p1_t), (Value.slice p2_want.a p2_want.len p2_want.cap), (Value.int .i64 (1 : Int))]) h140 fun v144 h145 =>
 ∃ x146 : SV, ∃ x147 : SV, ∃ x148 : SV, v144 = (Value.agg (List.toArray [(Value.slice x146.a x146.len x146.cap), (Value.slice x147.a x147.len x147.cap), (Value.slice x148.a x148.len x148.cap)])) ∧
 H.new h145 [(Value.slice none 0 0), (Value.slice none 0 0), (Value.slice none 0 0)] fun r149 h150 =>
 ([(Value.slice x146.a x146.len x146.cap), (Value.slice x147.a x147.len x147.cap), (Value.slice x148.a x148.len x148.cap)]).length = 3 ∧ (Program.underlying Go.Proofs.Tryz.prog 25).isSome = true ∧
 H.wr h150 (Addr.mk r149 0 none) ([(Value.slice x146.a x146.len x146.cap), (Value.slice x147.a x147.len x147.cap), (Value.slice x148.a x148.len x148.cap)]) fun h151 =>
 ∃ x152 : SV, H.rd h151 (Addr.add (Addr.mk r149 0 none) 0) (Value.slice x152.a x152.len x152.cap) ∧
 ∃ x153 : SV, H.rd h151 (Addr.add (Addr.mk r149 0 none) 1) (Value.slice x153.a x153.len x153.cap) ∧
 ∃ x154 : SV, H.rd h151 (Addr.add (Addr.mk r149 0 none) 2) (Value.slice x154.a x154.len x154.cap) ∧
 SemCall Go.Proofs.Tryz.prog 59 (List.toArray [(Value.agg (List.toArray [(Value.slice x152.a x152.len x152.cap), (Value.slice x153.a x153.len x153.cap), (Value.slice x154.a x154.len x154.cap)]))]) h151 fun v155 h156 =>
 ∃ x157 : SV, ∃ x158 : Bool, v155 = (Value.tuple (List.toArray [(Value.slice x157.a x157.len x157.cap), (Value.bool x158)])) ∧
 VIf (!x158) (
 ([(Value.slice none 0 0), (Value.slice none 0 0), (Value.slice none 0 0)]).length = 3 ∧ (Program.underlying Go.Proofs.Tryz.prog 25).isSome = true ∧
 H.wr h156 (Addr.mk r3 0 none) ([(Value.slice none 0 0), (Value.slice none 0 0), (Value.slice none 0 0)]) fun h159 =>
 ∃ x160 : SV, H.rd h159 (Addr.add (Addr.mk r3 0 none) 0) (Value.slice x160.a x160.len x160.cap) ∧
 ∃ x161 : SV, H.rd h159 (Addr.add (Addr.mk r3 0 none) 1) (Value.slice x161.a x161.len x161.cap) ∧
 ∃ x162 : SV, H.rd h159 (Addr.add (Addr.mk r3 0 none) 2) (Value.slice x162.a x162.len x162.cap) ∧
 VRet h159 (Value.tuple (List.toArray [(Value.agg (List.toArray [(Value.slice x160.a x160.len x160.cap), (Value.slice x161.a x161.len x161.cap), (Value.slice x162.a x162.len x162.cap)])), (Value.int .i64 (7 : Int))])) post) (
 ∃ x163 : SV, H.rd h156 (Addr.add (Addr.mk r149 0 none) 0) (Value.slice x163.a x163.len x163.cap) ∧
 ∃ x164 : SV, H.rd h156 (Addr.add (Addr.mk r149 0 none) 1) (Value.slice x164.a x164.len x164.cap) ∧
 ∃ x165 : SV, H.rd h156 (Addr.add (Addr.mk r149 0 none) 2) (Value.slice x165.a x165.len x165.cap) ∧
 ([(Value.slice x163.a x163.len x163.cap), (Value.slice x164.a x164.len x164.cap), (Value.slice x165.a x165.len x165.cap)]).length = 3 ∧ (Program.underlying Go.Proofs.Tryz.prog 25).isSome = true ∧
 H.wr h156 (Addr.mk r3 0 none) ([(Value.slice x163.a x163.len x163.cap), (Value.slice x164.a x164.len x164.cap), (Value.slice x165.a x165.len x165.cap)]) fun h166 =>
 ∃ x167 : SV, H.rd h166 (Addr.add (Addr.mk r3 0 none) 0) (Value.slice x167.a x167.len x167.cap) ∧
 ∃ x168 : SV, H.rd h166 (Addr.add (Addr.mk r3 0 none) 1) (Value.slice x168.a x168.len x168.cap) ∧
 ∃ x169 : SV, H.rd h166 (Addr.add (Addr.mk r3 0 none) 2) (Value.slice x169.a x169.len x169.cap) ∧
 VRet h166 (Value.tuple (List.toArray [(Value.agg (List.toArray [(Value.slice x167.a x167.len x167.cap), (Value.slice x168.a x168.len x168.cap), (Value.slice x169.a x169.len x169.cap)])), (Value.int .i64 0)])) post)

def f93_J7 (p1_t : Int) (p2_want : SV) (p3_back : Bool) (post : Value → H → Prop) (r1 : Nat) (r3 : Nat) (h109 : H) : Prop :=
 VIf p3_back (
 ∃ x110 : SV, H.rd h109 (Addr.add (Addr.mk r1 0 none) 0) (Value.slice x110.a x110.len x110.cap) ∧
 ∃ x111 : SV, H.rd h109 (Addr.add (Addr.mk r1 0 none) 1) (Value.slice x111.a x111.len x111.cap) ∧
 ∃ x112 : SV, H.rd h109 (Addr.add (Addr.mk r1 0 none) 2) (Value.slice x112.a x112.len x112.cap) ∧
 SemCall Go.Proofs.Tryz.prog 110 (List.toArray [(Value.agg (List.toArray [(Value.slice x110.a x110.len x110.cap), (Value.slice x111.a x111.len x111.cap), (Value.slice x112.a x112.len x112.cap)])), (Value.int .i64 p1_t), (Value.slice p2_want.a p2_want.len p2_want.cap), (Value.int .i64 (-1 : Int))]) h109 fun v113 h114 =>
 ∃ x115 : SV, ∃ x116 : SV, ∃ x117 : SV, v113 = (Value.agg (List.toArray [(Value.slice x115.a x115.len x115.cap), (Value.slice x116.a x116.len x116.cap), (Value.slice x117.a x117.len x117.cap)])) ∧
 ([(Value.slice x115.a x115.len x115.cap), (Value.slice x116.a x116.len x116.cap), (Value.slice x117.a x117.len x117.cap)]).length = 3 ∧ (Program.underlying Go.Proofs.Tryz.prog 25).isSome = true ∧
 H.wr h114 (Addr.mk r3 0 none) ([(Value.slice x115.a x115.len x115.cap), (Value.slice x116.a x116.len x116.cap), (Value.slice x117.a x117.len x117.cap)]) fun h118 =>
 ∃ x119 : SV, H.rd h118 (Addr.add (Addr.mk r3 0 none) 0) (Value.slice x119.a x119.len x119.cap) ∧
 ∃ x120 : SV, H.rd h118 (Addr.add (Addr.mk r3 0 none) 1) (Value.slice x120.a x120.len x120.cap) ∧
 ∃ x121 : SV, H.rd h118 (Addr.add (Addr.mk r3 0 none) 2) (Value.slice x121.a x121.len x121.cap) ∧
 VRet h118 (Value.tuple (List.toArray [(Value.agg (List.toArray [(Value.slice x119.a x119.len x119.cap), (Value.slice x120.a x120.len x120.cap), (Value.slice x121.a x121.len x121.cap)])), (Value.int .i64 0)])) post) (
 ∃ R122 : H → Prop, (
 ∃ I123 : Nat → Int → H → Prop, (∃ n124, (∃ h126, Gh h109 h126 ∧ I123 n124 (0 : Int) h126)) ∧
 ∀ (n124 : Nat) (_ : F) (x127_k : Int) (h128 : H), I123 n124 x127_k h128 →
 f93_L5 p2_want post r1 r3 R122 I123 n124 x127_k h128) ∧
 ∀ (_ : F) (h140 : H), R122 h140 →
 f93_J6 p1_t p2_want post r1 r3 h140)

def f93_J8 (p1_t : Int) (p2_want : SV) (p3_back : Bool) (post : Value → H → Prop) (r1 : Nat) (r3 : Nat) (x57_e : Int) (h58 : H) : Prop :=
 VIf (x57_e != (0 : Int)) (
 ([(Value.slice none 0 0), (Value.slice none 0 0), (Value.slice none 0 0)]).length = 3 ∧ (Program.underlying Go.Proofs.Tryz.prog 25).isSome = true ∧
 H.wr h58 (Addr.mk r3 0 none) ([(Value.slice none 0 0), (Value.slice none 0 0), (Value.slice none 0 0)]) fun h59 =>
 ∃ x60 : SV, H.rd h59 (Addr.add (Addr.mk r3 0 none) 0) (Value.slice x60.a x60.len x60.cap) ∧
 ∃ x61 : SV, H.rd h59 (Addr.add (Addr.mk r3 0 none) 1) (Value.slice x61.a x61.len x61.cap) ∧
 ∃ x62 : SV, H.rd h59 (Addr.add (Addr.mk r3 0 none) 2) (Value.slice x62.a x62.len x62.cap) ∧
 VRet h59 (Value.tuple (List.toArray [(Value.agg (List.toArray [(Value.slice x60.a x60.len x60.cap), (Value.slice x61.a x61.len x61.cap), (Value.slice x62.a x62.len x62.cap)])), (Value.int .i64 x57_e)])) post) (
 ∃ R63 : H → Prop, (
 ∃ I64 : Nat → Int → H → Prop, (∃ n65, (∃ h67, Gh h58 h67 ∧ I64 n65 (0 : Int) h67)) ∧
 ∀ (n65 : Nat) (_ : F) (x68_k : Int) (h69 : H), I64 n65 x68_k h69 →
 f93_L4 p1_t p2_want p3_back post r1 r3 R63 I64 n65 x68_k h69) ∧
 ∀ (_ : F) (h109 : H), R63 h109 →
 f93_J7 p1_t p2_want p3_back post r1 r3 h109)

def f93_J9 (p1_t : Int) (p2_want : SV) (p3_back : Bool) (post : Value → H → Prop) (r1 : Nat) (r3 : Nat) (x23_e : Int) (x29 : Bool) (h30 : H) : Prop :=
 ∃ R31 : Int → H → Prop, (
 VIf x29 (
 (∃ h32, Gh h30 h32 ∧ R31 (3 : Int) h32)) (
 (∃ h33, Gh h30 h33 ∧ R31 x23_e h33))) ∧
 ∀ (_ : F) (x34_e : Int) (h35 : H), R31 x34_e h35 →
 ∃ R36 : Int → H → Prop, (
 ∃ I37 : Nat → Int → Int → H → Prop, (∃ n38, (∃ h40, Gh h35 h40 ∧ I37 n38 x34_e (0 : Int) h40)) ∧
 ∀ (n38 : Nat) (_ : F) (x41_e : Int) (x42_k : Int) (h43 : H), I37 n38 x41_e x42_k h43 →
 f93_L2 p2_want R36 I37 n38 x41_e x42_k h43) ∧
 ∀ (_ : F) (x57_e : Int) (h58 : H), R36 x57_e h58 →
 f93_J8 p1_t p2_want p3_back post r1 r3 x57_e h58

def f93_J10 (p1_t : Int) (p2_want : SV) (p3_back : Bool) (post : Value → H → Prop) (r1 : Nat) (r3 : Nat) (x10 : Int) (x18 : Bool) (h19 : H) : Prop :=
 ∃ R20 : Int → H → Prop, (
 VIf x18 (
 (∃ h21, Gh h19 h21 ∧ R20 (1 : Int) h21)) (
 (∃ h22, Gh h19 h22 ∧ R20 x10 h22))) ∧
 ∀ (_ : F) (x23_e : Int) (h24 : H), R20 x23_e h24 →
 ∃ R25 : Bool → H → Prop, (
 VIf (x23_e == (0 : Int)) (
 ∃ x26 : SV, H.rd h24 (Addr.add (Addr.add (Addr.mk r1 0 none) 0) 0) (Value.slice x26.a x26.len x26.cap) ∧
 (∃ h27, Gh h24 h27 ∧ R25 (((p2_want.len : Nat) : Int) != ((x26.len : Nat) : Int)) h27)) (
 (∃ h28, Gh h24 h28 ∧ R25 false h28))) ∧
 ∀ (_ : F) (x29 : Bool) (h30 : H), R25 x29 h30 →
 f93_J9 p1_t p2_want p3_back post r1 r3 x23_e x29 h30

def f93_sem (p0_0_b : SV) (p0_1_b : SV) (p0_2_b : SV) (p1_t : Int) (p2_want : SV) (p3_back : Bool) (h0 : H) (post : Value → H → Prop) : Prop :=
 H.new h0 [(Value.slice p0_0_b.a p0_0_b.len p0_0_b.cap), (Value.slice p0_1_b.a p0_1_b.len p0_1_b.cap), (Value.slice p0_2_b.a p0_2_b.len p0_2_b.cap)] fun r1 h2 =>
 H.new h2 [(Value.slice none 0 0), (Value.slice none 0 0), (Value.slice none 0 0)] fun r3 h4 =>
 ∃ x5 : SV, H.rd h4 (Addr.add (Addr.mk r1 0 none) 0) (Value.slice x5.a x5.len x5.cap) ∧
 ∃ x6 : SV, H.rd h4 (Addr.add (Addr.mk r1 0 none) 1) (Value.slice x6.a x6.len x6.cap) ∧
 ∃ x7 : SV, H.rd h4 (Addr.add (Addr.mk r1 0 none) 2) (Value.slice x7.a x7.len x7.cap) ∧
 SemCall Go.Proofs.Tryz.prog 58 (List.toArray [(Value.agg (List.toArray [(Value.slice x5.a x5.len x5.cap), (Value.slice x6.a x6.len x6.cap), (Value.slice x7.a x7.len x7.cap)]))]) h4 fun v8 h9 =>
 ∃ x10 : Int, v8 = (Value.int .i64 x10) ∧
 ∃ R11 : Bool → H → Prop, (
 VIf (x10 == (0 : Int)) (
 ∃ x12 : SV, H.rd h9 (Addr.add (Addr.add (Addr.mk r1 0 none) 1) 0) (Value.slice x12.a x12.len x12.cap) ∧
 In64 (((x12.len : Nat) : Int) - (1 : Int)) ∧
 SemCall Go.Proofs.Tryz.prog 90 (List.toArray [(Value.int .i64 p1_t), (Value.int .i64 0), (Value.int .i64 (((x12.len : Nat) : Int) - (1 : Int)))]) h9 fun v13 h14 =>
 ∃ x15 : Bool, v13 = (Value.bool x15) ∧
 (∃ h16, Gh h14 h16 ∧ R11 (!x15) h16)) (
 (∃ h17, Gh h9 h17 ∧ R11 false h17))) ∧
 ∀ (_ : F) (x18 : Bool) (h19 : H), R11 x18 h19 →
 f93_J10 p1_t p2_want p3_back post r1 r3 x10 x18 h19

def f93_hint : Hint := (.node .leaf (.node .leaf (.node (.node (.join [(29, .bool)] .leaf) (.join [(10, .int)] .leaf)) (.node (.node (.join [(39, .bool)] .leaf) (.join [(10, .int)] .leaf)) (.node (.node .leaf (.join [(10, .int)] (.node (.loop [(10, .int), (11, .int)] (.node (.node (.join [(47, .bool)] .leaf) .leaf) .leaf)) .leaf))) (.node .leaf (.node (.node .leaf (.join [] (.node (.loop [(12, .int)] (.node .leaf (.node (.node (.node (.node (.join [(81, .bool)] .leaf) .leaf) (.node (.join [(108, .bool)] .leaf) .leaf)) .leaf) .leaf))) .leaf))) (.node .leaf (.node (.node .leaf (.join [] (.node (.loop [(13, .int)] .leaf) .leaf))) .leaf)))))))))

theorem f93_eq (p0_0_b : SV) (p0_1_b : SV) (p0_2_b : SV) (p1_t : Int) (p2_want : SV) (p3_back : Bool) (h0 : H) (post : Value → H → Prop) : exec Tryz.prog (bodyOf Tryz.f93) f93_hint (retQ Tryz.prog Tryz.f93 post) (F0 [(Value.agg (List.toArray [(Value.slice p0_0_b.a p0_0_b.len p0_0_b.cap), (Value.slice p0_1_b.a p0_1_b.len p0_1_b.cap), (Value.slice p0_2_b.a p0_2_b.len p0_2_b.cap)])), (Value.int .i64 p1_t), (Value.slice p2_want.a p2_want.len p2_want.cap), (Value.bool p3_back)]) h0 = f93_sem p0_0_b p0_1_b p0_2_b p1_t p2_want p3_back h0 post := by kernel_rfl

set_option maxRecDepth 20000 in
theorem f93_call (p0_0_b : SV) (p0_1_b : SV) (p0_2_b : SV) (p1_t : Int) (p2_want : SV) (p3_back : Bool) (h0 : H) (post : Value → H → Prop) (hx : f93_sem p0_0_b p0_1_b p0_2_b p1_t p2_want p3_back h0 post) : SemCall Tryz.prog 93 (List.toArray [(Value.agg (List.toArray [(Value.slice p0_0_b.a p0_0_b.len p0_0_b.cap), (Value.slice p0_1_b.a p0_1_b.len p0_1_b.cap), (Value.slice p0_2_b.a p0_2_b.len p0_2_b.cap)])), (Value.int .i64 p1_t), (Value.slice p2_want.a p2_want.len p2_want.cap), (Value.bool p3_back)]) h0 post :=
 sem_of_exec (g := f93_hint) mixed Tryz.func93 (bodyOf_eq (by kernel_rfl)) (by kernel_rfl) ((f93_eq p0_0_b p0_1_b p0_2_b p1_t p2_want p3_back h0 post).mpr hx)

/- latchgarth/core.Within -/
def f95_sem (p0_n : Int) (p1_low : Int) (p2_high : Int) (h0 : H) (post : Value → H → Prop) : Prop :=
 ∃ R1 : Bool → H → Prop, (
 VIf (decide (p0_n ≥ p1_low)) (
 (∃ h2, Gh h0 h2 ∧ R1 (decide (p0_n ≤ p2_high)) h2)) (
 (∃ h3, Gh h0 h3 ∧ R1 false h3))) ∧
 ∀ (_ : F) (x4 : Bool) (h5 : H), R1 x4 h5 →
 VRet h5 (Value.bool x4) post

def f95_hint : Hint := (.node .leaf (.node (.join [(6, .bool)] .leaf) .leaf))

theorem f95_eq (p0_n : Int) (p1_low : Int) (p2_high : Int) (h0 : H) (post : Value → H → Prop) : exec Tryz.prog (bodyOf Tryz.f95) f95_hint (retQ Tryz.prog Tryz.f95 post) (F0 [(Value.int .i64 p0_n), (Value.int .i64 p1_low), (Value.int .i64 p2_high)]) h0 = f95_sem p0_n p1_low p2_high h0 post := by kernel_rfl

set_option maxRecDepth 20000 in
theorem f95_call (p0_n : Int) (p1_low : Int) (p2_high : Int) (h0 : H) (post : Value → H → Prop) (hx : f95_sem p0_n p1_low p2_high h0 post) : SemCall Tryz.prog 95 (List.toArray [(Value.int .i64 p0_n), (Value.int .i64 p1_low), (Value.int .i64 p2_high)]) h0 post :=
 sem_of_exec (g := f95_hint) mixed Tryz.func95 (bodyOf_eq (by kernel_rfl)) (by kernel_rfl) ((f95_eq p0_n p1_low p2_high h0 post).mpr hx)

/- slices.Contains[[]int,int] -/
def f96_sem (p0_s : SV) (p1_v : Int) (h0 : H) (post : Value → H → Prop) : Prop :=
 SemCall Go.Proofs.Tryz.prog 112 (List.toArray [(Value.slice p0_s.a p0_s.len p0_s.cap), (Value.int .i64 p1_v)]) h0 fun v1 h2 =>
 ∃ x3 : Int, v1 = (Value.int .i64 x3) ∧
 VRet h2 (Value.bool (decide (x3 ≥ (0 : Int)))) post

def f96_hint : Hint := .leaf

theorem f96_eq (p0_s : SV) (p1_v : Int) (h0 : H) (post : Value → H → Prop) : exec Tryz.prog (bodyOf Tryz.f96) f96_hint (retQ Tryz.prog Tryz.f96 post) (F0 [(Value.slice p0_s.a p0_s.len p0_s.cap), (Value.int .i64 p1_v)]) h0 = f96_sem p0_s p1_v h0 post := by kernel_rfl

set_option maxRecDepth 20000 in
theorem f96_call (p0_s : SV) (p1_v : Int) (h0 : H) (post : Value → H → Prop) (hx : f96_sem p0_s p1_v h0 post) : SemCall Tryz.prog 96 (List.toArray [(Value.slice p0_s.a p0_s.len p0_s.cap), (Value.int .i64 p1_v)]) h0 post :=
 sem_of_exec (g := f96_hint) mixed Tryz.func96 (bodyOf_eq (by kernel_rfl)) (by kernel_rfl) ((f96_eq p0_s p1_v h0 post).mpr hx)

/- latchgarth/bank.ends -/
def f97_L1 (p1_free : SV) (p2_t : Int) (post : Value → H → Prop) (r1 : Nat) (R3 : H → Prop) (I4 : Nat → Int → H → Prop) (n5 : Nat) (x8 : Int) (h9 : H) : Prop :=
 VIf (decide (x8 < ((p1_free.len : Nat) : Int))) (
 ∃ b10 : Addr, p1_free.a = some b10 ∧ 0 ≤ x8 ∧ x8 < ((p1_free.len : Nat) : Int) ∧
 ∃ x11 : Int, H.rd h9 (Addr.add (Addr.add b10 ((x8).toNat * 1)) 0) (Value.int .i64 x11) ∧
 ∃ x12 : SV, H.rd h9 (Addr.add (Addr.add (Addr.mk r1 0 none) 1) 0) (Value.slice x12.a x12.len x12.cap) ∧
 ∃ b13 : Addr, x12.a = some b13 ∧ 0 ≤ p2_t ∧ p2_t < ((x12.len : Nat) : Int) ∧
 ∃ x14 : SV, H.rd h9 (Addr.add (Addr.add b13 ((p2_t).toNat * 1)) 0) (Value.slice x14.a x14.len x14.cap) ∧
 ∃ b15 : Addr, x14.a = some b15 ∧ 0 ≤ x8 ∧ x8 < ((x14.len : Nat) : Int) ∧
 ∃ x16 : Int, H.rd h9 (Addr.add (Addr.add b15 ((x8).toNat * 1)) 0) (Value.int .i64 x16) ∧
 ∃ x17 : SV, H.rd h9 (Addr.add (Addr.add (Addr.mk r1 0 none) 2) 0) (Value.slice x17.a x17.len x17.cap) ∧
 ∃ b18 : Addr, x17.a = some b18 ∧ 0 ≤ p2_t ∧ p2_t < ((x17.len : Nat) : Int) ∧
 ∃ x19 : SV, H.rd h9 (Addr.add (Addr.add b18 ((p2_t).toNat * 1)) 0) (Value.slice x19.a x19.len x19.cap) ∧
 ∃ b20 : Addr, x19.a = some b20 ∧ 0 ≤ x8 ∧ x8 < ((x19.len : Nat) : Int) ∧
 ∃ x21 : Int, H.rd h9 (Addr.add (Addr.add b20 ((x8).toNat * 1)) 0) (Value.int .i64 x21) ∧
 In64 (x16 - x21) ∧
 VIf (decide ((x16 - x21) > x11)) (
 VRet h9 (Value.bool false) post) (
 In64 (x8 + (1 : Int)) ∧
 ∃ m6, m6 < n5 ∧ (∃ h22, Gh h9 h22 ∧ I4 m6 (x8 + (1 : Int)) h22))) (
 (∃ h23, Gh h9 h23 ∧ R3 h23))

def f97_sem (p0_0_b : SV) (p0_1_b : SV) (p0_2_b : SV) (p1_free : SV) (p2_t : Int) (h0 : H) (post : Value → H → Prop) : Prop :=
 H.new h0 [(Value.slice p0_0_b.a p0_0_b.len p0_0_b.cap), (Value.slice p0_1_b.a p0_1_b.len p0_1_b.cap), (Value.slice p0_2_b.a p0_2_b.len p0_2_b.cap)] fun r1 h2 =>
 ∃ R3 : H → Prop, (
 ∃ I4 : Nat → Int → H → Prop, (∃ n5, (∃ h7, Gh h2 h7 ∧ I4 n5 (0 : Int) h7)) ∧
 ∀ (n5 : Nat) (_ : F) (x8 : Int) (h9 : H), I4 n5 x8 h9 →
 f97_L1 p1_free p2_t post r1 R3 I4 n5 x8 h9) ∧
 ∀ (_ : F) (h24 : H), R3 h24 →
 VRet h24 (Value.bool true) post

def f97_hint : Hint := (.node .leaf (.node (.node .leaf (.join [] (.node (.loop [(11, .int)] .leaf) .leaf))) .leaf))

theorem f97_eq (p0_0_b : SV) (p0_1_b : SV) (p0_2_b : SV) (p1_free : SV) (p2_t : Int) (h0 : H) (post : Value → H → Prop) : exec Tryz.prog (bodyOf Tryz.f97) f97_hint (retQ Tryz.prog Tryz.f97 post) (F0 [(Value.agg (List.toArray [(Value.slice p0_0_b.a p0_0_b.len p0_0_b.cap), (Value.slice p0_1_b.a p0_1_b.len p0_1_b.cap), (Value.slice p0_2_b.a p0_2_b.len p0_2_b.cap)])), (Value.slice p1_free.a p1_free.len p1_free.cap), (Value.int .i64 p2_t)]) h0 = f97_sem p0_0_b p0_1_b p0_2_b p1_free p2_t h0 post := by kernel_rfl

set_option maxRecDepth 20000 in
theorem f97_call (p0_0_b : SV) (p0_1_b : SV) (p0_2_b : SV) (p1_free : SV) (p2_t : Int) (h0 : H) (post : Value → H → Prop) (hx : f97_sem p0_0_b p0_1_b p0_2_b p1_free p2_t h0 post) : SemCall Tryz.prog 97 (List.toArray [(Value.agg (List.toArray [(Value.slice p0_0_b.a p0_0_b.len p0_0_b.cap), (Value.slice p0_1_b.a p0_1_b.len p0_1_b.cap), (Value.slice p0_2_b.a p0_2_b.len p0_2_b.cap)])), (Value.slice p1_free.a p1_free.len p1_free.cap), (Value.int .i64 p2_t)]) h0 post :=
 sem_of_exec (g := f97_hint) mixed Tryz.func97 (bodyOf_eq (by kernel_rfl)) (by kernel_rfl) ((f97_eq p0_0_b p0_1_b p0_2_b p1_free p2_t h0 post).mpr hx)

/- latchgarth/latchgarthref4.Ended -/
def f109_L1 (p1_t : Int) (post : Value → H → Prop) (r1 : Nat) (r3 : Nat) (R5 : SV → H → Prop) (I6 : Nat → SV → Int → H → Prop) (n7 : Nat) (x10_free : SV) (x11_k : Int) (h12 : H) : Prop :=
 ∃ x13 : SV, H.rd h12 (Addr.add (Addr.add (Addr.mk r1 0 none) 0) 0) (Value.slice x13.a x13.len x13.cap) ∧
 VIf (decide (x11_k < ((x13.len : Nat) : Int))) (
 ∃ x14 : SV, H.rd h12 (Addr.add (Addr.add (Addr.mk r1 0 none) 1) 0) (Value.slice x14.a x14.len x14.cap) ∧
 ∃ b15 : Addr, x14.a = some b15 ∧ 0 ≤ p1_t ∧ p1_t < ((x14.len : Nat) : Int) ∧
 ∃ x16 : SV, H.rd h12 (Addr.add (Addr.add b15 ((p1_t).toNat * 1)) 0) (Value.slice x16.a x16.len x16.cap) ∧
 ∃ b17 : Addr, x16.a = some b17 ∧ 0 ≤ x11_k ∧ x11_k < ((x16.len : Nat) : Int) ∧
 ∃ x18 : Int, H.rd h12 (Addr.add (Addr.add b17 ((x11_k).toNat * 1)) 0) (Value.int .i64 x18) ∧
 ∃ x19 : SV, H.rd h12 (Addr.add (Addr.add (Addr.mk r1 0 none) 2) 0) (Value.slice x19.a x19.len x19.cap) ∧
 ∃ b20 : Addr, x19.a = some b20 ∧ 0 ≤ p1_t ∧ p1_t < ((x19.len : Nat) : Int) ∧
 ∃ x21 : SV, H.rd h12 (Addr.add (Addr.add b20 ((p1_t).toNat * 1)) 0) (Value.slice x21.a x21.len x21.cap) ∧
 ∃ b22 : Addr, x21.a = some b22 ∧ 0 ≤ x11_k ∧ x11_k < ((x21.len : Nat) : Int) ∧
 ∃ x23 : Int, H.rd h12 (Addr.add (Addr.add b22 ((x11_k).toNat * 1)) 0) (Value.int .i64 x23) ∧
 In64 (x18 - x23) ∧
 ∃ x24 : SV, H.rd h12 (Addr.add (Addr.add (Addr.mk r1 0 none) 0) 0) (Value.slice x24.a x24.len x24.cap) ∧
 ∃ b25 : Addr, x24.a = some b25 ∧ 0 ≤ x11_k ∧ x11_k < ((x24.len : Nat) : Int) ∧
 ∃ x26 : Int, H.rd h12 (Addr.add (Addr.add b25 ((x11_k).toNat * 1)) 0) (Value.int .i64 x26) ∧
 VIf (decide ((x18 - x23) > x26)) (
 ∃ x27 : SV, H.rd h12 (Addr.add (Addr.mk r1 0 none) 0) (Value.slice x27.a x27.len x27.cap) ∧
 ∃ x28 : SV, H.rd h12 (Addr.add (Addr.mk r1 0 none) 1) (Value.slice x28.a x28.len x28.cap) ∧
 ∃ x29 : SV, H.rd h12 (Addr.add (Addr.mk r1 0 none) 2) (Value.slice x29.a x29.len x29.cap) ∧
 ([(Value.slice x27.a x27.len x27.cap), (Value.slice x28.a x28.len x28.cap), (Value.slice x29.a x29.len x29.cap)]).length = 3 ∧ (Program.underlying Go.Proofs.Tryz.prog 25).isSome = true ∧
 H.wr h12 (Addr.mk r3 0 none) ([(Value.slice x27.a x27.len x27.cap), (Value.slice x28.a x28.len x28.cap), (Value.slice x29.a x29.len x29.cap)]) fun h30 =>
 ∃ x31 : SV, H.rd h30 (Addr.add (Addr.mk r3 0 none) 0) (Value.slice x31.a x31.len x31.cap) ∧
 ∃ x32 : SV, H.rd h30 (Addr.add (Addr.mk r3 0 none) 1) (Value.slice x32.a x32.len x32.cap) ∧
 ∃ x33 : SV, H.rd h30 (Addr.add (Addr.mk r3 0 none) 2) (Value.slice x33.a x33.len x33.cap) ∧
 VRet h30 (Value.tuple (List.toArray [(Value.agg (List.toArray [(Value.slice x31.a x31.len x31.cap), (Value.slice x32.a x32.len x32.cap), (Value.slice x33.a x33.len x33.cap)])), (Value.bool false)])) post) (
 ∃ x34 : SV, H.rd h12 (Addr.add (Addr.add (Addr.mk r1 0 none) 0) 0) (Value.slice x34.a x34.len x34.cap) ∧
 ∃ b35 : Addr, x34.a = some b35 ∧ 0 ≤ x11_k ∧ x11_k < ((x34.len : Nat) : Int) ∧
 ∃ x36 : Int, H.rd h12 (Addr.add (Addr.add b35 ((x11_k).toNat * 1)) 0) (Value.int .i64 x36) ∧
 ∃ x37 : SV, H.rd h12 (Addr.add (Addr.add (Addr.mk r1 0 none) 2) 0) (Value.slice x37.a x37.len x37.cap) ∧
 ∃ b38 : Addr, x37.a = some b38 ∧ 0 ≤ p1_t ∧ p1_t < ((x37.len : Nat) : Int) ∧
 ∃ x39 : SV, H.rd h12 (Addr.add (Addr.add b38 ((p1_t).toNat * 1)) 0) (Value.slice x39.a x39.len x39.cap) ∧
 ∃ b40 : Addr, x39.a = some b40 ∧ 0 ≤ x11_k ∧ x11_k < ((x39.len : Nat) : Int) ∧
 ∃ x41 : Int, H.rd h12 (Addr.add (Addr.add b40 ((x11_k).toNat * 1)) 0) (Value.int .i64 x41) ∧
 In64 (x36 + x41) ∧
 H.new h12 [(Value.int .i64 (x36 + x41))] fun r42 h43 =>
 appVC Go.Proofs.Tryz.prog 22 (Value.slice x10_free.a x10_free.len x10_free.cap) (Value.slice (some (Addr.mk r42 0 none)) 1 1) h43 fun x44 h45 =>
 In64 (x11_k + (1 : Int)) ∧
 ∃ m8, m8 < n7 ∧ (∃ h46, Gh h45 h46 ∧ I6 m8 x44 (x11_k + (1 : Int)) h46))) (
 (∃ h47, Gh h12 h47 ∧ R5 x10_free h47))

def f109_J2 (p1_t : Int) (post : Value → H → Prop) (r1 : Nat) (r3 : Nat) (x48_free : SV) (h49 : H) : Prop :=
 ∃ x50 : SV, H.rd h49 (Addr.add (Addr.add (Addr.mk r1 0 none) 2) 0) (Value.slice x50.a x50.len x50.cap) ∧
 appVC Go.Proofs.Tryz.prog 23 (Value.slice none 0 0) (Value.slice x50.a x50.len x50.cap) h49 fun x51 h52 =>
 0 ≤ ((x48_free.len : Nat) : Int) ∧ ((x48_free.len : Nat) : Int) ≤ ((x48_free.len : Nat) : Int) ∧ ((8 : Nat) : Int) * ((x48_free.len : Nat) : Int) ≤ 140737488355328 ∧ ((x48_free.len : Nat) : Int) ≤ 1000000000 ∧
 H.new h52 (repl (((x48_free.len : Nat) : Int)).toNat [(Value.int .i64 0)]) fun r53 h54 =>
 ∃ b55 : Addr, x51.a = some b55 ∧ 0 ≤ p1_t ∧ p1_t < ((x51.len : Nat) : Int) ∧
 H.wr h54 (Addr.add b55 ((p1_t).toNat * 1)) ([(Value.slice (some (Addr.mk r53 0 none)) ((((x48_free.len : Nat) : Int)).toNat) ((((x48_free.len : Nat) : Int)).toNat))]) fun h56 =>
 ∃ x57 : SV, H.rd h56 (Addr.add (Addr.add (Addr.mk r1 0 none) 1) 0) (Value.slice x57.a x57.len x57.cap) ∧
 ([(Value.slice x48_free.a x48_free.len x48_free.cap), (Value.slice x57.a x57.len x57.cap), (Value.slice x51.a x51.len x51.cap)]).length = 3 ∧ (Program.underlying Go.Proofs.Tryz.prog 25).isSome = true ∧
 H.wr h56 (Addr.mk r3 0 none) ([(Value.slice x48_free.a x48_free.len x48_free.cap), (Value.slice x57.a x57.len x57.cap), (Value.slice x51.a x51.len x51.cap)]) fun h58 =>
 ∃ x59 : SV, H.rd h58 (Addr.add (Addr.mk r3 0 none) 0) (Value.slice x59.a x59.len x59.cap) ∧
 ∃ x60 : SV, H.rd h58 (Addr.add (Addr.mk r3 0 none) 1) (Value.slice x60.a x60.len x60.cap) ∧
 ∃ x61 : SV, H.rd h58 (Addr.add (Addr.mk r3 0 none) 2) (Value.slice x61.a x61.len x61.cap) ∧
 VRet h58 (Value.tuple (List.toArray [(Value.agg (List.toArray [(Value.slice x59.a x59.len x59.cap), (Value.slice x60.a x60.len x60.cap), (Value.slice x61.a x61.len x61.cap)])), (Value.bool true)])) post

def f109_sem (p0_0_b : SV) (p0_1_b : SV) (p0_2_b : SV) (p1_t : Int) (h0 : H) (post : Value → H → Prop) : Prop :=
 H.new h0 [(Value.slice p0_0_b.a p0_0_b.len p0_0_b.cap), (Value.slice p0_1_b.a p0_1_b.len p0_1_b.cap), (Value.slice p0_2_b.a p0_2_b.len p0_2_b.cap)] fun r1 h2 =>
 H.new h2 [(Value.slice none 0 0), (Value.slice none 0 0), (Value.slice none 0 0)] fun r3 h4 =>
 ∃ R5 : SV → H → Prop, (
 ∃ I6 : Nat → SV → Int → H → Prop, (∃ n7, (∃ h9, Gh h4 h9 ∧ I6 n7 (SV.mk none 0 0) (0 : Int) h9)) ∧
 ∀ (n7 : Nat) (_ : F) (x10_free : SV) (x11_k : Int) (h12 : H), I6 n7 x10_free x11_k h12 →
 f109_L1 p1_t post r1 r3 R5 I6 n7 x10_free x11_k h12) ∧
 ∀ (_ : F) (x48_free : SV) (h49 : H), R5 x48_free h49 →
 f109_J2 p1_t post r1 r3 x48_free h49

def f109_hint : Hint := (.node .leaf (.node .leaf (.node (.node .leaf (.join [(6, .sl)] (.node (.loop [(6, .sl), (7, .int)] (.node .leaf (.node (.node (.node .leaf .lex) .leaf) .leaf))) .leaf))) .leaf)))

theorem f109_eq (p0_0_b : SV) (p0_1_b : SV) (p0_2_b : SV) (p1_t : Int) (h0 : H) (post : Value → H → Prop) : exec Tryz.prog (bodyOf Tryz.f109) f109_hint (retQ Tryz.prog Tryz.f109 post) (F0 [(Value.agg (List.toArray [(Value.slice p0_0_b.a p0_0_b.len p0_0_b.cap), (Value.slice p0_1_b.a p0_1_b.len p0_1_b.cap), (Value.slice p0_2_b.a p0_2_b.len p0_2_b.cap)])), (Value.int .i64 p1_t)]) h0 = f109_sem p0_0_b p0_1_b p0_2_b p1_t h0 post := by kernel_rfl

set_option maxRecDepth 20000 in
theorem f109_call (p0_0_b : SV) (p0_1_b : SV) (p0_2_b : SV) (p1_t : Int) (h0 : H) (post : Value → H → Prop) (hx : f109_sem p0_0_b p0_1_b p0_2_b p1_t h0 post) : SemCall Tryz.prog 109 (List.toArray [(Value.agg (List.toArray [(Value.slice p0_0_b.a p0_0_b.len p0_0_b.cap), (Value.slice p0_1_b.a p0_1_b.len p0_1_b.cap), (Value.slice p0_2_b.a p0_2_b.len p0_2_b.cap)])), (Value.int .i64 p1_t)]) h0 post :=
 sem_of_exec (g := f109_hint) mixed Tryz.func109 (bodyOf_eq (by kernel_rfl)) (by kernel_rfl) ((f109_eq p0_0_b p0_1_b p0_2_b p1_t h0 post).mpr hx)

/- latchgarth/latchgarthref4.Moved -/
def f110_L1 (p1_t : Int) (p2_want : SV) (p3_sign : Int) (r1 : Nat) (R5 : SV → SV → H → Prop) (I6 : Nat → SV → SV → Int → H → Prop) (n7 : Nat) (x10_free : SV) (x11_mine : SV) (x12_k : Int) (h13 : H) : Prop :=
 ∃ x14 : SV, H.rd h13 (Addr.add (Addr.add (Addr.mk r1 0 none) 0) 0) (Value.slice x14.a x14.len x14.cap) ∧
 VIf (decide (x12_k < ((x14.len : Nat) : Int))) (
 ∃ b15 : Addr, p2_want.a = some b15 ∧ 0 ≤ x12_k ∧ x12_k < ((p2_want.len : Nat) : Int) ∧
 ∃ x16 : SV, H.rd h13 (Addr.add (Addr.add (Addr.mk r1 0 none) 0) 0) (Value.slice x16.a x16.len x16.cap) ∧
 ∃ b17 : Addr, x16.a = some b17 ∧ 0 ≤ x12_k ∧ x12_k < ((x16.len : Nat) : Int) ∧
 ∃ x18 : Int, H.rd h13 (Addr.add (Addr.add b17 ((x12_k).toNat * 1)) 0) (Value.int .i64 x18) ∧
 ∃ x19 : Int, H.rd h13 (Addr.add (Addr.add b15 ((x12_k).toNat * 1)) 0) (Value.int .i64 x19) ∧
 In64 (p3_sign * x19) ∧
 In64 (x18 - (p3_sign * x19)) ∧
 H.new h13 [(Value.int .i64 (x18 - (p3_sign * x19)))] fun r20 h21 =>
 appVC Go.Proofs.Tryz.prog 22 (Value.slice x10_free.a x10_free.len x10_free.cap) (Value.slice (some (Addr.mk r20 0 none)) 1 1) h21 fun x22 h23 =>
 ∃ b24 : Addr, p2_want.a = some b24 ∧ 0 ≤ x12_k ∧ x12_k < ((p2_want.len : Nat) : Int) ∧
 ∃ x25 : SV, H.rd h23 (Addr.add (Addr.add (Addr.mk r1 0 none) 2) 0) (Value.slice x25.a x25.len x25.cap) ∧
 ∃ b26 : Addr, x25.a = some b26 ∧ 0 ≤ p1_t ∧ p1_t < ((x25.len : Nat) : Int) ∧
 ∃ x27 : SV, H.rd h23 (Addr.add (Addr.add b26 ((p1_t).toNat * 1)) 0) (Value.slice x27.a x27.len x27.cap) ∧
 ∃ b28 : Addr, x27.a = some b28 ∧ 0 ≤ x12_k ∧ x12_k < ((x27.len : Nat) : Int) ∧
 ∃ x29 : Int, H.rd h23 (Addr.add (Addr.add b28 ((x12_k).toNat * 1)) 0) (Value.int .i64 x29) ∧
 ∃ x30 : Int, H.rd h23 (Addr.add (Addr.add b24 ((x12_k).toNat * 1)) 0) (Value.int .i64 x30) ∧
 In64 (p3_sign * x30) ∧
 In64 (x29 + (p3_sign * x30)) ∧
 H.new h23 [(Value.int .i64 (x29 + (p3_sign * x30)))] fun r31 h32 =>
 appVC Go.Proofs.Tryz.prog 22 (Value.slice x11_mine.a x11_mine.len x11_mine.cap) (Value.slice (some (Addr.mk r31 0 none)) 1 1) h32 fun x33 h34 =>
 In64 (x12_k + (1 : Int)) ∧
 ∃ m8, m8 < n7 ∧ (∃ h35, Gh h34 h35 ∧ I6 m8 x22 x33 (x12_k + (1 : Int)) h35)) (
 (∃ h36, Gh h13 h36 ∧ R5 x10_free x11_mine h36))

def f110_J2 (p1_t : Int) (post : Value → H → Prop) (r1 : Nat) (r3 : Nat) (x37_free : SV) (x38_mine : SV) (h39 : H) : Prop :=
 ∃ x40 : SV, H.rd h39 (Addr.add (Addr.add (Addr.mk r1 0 none) 2) 0) (Value.slice x40.a x40.len x40.cap) ∧
 appVC Go.Proofs.Tryz.prog 23 (Value.slice none 0 0) (Value.slice x40.a x40.len x40.cap) h39 fun x41 h42 =>
 ∃ b43 : Addr, x41.a = some b43 ∧ 0 ≤ p1_t ∧ p1_t < ((x41.len : Nat) : Int) ∧
 H.wr h42 (Addr.add b43 ((p1_t).toNat * 1)) ([(Value.slice x38_mine.a x38_mine.len x38_mine.cap)]) fun h44 =>
 ∃ x45 : SV, H.rd h44 (Addr.add (Addr.add (Addr.mk r1 0 none) 1) 0) (Value.slice x45.a x45.len x45.cap) ∧
 ([(Value.slice x37_free.a x37_free.len x37_free.cap), (Value.slice x45.a x45.len x45.cap), (Value.slice x41.a x41.len x41.cap)]).length = 3 ∧ (Program.underlying Go.Proofs.Tryz.prog 25).isSome = true ∧
 H.wr h44 (Addr.mk r3 0 none) ([(Value.slice x37_free.a x37_free.len x37_free.cap), (Value.slice x45.a x45.len x45.cap), (Value.slice x41.a x41.len x41.cap)]) fun h46 =>
 ∃ x47 : SV, H.rd h46 (Addr.add (Addr.mk r3 0 none) 0) (Value.slice x47.a x47.len x47.cap) ∧
 ∃ x48 : SV, H.rd h46 (Addr.add (Addr.mk r3 0 none) 1) (Value.slice x48.a x48.len x48.cap) ∧
 ∃ x49 : SV, H.rd h46 (Addr.add (Addr.mk r3 0 none) 2) (Value.slice x49.a x49.len x49.cap) ∧
 VRet h46 (Value.agg (List.toArray [(Value.slice x47.a x47.len x47.cap), (Value.slice x48.a x48.len x48.cap), (Value.slice x49.a x49.len x49.cap)])) post

def f110_sem (p0_0_b : SV) (p0_1_b : SV) (p0_2_b : SV) (p1_t : Int) (p2_want : SV) (p3_sign : Int) (h0 : H) (post : Value → H → Prop) : Prop :=
 H.new h0 [(Value.slice p0_0_b.a p0_0_b.len p0_0_b.cap), (Value.slice p0_1_b.a p0_1_b.len p0_1_b.cap), (Value.slice p0_2_b.a p0_2_b.len p0_2_b.cap)] fun r1 h2 =>
 H.new h2 [(Value.slice none 0 0), (Value.slice none 0 0), (Value.slice none 0 0)] fun r3 h4 =>
 ∃ R5 : SV → SV → H → Prop, (
 ∃ I6 : Nat → SV → SV → Int → H → Prop, (∃ n7, (∃ h9, Gh h4 h9 ∧ I6 n7 (SV.mk none 0 0) (SV.mk none 0 0) (0 : Int) h9)) ∧
 ∀ (n7 : Nat) (_ : F) (x10_free : SV) (x11_mine : SV) (x12_k : Int) (h13 : H), I6 n7 x10_free x11_mine x12_k h13 →
 f110_L1 p1_t p2_want p3_sign r1 R5 I6 n7 x10_free x11_mine x12_k h13) ∧
 ∀ (_ : F) (x37_free : SV) (x38_mine : SV) (h39 : H), R5 x37_free x38_mine h39 →
 f110_J2 p1_t post r1 r3 x37_free x38_mine h39

def f110_hint : Hint := (.node .leaf (.node .leaf (.node (.node .leaf (.join [(9, .sl), (10, .sl)] (.node (.loop [(9, .sl), (10, .sl), (11, .int)] (.node .leaf (.node (.node (.node .lex .lex) .leaf) .leaf))) .leaf))) .leaf)))

theorem f110_eq (p0_0_b : SV) (p0_1_b : SV) (p0_2_b : SV) (p1_t : Int) (p2_want : SV) (p3_sign : Int) (h0 : H) (post : Value → H → Prop) : exec Tryz.prog (bodyOf Tryz.f110) f110_hint (retQ Tryz.prog Tryz.f110 post) (F0 [(Value.agg (List.toArray [(Value.slice p0_0_b.a p0_0_b.len p0_0_b.cap), (Value.slice p0_1_b.a p0_1_b.len p0_1_b.cap), (Value.slice p0_2_b.a p0_2_b.len p0_2_b.cap)])), (Value.int .i64 p1_t), (Value.slice p2_want.a p2_want.len p2_want.cap), (Value.int .i64 p3_sign)]) h0 = f110_sem p0_0_b p0_1_b p0_2_b p1_t p2_want p3_sign h0 post := by kernel_rfl

set_option maxRecDepth 20000 in
theorem f110_call (p0_0_b : SV) (p0_1_b : SV) (p0_2_b : SV) (p1_t : Int) (p2_want : SV) (p3_sign : Int) (h0 : H) (post : Value → H → Prop) (hx : f110_sem p0_0_b p0_1_b p0_2_b p1_t p2_want p3_sign h0 post) : SemCall Tryz.prog 110 (List.toArray [(Value.agg (List.toArray [(Value.slice p0_0_b.a p0_0_b.len p0_0_b.cap), (Value.slice p0_1_b.a p0_1_b.len p0_1_b.cap), (Value.slice p0_2_b.a p0_2_b.len p0_2_b.cap)])), (Value.int .i64 p1_t), (Value.slice p2_want.a p2_want.len p2_want.cap), (Value.int .i64 p3_sign)]) h0 post :=
 sem_of_exec (g := f110_hint) mixed Tryz.func110 (bodyOf_eq (by kernel_rfl)) (by kernel_rfl) ((f110_eq p0_0_b p0_1_b p0_2_b p1_t p2_want p3_sign h0 post).mpr hx)

/- slices.Index[[]int,int] -/
def f112_L1 (p0_s : SV) (p1_v : Int) (post : Value → H → Prop) (R1 : H → Prop) (I2 : Nat → Int → H → Prop) (n3 : Nat) (x6 : Int) (h7 : H) : Prop :=
 VIf (decide (x6 < ((p0_s.len : Nat) : Int))) (
 ∃ b8 : Addr, p0_s.a = some b8 ∧ 0 ≤ x6 ∧ x6 < ((p0_s.len : Nat) : Int) ∧
 ∃ x9 : Int, H.rd h7 (Addr.add (Addr.add b8 ((x6).toNat * 1)) 0) (Value.int .i64 x9) ∧
 VIf (p1_v == x9) (
 VRet h7 (Value.int .i64 x6) post) (
 In64 (x6 + (1 : Int)) ∧
 ∃ m4, m4 < n3 ∧ (∃ h10, Gh h7 h10 ∧ I2 m4 (x6 + (1 : Int)) h10))) (
 (∃ h11, Gh h7 h11 ∧ R1 h11))

def f112_sem (p0_s : SV) (p1_v : Int) (h0 : H) (post : Value → H → Prop) : Prop :=
 ∃ R1 : H → Prop, (
 ∃ I2 : Nat → Int → H → Prop, (∃ n3, (∃ h5, Gh h0 h5 ∧ I2 n3 (0 : Int) h5)) ∧
 ∀ (n3 : Nat) (_ : F) (x6 : Int) (h7 : H), I2 n3 x6 h7 →
 f112_L1 p0_s p1_v post R1 I2 n3 x6 h7) ∧
 ∀ (_ : F) (h12 : H), R1 h12 →
 VRet h12 (Value.int .i64 (-1 : Int)) post

def f112_hint : Hint := (.node .leaf (.node (.node .leaf (.join [] (.node (.loop [(8, .int)] .leaf) .leaf))) .leaf))

theorem f112_eq (p0_s : SV) (p1_v : Int) (h0 : H) (post : Value → H → Prop) : exec Tryz.prog (bodyOf Tryz.f112) f112_hint (retQ Tryz.prog Tryz.f112 post) (F0 [(Value.slice p0_s.a p0_s.len p0_s.cap), (Value.int .i64 p1_v)]) h0 = f112_sem p0_s p1_v h0 post := by kernel_rfl

set_option maxRecDepth 20000 in
theorem f112_call (p0_s : SV) (p1_v : Int) (h0 : H) (post : Value → H → Prop) (hx : f112_sem p0_s p1_v h0 post) : SemCall Tryz.prog 112 (List.toArray [(Value.slice p0_s.a p0_s.len p0_s.cap), (Value.int .i64 p1_v)]) h0 post :=
 sem_of_exec (g := f112_hint) mixed Tryz.func112 (bodyOf_eq (by kernel_rfl)) (by kernel_rfl) ((f112_eq p0_s p1_v h0 post).mpr hx)

end Go.Proofs.YtnppmcgmmdcpiaaGreatDoor
