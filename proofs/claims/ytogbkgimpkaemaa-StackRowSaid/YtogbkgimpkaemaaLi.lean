import Derived.Test.YtogbkgimpkaemaaEngG
import Derived.Test.YtogbkgimpkaemaaRows
import Derived.Test.YtogbkgimpkaemaaT
namespace Go.Proofs.Ytogbkgimpkaemaa
open Go.Eng
/- latchgarth/lin.Row -/
def f34_L1 (p1_h : SV) (r13 : Nat) (x21 : Int) (r31 : Nat) (R34 : H → Prop) (I35 : Nat → Int → H → Prop) (n36 : Nat) (x39 : Int) (h40 : H) : Prop :=
 VIf (decide (x39 < ((p1_h.len : Nat) : Int))) (
 ∃ b41 : Addr, p1_h.a = some b41 ∧ 0 ≤ x39 ∧ x39 < ((p1_h.len : Nat) : Int) ∧
 ∃ x42 : Int, H.rd h40 (Addr.add (Addr.add b41 ((x39).toNat * 6)) 0) (Value.int .i64 x42) ∧
 ∃ x43 : Int, H.rd h40 (Addr.add (Addr.add b41 ((x39).toNat * 6)) 1) (Value.int .i64 x43) ∧
 ∃ x44 : Int, H.rd h40 (Addr.add (Addr.add b41 ((x39).toNat * 6)) 2) (Value.int .i64 x44) ∧
 ∃ x45 : Int, H.rd h40 (Addr.add (Addr.add b41 ((x39).toNat * 6)) 3) (Value.int .i64 x45) ∧
 ∃ x46 : Int, H.rd h40 (Addr.add (Addr.add b41 ((x39).toNat * 6)) 4) (Value.int .i64 x46) ∧
 ∃ x47 : Int, H.rd h40 (Addr.add (Addr.add b41 ((x39).toNat * 6)) 5) (Value.int .i64 x47) ∧
 H.new h40 [(Value.int .i64 0), (Value.int .i64 0), (Value.int .i64 0), (Value.int .i64 0), (Value.int .i64 0), (Value.int .i64 0)] fun r48 h49 =>
 ([(Value.int .i64 x42), (Value.int .i64 x43), (Value.int .i64 x44), (Value.int .i64 x45), (Value.int .i64 x46), (Value.int .i64 x47)]).length = 6 ∧ (Program.underlying Go.Proofs.Try.prog 51).isSome = true ∧
 H.wr h49 (Addr.mk r48 0 none) ([(Value.int .i64 x42), (Value.int .i64 x43), (Value.int .i64 x44), (Value.int .i64 x45), (Value.int .i64 x46), (Value.int .i64 x47)]) fun h50 =>
 ∃ x51 : Int, H.rd h50 (Addr.add (Addr.add (Addr.mk r31 0 none) 5) 0) (Value.int .i64 x51) ∧
 ∃ x52 : Int, H.rd h50 (Addr.add (Addr.add (Addr.mk r48 0 none) 4) 0) (Value.int .i64 x52) ∧
 VIf (decide (x51 ≤ x52)) (
 ∃ x53 : SV, H.rd h50 (Addr.add (Addr.add (Addr.mk r13 0 none) 2) 0) (Value.slice x53.a x53.len x53.cap) ∧
 ∃ b54 : Addr, x53.a = some b54 ∧ 0 ≤ x39 ∧ x39 < ((x53.len : Nat) : Int) ∧
 ∃ x55 : Int, H.rd h50 (Addr.add (Addr.add b54 ((x39).toNat * 1)) 0) (Value.int .i64 x55) ∧
 0 ≤ x21 ∧ x21 ≤ 63 ∧ In64 ((1 : Int) * 2 ^ (x21).toNat) ∧
 ∃ b56 : Addr, x53.a = some b56 ∧ 0 ≤ x39 ∧ x39 < ((x53.len : Nat) : Int) ∧
 H.wr h50 (Addr.add b56 ((x39).toNat * 1)) ([(Value.int .i64 (bitsV .or x55 ((1 : Int) * 2 ^ (x21).toNat)))]) fun h57 =>
 In64 (x39 + (1 : Int)) ∧
 ∃ m37, m37 < n36 ∧ (∃ h58, Gh h57 h58 ∧ I35 m37 (x39 + (1 : Int)) h58)) (
 In64 (x39 + (1 : Int)) ∧
 ∃ m37, m37 < n36 ∧ (∃ h59, Gh h50 h59 ∧ I35 m37 (x39 + (1 : Int)) h59))) (
 (∃ h60, Gh h40 h60 ∧ R34 h60))

def f34_L2 (p1_h : SV) (r13 : Nat) (R16 : H → Prop) (I17 : Nat → Int → H → Prop) (n18 : Nat) (x21 : Int) (h22 : H) : Prop :=
 VIf (decide (x21 < ((p1_h.len : Nat) : Int))) (
 ∃ R23 : H → Prop, (
 ∃ b24 : Addr, p1_h.a = some b24 ∧ 0 ≤ x21 ∧ x21 < ((p1_h.len : Nat) : Int) ∧
 ∃ x25 : Int, H.rd h22 (Addr.add (Addr.add b24 ((x21).toNat * 6)) 0) (Value.int .i64 x25) ∧
 ∃ x26 : Int, H.rd h22 (Addr.add (Addr.add b24 ((x21).toNat * 6)) 1) (Value.int .i64 x26) ∧
 ∃ x27 : Int, H.rd h22 (Addr.add (Addr.add b24 ((x21).toNat * 6)) 2) (Value.int .i64 x27) ∧
 ∃ x28 : Int, H.rd h22 (Addr.add (Addr.add b24 ((x21).toNat * 6)) 3) (Value.int .i64 x28) ∧
 ∃ x29 : Int, H.rd h22 (Addr.add (Addr.add b24 ((x21).toNat * 6)) 4) (Value.int .i64 x29) ∧
 ∃ x30 : Int, H.rd h22 (Addr.add (Addr.add b24 ((x21).toNat * 6)) 5) (Value.int .i64 x30) ∧
 H.new h22 [(Value.int .i64 0), (Value.int .i64 0), (Value.int .i64 0), (Value.int .i64 0), (Value.int .i64 0), (Value.int .i64 0)] fun r31 h32 =>
 ([(Value.int .i64 x25), (Value.int .i64 x26), (Value.int .i64 x27), (Value.int .i64 x28), (Value.int .i64 x29), (Value.int .i64 x30)]).length = 6 ∧ (Program.underlying Go.Proofs.Try.prog 51).isSome = true ∧
 H.wr h32 (Addr.mk r31 0 none) ([(Value.int .i64 x25), (Value.int .i64 x26), (Value.int .i64 x27), (Value.int .i64 x28), (Value.int .i64 x29), (Value.int .i64 x30)]) fun h33 =>
 ∃ R34 : H → Prop, (
 ∃ I35 : Nat → Int → H → Prop, (∃ n36, (∃ h38, Gh h33 h38 ∧ I35 n36 (0 : Int) h38)) ∧
 ∀ (n36 : Nat) (_ : F) (x39 : Int) (h40 : H), I35 n36 x39 h40 →
 f34_L1 p1_h r13 x21 r31 R34 I35 n36 x39 h40) ∧
 ∀ (_ : F) (h61 : H), R34 h61 →
 (∃ h62, Gh h61 h62 ∧ R23 h62)) ∧
 ∀ (_ : F) (h63 : H), R23 h63 →
 In64 (x21 + (1 : Int)) ∧
 ∃ m19, m19 < n18 ∧ (∃ h64, Gh h63 h64 ∧ I17 m19 (x21 + (1 : Int)) h64)) (
 (∃ h65, Gh h22 h65 ∧ R16 h65))

def f34_sem (p0_kind : Int) (p1_h : SV) (h0 : H) (post : Value → H → Prop) : Prop :=
 SemCall Go.Proofs.Try.prog 36 (List.toArray [(Value.int .i64 p0_kind), (Value.slice p1_h.a p1_h.len p1_h.cap)]) h0 fun v1 h2 =>
 ∃ x3 : Option (TypeId × Value), v1 = (errV x3) ∧
 isIfaceV (errV x3) = true ∧
 VIf (!(isNilV (errV x3))) (
 VRet h2 (Value.tuple (List.toArray [(Value.bool false), (Value.slice none 0 0), (errV x3)])) post) (
 H.new h2 [(Value.int .i64 0)] fun r4 h5 =>
 H.new h5 [(Value.slice none 0 0)] fun r6 h7 =>
 H.new h7 [(Value.slice none 0 0)] fun r8 h9 =>
 Value.oneCell' (Value.iface 91 (Value.pointer (some (Addr.mk r4 0 none)))) = true ∧
 Value.oneCell' (Value.iface 94 (Value.pointer (some (Addr.mk r6 0 none)))) = true ∧
 Value.oneCell' (Value.iface 99 (Value.pointer (some (Addr.mk r8 0 none)))) = true ∧
 0 ≤ p0_kind ∧ p0_kind < ((3 : Nat) : Int) ∧
 ∃ x10 : Option (TypeId × Value), ([(Value.iface 91 (Value.pointer (some (Addr.mk r4 0 none)))), (Value.iface 94 (Value.pointer (some (Addr.mk r6 0 none)))), (Value.iface 99 (Value.pointer (some (Addr.mk r8 0 none))))])[(p0_kind).toNat * 1 + 0]? = some (errV x10) ∧
 0 ≤ ((p1_h.len : Nat) : Int) ∧ ((p1_h.len : Nat) : Int) ≤ ((p1_h.len : Nat) : Int) ∧ ((8 : Nat) : Int) * ((p1_h.len : Nat) : Int) ≤ 140737488355328 ∧ ((p1_h.len : Nat) : Int) ≤ 1000000000 ∧
 H.new h9 (repl (((p1_h.len : Nat) : Int)).toNat [(Value.int .i64 0)]) fun r11 h12 =>
 Value.oneCell' (errV x10) = true ∧
 H.new h12 [Value.nilIface, (Value.slice none 0 0), (Value.slice none 0 0), (Value.slice none 0 0), (Value.int .i64 0)] fun r13 h14 =>
 ([(errV x10), (Value.slice p1_h.a p1_h.len p1_h.cap), (Value.slice (some (Addr.mk r11 0 none)) ((((p1_h.len : Nat) : Int)).toNat) ((((p1_h.len : Nat) : Int)).toNat)), (Value.slice none 0 0), (Value.int .i64 0)]).length = 5 ∧ (Program.underlying Go.Proofs.Try.prog 103).isSome = true ∧
 H.wr h14 (Addr.mk r13 0 none) ([(errV x10), (Value.slice p1_h.a p1_h.len p1_h.cap), (Value.slice (some (Addr.mk r11 0 none)) ((((p1_h.len : Nat) : Int)).toNat) ((((p1_h.len : Nat) : Int)).toNat)), (Value.slice none 0 0), (Value.int .i64 0)]) fun h15 =>
 ∃ R16 : H → Prop, (
 ∃ I17 : Nat → Int → H → Prop, (∃ n18, (∃ h20, Gh h15 h20 ∧ I17 n18 (0 : Int) h20)) ∧
 ∀ (n18 : Nat) (_ : F) (x21 : Int) (h22 : H), I17 n18 x21 h22 →
 f34_L2 p1_h r13 R16 I17 n18 x21 h22) ∧
 ∀ (_ : F) (h66 : H), R16 h66 →
 SemCall Go.Proofs.Try.prog 37 (List.toArray [(Value.pointer (some (Addr.mk r13 0 none)))]) h66 fun v67 h68 =>
 ∃ x69 : Bool, v67 = (Value.bool x69) ∧
 VIf (!x69) (
 VRet h68 (Value.tuple (List.toArray [(Value.bool false), (Value.slice none 0 0), Value.nilIface])) post) (
 ∃ x70 : SV, H.rd h68 (Addr.add (Addr.add (Addr.mk r13 0 none) 3) 0) (Value.slice x70.a x70.len x70.cap) ∧
 SemCall Go.Proofs.Try.prog 38 (List.toArray [(Value.slice x70.a x70.len x70.cap)]) h68 fun v71 h72 =>
 ∃ x73 : SV, v71 = (Value.slice x73.a x73.len x73.cap) ∧
 VRet h72 (Value.tuple (List.toArray [(Value.bool true), (Value.slice x73.a x73.len x73.cap), Value.nilIface])) post))

def f34_hint : Hint := (.node .leaf (.node .leaf (.node .lex (.node (.node .leaf (.join [] (.node (.loop [(38, .int)] (.node .leaf (.node .leaf (.node (.join [] (.node (.node .leaf (.node .leaf (.join [] (.node (.loop [(45, .int)] (.node .leaf (.node .leaf (.node (.node (.node .leaf (.node .leaf (.node (.tail 9) .leaf))) .leaf) .leaf)))) .leaf)))) .leaf)) .leaf)))) .leaf))) .leaf))))

theorem f34_eq (p0_kind : Int) (p1_h : SV) (h0 : H) (post : Value → H → Prop) : exec Try.prog (bodyOf Try.f34) f34_hint (retQ Try.prog Try.f34 post) (F0 [(Value.int .i64 p0_kind), (Value.slice p1_h.a p1_h.len p1_h.cap)]) h0 = f34_sem p0_kind p1_h h0 post := by kernel_rfl

set_option maxRecDepth 20000 in
theorem f34_call (p0_kind : Int) (p1_h : SV) (h0 : H) (post : Value → H → Prop) (hx : f34_sem p0_kind p1_h h0 post) : SemCall Try.prog 34 (List.toArray [(Value.int .i64 p0_kind), (Value.slice p1_h.a p1_h.len p1_h.cap)]) h0 post :=
 sem_of_exec (g := f34_hint) mixed Try.func34 (bodyOf_eq (by kernel_rfl)) (by kernel_rfl) ((f34_eq p0_kind p1_h h0 post).mpr hx)

/- latchgarth/lin.Check -/
def f36_L1 (p1_h : SV) (post : Value → H → Prop) (x9 : Int) (r19 : Nat) (R57 : H → Prop) (I58 : Nat → Int → H → Prop) (n59 : Nat) (x62 : Int) (h63 : H) : Prop :=
 VIf (decide (x62 < (((x9).toNat : Nat) : Int))) (
 ∃ b64 : Addr, p1_h.a = some b64 ∧ 0 ≤ x62 ∧ x62 < (((x9).toNat : Nat) : Int) ∧
 ∃ x65 : Int, H.rd h63 (Addr.add (Addr.add b64 ((x62).toNat * 6)) 0) (Value.int .i64 x65) ∧
 ∃ x66 : Int, H.rd h63 (Addr.add (Addr.add b64 ((x62).toNat * 6)) 1) (Value.int .i64 x66) ∧
 ∃ x67 : Int, H.rd h63 (Addr.add (Addr.add b64 ((x62).toNat * 6)) 2) (Value.int .i64 x67) ∧
 ∃ x68 : Int, H.rd h63 (Addr.add (Addr.add b64 ((x62).toNat * 6)) 3) (Value.int .i64 x68) ∧
 ∃ x69 : Int, H.rd h63 (Addr.add (Addr.add b64 ((x62).toNat * 6)) 4) (Value.int .i64 x69) ∧
 ∃ x70 : Int, H.rd h63 (Addr.add (Addr.add b64 ((x62).toNat * 6)) 5) (Value.int .i64 x70) ∧
 H.new h63 [(Value.int .i64 0), (Value.int .i64 0), (Value.int .i64 0), (Value.int .i64 0), (Value.int .i64 0), (Value.int .i64 0)] fun r71 h72 =>
 ([(Value.int .i64 x65), (Value.int .i64 x66), (Value.int .i64 x67), (Value.int .i64 x68), (Value.int .i64 x69), (Value.int .i64 x70)]).length = 6 ∧ (Program.underlying Go.Proofs.Try.prog 51).isSome = true ∧
 H.wr h72 (Addr.mk r71 0 none) ([(Value.int .i64 x65), (Value.int .i64 x66), (Value.int .i64 x67), (Value.int .i64 x68), (Value.int .i64 x69), (Value.int .i64 x70)]) fun h73 =>
 ∃ R74 : Bool → H → Prop, (
 ∃ x75 : Int, H.rd h73 (Addr.add (Addr.add (Addr.mk r71 0 none) 0) 0) (Value.int .i64 x75) ∧
 ∃ x76 : Int, H.rd h73 (Addr.add (Addr.add (Addr.mk r19 0 none) 0) 0) (Value.int .i64 x76) ∧
 VIf (x75 == x76) (
 ∃ x77 : Int, H.rd h73 (Addr.add (Addr.add (Addr.mk r71 0 none) 4) 0) (Value.int .i64 x77) ∧
 ∃ x78 : Int, H.rd h73 (Addr.add (Addr.add (Addr.mk r19 0 none) 5) 0) (Value.int .i64 x78) ∧
 VIf (decide (x77 < x78)) (
 ∃ x79 : Int, H.rd h73 (Addr.add (Addr.add (Addr.mk r19 0 none) 4) 0) (Value.int .i64 x79) ∧
 ∃ x80 : Int, H.rd h73 (Addr.add (Addr.add (Addr.mk r71 0 none) 5) 0) (Value.int .i64 x80) ∧
 (∃ h81, Gh h73 h81 ∧ R74 (decide (x79 < x80)) h81)) (
 (∃ h82, Gh h73 h82 ∧ R74 false h82))) (
 (∃ h83, Gh h73 h83 ∧ R74 false h83))) ∧
 ∀ (_ : F) (x84 : Bool) (h85 : H), R74 x84 h85 →
 VIf x84 (
 VRet h85 (Value.iface 57 (Value.int .i64 (6 : Int))) post) (
 In64 (x62 + (1 : Int)) ∧
 ∃ m60, m60 < n59 ∧ (∃ h86, Gh h85 h86 ∧ I58 m60 (x62 + (1 : Int)) h86))) (
 (∃ h87, Gh h63 h87 ∧ R57 h87))

def f36_J2 (p1_h : SV) (post : Value → H → Prop) (x9 : Int) (R11 : H → Prop) (r19 : Nat) (x53 : Bool) (h54 : H) : Prop :=
 VIf x53 (
 VRet h54 (Value.iface 57 (Value.int .i64 (1 : Int))) post) (
 ∃ x55 : Int, H.rd h54 (Addr.add (Addr.add (Addr.mk r19 0 none) 4) 0) (Value.int .i64 x55) ∧
 ∃ x56 : Int, H.rd h54 (Addr.add (Addr.add (Addr.mk r19 0 none) 5) 0) (Value.int .i64 x56) ∧
 VIf (decide (x55 ≥ x56)) (
 VRet h54 (Value.iface 57 (Value.int .i64 (3 : Int))) post) (
 0 ≤ x9 ∧ x9 ≤ ((p1_h.cap : Nat) : Int) ∧
 ∃ R57 : H → Prop, (
 ∃ I58 : Nat → Int → H → Prop, (∃ n59, (∃ h61, Gh h54 h61 ∧ I58 n59 (0 : Int) h61)) ∧
 ∀ (n59 : Nat) (_ : F) (x62 : Int) (h63 : H), I58 n59 x62 h63 →
 f36_L1 p1_h post x9 r19 R57 I58 n59 x62 h63) ∧
 ∀ (_ : F) (h88 : H), R57 h88 →
 (∃ h89, Gh h88 h89 ∧ R11 h89)))

def f36_L3 (p1_h : SV) (post : Value → H → Prop) (R4 : H → Prop) (I5 : Nat → Int → H → Prop) (n6 : Nat) (x9 : Int) (h10 : H) : Prop :=
 VIf (decide (x9 < ((p1_h.len : Nat) : Int))) (
 ∃ R11 : H → Prop, (
 ∃ b12 : Addr, p1_h.a = some b12 ∧ 0 ≤ x9 ∧ x9 < ((p1_h.len : Nat) : Int) ∧
 ∃ x13 : Int, H.rd h10 (Addr.add (Addr.add b12 ((x9).toNat * 6)) 0) (Value.int .i64 x13) ∧
 ∃ x14 : Int, H.rd h10 (Addr.add (Addr.add b12 ((x9).toNat * 6)) 1) (Value.int .i64 x14) ∧
 ∃ x15 : Int, H.rd h10 (Addr.add (Addr.add b12 ((x9).toNat * 6)) 2) (Value.int .i64 x15) ∧
 ∃ x16 : Int, H.rd h10 (Addr.add (Addr.add b12 ((x9).toNat * 6)) 3) (Value.int .i64 x16) ∧
 ∃ x17 : Int, H.rd h10 (Addr.add (Addr.add b12 ((x9).toNat * 6)) 4) (Value.int .i64 x17) ∧
 ∃ x18 : Int, H.rd h10 (Addr.add (Addr.add b12 ((x9).toNat * 6)) 5) (Value.int .i64 x18) ∧
 H.new h10 [(Value.int .i64 0), (Value.int .i64 0), (Value.int .i64 0), (Value.int .i64 0), (Value.int .i64 0), (Value.int .i64 0)] fun r19 h20 =>
 ([(Value.int .i64 x13), (Value.int .i64 x14), (Value.int .i64 x15), (Value.int .i64 x16), (Value.int .i64 x17), (Value.int .i64 x18)]).length = 6 ∧ (Program.underlying Go.Proofs.Try.prog 51).isSome = true ∧
 H.wr h20 (Addr.mk r19 0 none) ([(Value.int .i64 x13), (Value.int .i64 x14), (Value.int .i64 x15), (Value.int .i64 x16), (Value.int .i64 x17), (Value.int .i64 x18)]) fun h21 =>
 ∃ R22 : Bool → H → Prop, (
 ∃ x23 : Int, H.rd h21 (Addr.add (Addr.add (Addr.mk r19 0 none) 0) 0) (Value.int .i64 x23) ∧
 SemCall Go.Proofs.Try.prog 26 (List.toArray [(Value.int .i64 x23), (Value.int .i64 0), (Value.int .i64 (3 : Int))]) h21 fun v24 h25 =>
 ∃ x26 : Bool, v24 = (Value.bool x26) ∧
 VIf (!x26) (
 (∃ h27, Gh h25 h27 ∧ R22 true h27)) (
 ∃ x28 : Int, H.rd h25 (Addr.add (Addr.add (Addr.mk r19 0 none) 1) 0) (Value.int .i64 x28) ∧
 SemCall Go.Proofs.Try.prog 26 (List.toArray [(Value.int .i64 x28), (Value.int .i64 0), (Value.int .i64 (1 : Int))]) h25 fun v29 h30 =>
 ∃ x31 : Bool, v29 = (Value.bool x31) ∧
 VIf (!x31) (
 (∃ h32, Gh h30 h32 ∧ R22 true h32)) (
 ∃ x33 : Int, H.rd h30 (Addr.add (Addr.add (Addr.mk r19 0 none) 2) 0) (Value.int .i64 x33) ∧
 SemCall Go.Proofs.Try.prog 26 (List.toArray [(Value.int .i64 x33), (Value.int .i64 0), (Value.int .i64 (1000 : Int))]) h30 fun v34 h35 =>
 ∃ x36 : Bool, v34 = (Value.bool x36) ∧
 VIf (!x36) (
 (∃ h37, Gh h35 h37 ∧ R22 true h37)) (
 ∃ x38 : Int, H.rd h35 (Addr.add (Addr.add (Addr.mk r19 0 none) 3) 0) (Value.int .i64 x38) ∧
 SemCall Go.Proofs.Try.prog 26 (List.toArray [(Value.int .i64 x38), (Value.int .i64 (-1 : Int)), (Value.int .i64 (8000 : Int))]) h35 fun v39 h40 =>
 ∃ x41 : Bool, v39 = (Value.bool x41) ∧
 VIf (!x41) (
 (∃ h42, Gh h40 h42 ∧ R22 true h42)) (
 ∃ x43 : Int, H.rd h40 (Addr.add (Addr.add (Addr.mk r19 0 none) 4) 0) (Value.int .i64 x43) ∧
 SemCall Go.Proofs.Try.prog 26 (List.toArray [(Value.int .i64 x43), (Value.int .i64 0), (Value.int .i64 (1000 : Int))]) h40 fun v44 h45 =>
 ∃ x46 : Bool, v44 = (Value.bool x46) ∧
 VIf (!x46) (
 (∃ h47, Gh h45 h47 ∧ R22 true h47)) (
 ∃ x48 : Int, H.rd h45 (Addr.add (Addr.add (Addr.mk r19 0 none) 5) 0) (Value.int .i64 x48) ∧
 SemCall Go.Proofs.Try.prog 26 (List.toArray [(Value.int .i64 x48), (Value.int .i64 0), (Value.int .i64 (1000 : Int))]) h45 fun v49 h50 =>
 ∃ x51 : Bool, v49 = (Value.bool x51) ∧
 (∃ h52, Gh h50 h52 ∧ R22 (!x51) h52))))))) ∧
 ∀ (_ : F) (x53 : Bool) (h54 : H), R22 x53 h54 →
 f36_J2 p1_h post x9 R11 r19 x53 h54) ∧
 ∀ (_ : F) (h90 : H), R11 h90 →
 In64 (x9 + (1 : Int)) ∧
 ∃ m7, m7 < n6 ∧ (∃ h91, Gh h90 h91 ∧ I5 m7 (x9 + (1 : Int)) h91)) (
 (∃ h92, Gh h10 h92 ∧ R4 h92))

def f36_sem (p0_object : Int) (p1_h : SV) (h0 : H) (post : Value → H → Prop) : Prop :=
 SemCall Go.Proofs.Try.prog 26 (List.toArray [(Value.int .i64 p0_object), (Value.int .i64 0), (Value.int .i64 (2 : Int))]) h0 fun v1 h2 =>
 ∃ x3 : Bool, v1 = (Value.bool x3) ∧
 VIf (!x3) (
 VRet h2 (Value.iface 57 (Value.int .i64 (1 : Int))) post) (
 VIf (decide (((p1_h.len : Nat) : Int) > (8 : Int))) (
 VRet h2 (Value.iface 57 (Value.int .i64 (4 : Int))) post) (
 ∃ R4 : H → Prop, (
 ∃ I5 : Nat → Int → H → Prop, (∃ n6, (∃ h8, Gh h2 h8 ∧ I5 n6 (0 : Int) h8)) ∧
 ∀ (n6 : Nat) (_ : F) (x9 : Int) (h10 : H), I5 n6 x9 h10 →
 f36_L3 p1_h post R4 I5 n6 x9 h10) ∧
 ∀ (_ : F) (h93 : H), R4 h93 →
 VRet h93 Value.nilIface post))

def f36_hint : Hint := (.node .leaf (.node .leaf (.node .leaf (.node (.node .leaf (.join [] (.node (.loop [(19, .int)] (.node .leaf (.node .leaf (.node (.join [] (.node (.node .leaf (.node (.node (.join [(57, .bool)] .leaf) .leaf) (.node .leaf (.node .leaf (.join [] (.node (.loop [(69, .int)] (.node .leaf (.node .leaf (.node (.node (.node .leaf (.node (.join [(91, .bool)] .leaf) .leaf)) .leaf) .leaf)))) .leaf)))))) .leaf)) .leaf)))) .leaf))) .leaf))))

theorem f36_eq (p0_object : Int) (p1_h : SV) (h0 : H) (post : Value → H → Prop) : exec Try.prog (bodyOf Try.f36) f36_hint (retQ Try.prog Try.f36 post) (F0 [(Value.int .i64 p0_object), (Value.slice p1_h.a p1_h.len p1_h.cap)]) h0 = f36_sem p0_object p1_h h0 post := by kernel_rfl

set_option maxRecDepth 20000 in
theorem f36_call (p0_object : Int) (p1_h : SV) (h0 : H) (post : Value → H → Prop) (hx : f36_sem p0_object p1_h h0 post) : SemCall Try.prog 36 (List.toArray [(Value.int .i64 p0_object), (Value.slice p1_h.a p1_h.len p1_h.cap)]) h0 post :=
 sem_of_exec (g := f36_hint) mixed Try.func36 (bodyOf_eq (by kernel_rfl)) (by kernel_rfl) ((f36_eq p0_object p1_h h0 post).mpr hx)

/- (*latchgarth/lin.search).find -/
def f37_J1 (p0_s : Option Addr) (I8 : Nat → Int → H → Prop) (n9 : Nat) (x12 : Int) (r21 : Nat) (x51 : Int) (h81 : H) : Prop :=
 ∃ a82 : Addr, p0_s = some a82 ∧
 ∃ x83 : Option (TypeId × Value), H.rd h81 (Addr.add (Addr.add a82 0) 0) (errV x83) ∧
 ∃ x84 : Int, H.rd h81 (Addr.add (Addr.mk r21 0 none) 0) (Value.int .i64 x84) ∧
 ∃ x85 : Int, H.rd h81 (Addr.add (Addr.mk r21 0 none) 1) (Value.int .i64 x85) ∧
 ∃ x86 : Int, H.rd h81 (Addr.add (Addr.mk r21 0 none) 2) (Value.int .i64 x86) ∧
 ∃ x87 : Int, H.rd h81 (Addr.add (Addr.mk r21 0 none) 3) (Value.int .i64 x87) ∧
 ∃ x88 : Int, H.rd h81 (Addr.add (Addr.mk r21 0 none) 4) (Value.int .i64 x88) ∧
 ∃ x89 : Int, H.rd h81 (Addr.add (Addr.mk r21 0 none) 5) (Value.int .i64 x89) ∧
 InvVC Go.Proofs.Try.prog (errV x83) "latchgarth/lin.undo" [(Value.agg (List.toArray [(Value.int .i64 x84), (Value.int .i64 x85), (Value.int .i64 x86), (Value.int .i64 x87), (Value.int .i64 x88), (Value.int .i64 x89)])), (Value.int .i64 x51)] h81 fun v90 h91 =>
 v90 = (Value.tuple (List.toArray [])) ∧
 In64 (x12 + (1 : Int)) ∧
 ∃ m10, m10 < n9 ∧ (∃ h92, Gh h91 h92 ∧ I8 m10 (x12 + (1 : Int)) h92)

def f37_J2 (p0_s : Option Addr) (post : Value → H → Prop) (I8 : Nat → Int → H → Prop) (n9 : Nat) (x12 : Int) (r21 : Nat) (x38 : Bool) (h39 : H) : Prop :=
 VIf x38 (
 In64 (x12 + (1 : Int)) ∧
 ∃ m10, m10 < n9 ∧ (∃ h40, Gh h39 h40 ∧ I8 m10 (x12 + (1 : Int)) h40)) (
 ∃ a41 : Addr, p0_s = some a41 ∧
 ∃ x42 : Option (TypeId × Value), H.rd h39 (Addr.add (Addr.add a41 0) 0) (errV x42) ∧
 ∃ x43 : Int, H.rd h39 (Addr.add (Addr.mk r21 0 none) 0) (Value.int .i64 x43) ∧
 ∃ x44 : Int, H.rd h39 (Addr.add (Addr.mk r21 0 none) 1) (Value.int .i64 x44) ∧
 ∃ x45 : Int, H.rd h39 (Addr.add (Addr.mk r21 0 none) 2) (Value.int .i64 x45) ∧
 ∃ x46 : Int, H.rd h39 (Addr.add (Addr.mk r21 0 none) 3) (Value.int .i64 x46) ∧
 ∃ x47 : Int, H.rd h39 (Addr.add (Addr.mk r21 0 none) 4) (Value.int .i64 x47) ∧
 ∃ x48 : Int, H.rd h39 (Addr.add (Addr.mk r21 0 none) 5) (Value.int .i64 x48) ∧
 InvVC Go.Proofs.Try.prog (errV x42) "latchgarth/lin.do" [(Value.agg (List.toArray [(Value.int .i64 x43), (Value.int .i64 x44), (Value.int .i64 x45), (Value.int .i64 x46), (Value.int .i64 x47), (Value.int .i64 x48)]))] h39 fun v49 h50 =>
 ∃ x51 : Int, v49 = (Value.int .i64 x51) ∧
 ∃ x52 : Int, H.rd h50 (Addr.add (Addr.add (Addr.mk r21 0 none) 3) 0) (Value.int .i64 x52) ∧
 ∃ R53 : H → Prop, (
 VIf (x51 == x52) (
 ∃ a54 : Addr, p0_s = some a54 ∧
 ∃ x55 : Int, H.rd h50 (Addr.add (Addr.add a54 4) 0) (Value.int .i64 x55) ∧
 0 ≤ x12 ∧ x12 ≤ 63 ∧ In64 ((1 : Int) * 2 ^ (x12).toNat) ∧
 ∃ a56 : Addr, p0_s = some a56 ∧
 H.wr h50 (Addr.add a56 4) ([(Value.int .i64 (bitsV .or x55 ((1 : Int) * 2 ^ (x12).toNat)))]) fun h57 =>
 ∃ a58 : Addr, p0_s = some a58 ∧
 ∃ x59 : SV, H.rd h57 (Addr.add (Addr.add a58 3) 0) (Value.slice x59.a x59.len x59.cap) ∧
 H.new h57 [(Value.int .i64 x12)] fun r60 h61 =>
 appVC Go.Proofs.Try.prog 22 (Value.slice x59.a x59.len x59.cap) (Value.slice (some (Addr.mk r60 0 none)) 1 1) h61 fun x62 h63 =>
 ∃ a64 : Addr, p0_s = some a64 ∧
 H.wr h63 (Addr.add a64 3) ([(Value.slice x62.a x62.len x62.cap)]) fun h65 =>
 SemCall Go.Proofs.Try.prog 37 (List.toArray [(Value.pointer p0_s)]) h65 fun v66 h67 =>
 ∃ x68 : Bool, v66 = (Value.bool x68) ∧
 VIf x68 (
 VRet h67 (Value.bool true) post) (
 ∃ a69 : Addr, p0_s = some a69 ∧
 ∃ x70 : Int, H.rd h67 (Addr.add (Addr.add a69 4) 0) (Value.int .i64 x70) ∧
 0 ≤ x12 ∧ x12 ≤ 63 ∧ In64 ((1 : Int) * 2 ^ (x12).toNat) ∧
 ∃ a71 : Addr, p0_s = some a71 ∧
 H.wr h67 (Addr.add a71 4) ([(Value.int .i64 (bitsV .andNot x70 ((1 : Int) * 2 ^ (x12).toNat)))]) fun h72 =>
 ∃ a73 : Addr, p0_s = some a73 ∧
 ∃ x74 : SV, H.rd h72 (Addr.add (Addr.add a73 3) 0) (Value.slice x74.a x74.len x74.cap) ∧
 ∃ a75 : Addr, p0_s = some a75 ∧
 ∃ x76 : SV, H.rd h72 (Addr.add (Addr.add a75 3) 0) (Value.slice x76.a x76.len x76.cap) ∧
 In64 (((x76.len : Nat) : Int) - (1 : Int)) ∧
 0 ≤ (((x76.len : Nat) : Int) - (1 : Int)) ∧ (((x76.len : Nat) : Int) - (1 : Int)) ≤ ((x74.cap : Nat) : Int) ∧
 ∃ a77 : Addr, p0_s = some a77 ∧
 H.wr h72 (Addr.add a77 3) ([(Value.slice x74.a (((((x76.len : Nat) : Int) - (1 : Int))).toNat) x74.cap)]) fun h78 =>
 (∃ h79, Gh h78 h79 ∧ R53 h79))) (
 (∃ h80, Gh h50 h80 ∧ R53 h80))) ∧
 ∀ (_ : F) (h81 : H), R53 h81 →
 f37_J1 p0_s I8 n9 x12 r21 x51 h81)

def f37_L3 (p0_s : Option Addr) (post : Value → H → Prop) (x6 : SV) (R7 : H → Prop) (I8 : Nat → Int → H → Prop) (n9 : Nat) (x12 : Int) (h13 : H) : Prop :=
 VIf (decide (x12 < ((x6.len : Nat) : Int))) (
 ∃ b14 : Addr, x6.a = some b14 ∧ 0 ≤ x12 ∧ x12 < ((x6.len : Nat) : Int) ∧
 ∃ x15 : Int, H.rd h13 (Addr.add (Addr.add b14 ((x12).toNat * 6)) 0) (Value.int .i64 x15) ∧
 ∃ x16 : Int, H.rd h13 (Addr.add (Addr.add b14 ((x12).toNat * 6)) 1) (Value.int .i64 x16) ∧
 ∃ x17 : Int, H.rd h13 (Addr.add (Addr.add b14 ((x12).toNat * 6)) 2) (Value.int .i64 x17) ∧
 ∃ x18 : Int, H.rd h13 (Addr.add (Addr.add b14 ((x12).toNat * 6)) 3) (Value.int .i64 x18) ∧
 ∃ x19 : Int, H.rd h13 (Addr.add (Addr.add b14 ((x12).toNat * 6)) 4) (Value.int .i64 x19) ∧
 ∃ x20 : Int, H.rd h13 (Addr.add (Addr.add b14 ((x12).toNat * 6)) 5) (Value.int .i64 x20) ∧
 H.new h13 [(Value.int .i64 0), (Value.int .i64 0), (Value.int .i64 0), (Value.int .i64 0), (Value.int .i64 0), (Value.int .i64 0)] fun r21 h22 =>
 ([(Value.int .i64 x15), (Value.int .i64 x16), (Value.int .i64 x17), (Value.int .i64 x18), (Value.int .i64 x19), (Value.int .i64 x20)]).length = 6 ∧ (Program.underlying Go.Proofs.Try.prog 51).isSome = true ∧
 H.wr h22 (Addr.mk r21 0 none) ([(Value.int .i64 x15), (Value.int .i64 x16), (Value.int .i64 x17), (Value.int .i64 x18), (Value.int .i64 x19), (Value.int .i64 x20)]) fun h23 =>
 ∃ R24 : Bool → H → Prop, (
 ∃ a25 : Addr, p0_s = some a25 ∧
 ∃ x26 : Int, H.rd h23 (Addr.add (Addr.add a25 4) 0) (Value.int .i64 x26) ∧
 SemCall Go.Proofs.Try.prog 39 (List.toArray [(Value.int .i64 x26), (Value.int .i64 x12)]) h23 fun v27 h28 =>
 ∃ x29 : Bool, v27 = (Value.bool x29) ∧
 VIf x29 (
 (∃ h30, Gh h28 h30 ∧ R24 true h30)) (
 ∃ a31 : Addr, p0_s = some a31 ∧
 ∃ a32 : Addr, p0_s = some a32 ∧
 ∃ x33 : SV, H.rd h28 (Addr.add (Addr.add a31 2) 0) (Value.slice x33.a x33.len x33.cap) ∧
 ∃ b34 : Addr, x33.a = some b34 ∧ 0 ≤ x12 ∧ x12 < ((x33.len : Nat) : Int) ∧
 ∃ x35 : Int, H.rd h28 (Addr.add (Addr.add b34 ((x12).toNat * 1)) 0) (Value.int .i64 x35) ∧
 ∃ x36 : Int, H.rd h28 (Addr.add (Addr.add a32 4) 0) (Value.int .i64 x36) ∧
 (∃ h37, Gh h28 h37 ∧ R24 ((bitsV .andNot x35 x36) != (0 : Int)) h37))) ∧
 ∀ (_ : F) (x38 : Bool) (h39 : H), R24 x38 h39 →
 f37_J2 p0_s post I8 n9 x12 r21 x38 h39) (
 (∃ h93, Gh h13 h93 ∧ R7 h93))

def f37_sem (p0_s : Option Addr) (h0 : H) (post : Value → H → Prop) : Prop :=
 ∃ a1 : Addr, p0_s = some a1 ∧
 ∃ x2 : SV, H.rd h0 (Addr.add (Addr.add a1 3) 0) (Value.slice x2.a x2.len x2.cap) ∧
 ∃ a3 : Addr, p0_s = some a3 ∧
 ∃ x4 : SV, H.rd h0 (Addr.add (Addr.add a3 1) 0) (Value.slice x4.a x4.len x4.cap) ∧
 VIf (((x2.len : Nat) : Int) == ((x4.len : Nat) : Int)) (
 VRet h0 (Value.bool true) post) (
 ∃ a5 : Addr, p0_s = some a5 ∧
 ∃ x6 : SV, H.rd h0 (Addr.add (Addr.add a5 1) 0) (Value.slice x6.a x6.len x6.cap) ∧
 ∃ R7 : H → Prop, (
 ∃ I8 : Nat → Int → H → Prop, (∃ n9, (∃ h11, Gh h0 h11 ∧ I8 n9 (0 : Int) h11)) ∧
 ∀ (n9 : Nat) (_ : F) (x12 : Int) (h13 : H), I8 n9 x12 h13 →
 f37_L3 p0_s post x6 R7 I8 n9 x12 h13) ∧
 ∀ (_ : F) (h94 : H), R7 h94 →
 VRet h94 (Value.bool false) post)

def f37_hint : Hint := (.node .leaf (.node .leaf (.node (.node .leaf (.join [] (.node (.loop [(22, .int)] (.node .leaf (.node .leaf (.node (.node (.node .leaf (.node (.node (.join [(47, .bool)] .lex) .leaf) (.node (.tail 5) (.node (.node .leaf (.join [] (.node (.node (.tail 9) (.node .leaf (.node .leaf (.node (.tail 9) (.tail 14))))) .leaf))) (.tail 6))))) .leaf) .leaf)))) .leaf))) .leaf)))

theorem f37_eq (p0_s : Option Addr) (h0 : H) (post : Value → H → Prop) : exec Try.prog (bodyOf Try.f37) f37_hint (retQ Try.prog Try.f37 post) (F0 [(Value.pointer p0_s)]) h0 = f37_sem p0_s h0 post := by kernel_rfl

set_option maxRecDepth 20000 in
theorem f37_call (p0_s : Option Addr) (h0 : H) (post : Value → H → Prop) (hx : f37_sem p0_s h0 post) : SemCall Try.prog 37 (List.toArray [(Value.pointer p0_s)]) h0 post :=
 sem_of_exec (g := f37_hint) mixed Try.func37 (bodyOf_eq (by kernel_rfl)) (by kernel_rfl) ((f37_eq p0_s h0 post).mpr hx)

/- (*latchgarth/lin.count).do -/
def f59_sem (p0_c : Option Addr) (p1_0_o : Int) (p1_1_o : Int) (p1_2_o : Int) (p1_3_o : Int) (p1_4_o : Int) (p1_5_o : Int) (h0 : H) (post : Value → H → Prop) : Prop :=
 H.new h0 [(Value.int .i64 p1_0_o), (Value.int .i64 p1_1_o), (Value.int .i64 p1_2_o), (Value.int .i64 p1_3_o), (Value.int .i64 p1_4_o), (Value.int .i64 p1_5_o)] fun r1 h2 =>
 ∃ a3 : Addr, p0_c = some a3 ∧
 ∃ x4 : Int, H.rd h2 (Addr.add (Addr.add a3 0) 0) (Value.int .i64 x4) ∧
 ∃ x5 : Int, H.rd h2 (Addr.add (Addr.add (Addr.mk r1 0 none) 1) 0) (Value.int .i64 x5) ∧
 VIf (x5 == (0 : Int)) (
 ∃ a6 : Addr, p0_c = some a6 ∧
 ∃ x7 : Int, H.rd h2 (Addr.add (Addr.add a6 0) 0) (Value.int .i64 x7) ∧
 ∃ x8 : Int, H.rd h2 (Addr.add (Addr.add (Addr.mk r1 0 none) 2) 0) (Value.int .i64 x8) ∧
 In64 (x7 + x8) ∧
 ∃ a9 : Addr, p0_c = some a9 ∧
 H.wr h2 (Addr.add a9 0) ([(Value.int .i64 (x7 + x8))]) fun h10 =>
 VRet h10 (Value.int .i64 x4) post) (
 VRet h2 (Value.int .i64 x4) post)

def f59_hint : Hint := (.node .leaf (.node .leaf (.node (.node .leaf (.node (.tail 9) .leaf)) .leaf)))

theorem f59_eq (p0_c : Option Addr) (p1_0_o : Int) (p1_1_o : Int) (p1_2_o : Int) (p1_3_o : Int) (p1_4_o : Int) (p1_5_o : Int) (h0 : H) (post : Value → H → Prop) : exec Try.prog (bodyOf Try.f59) f59_hint (retQ Try.prog Try.f59 post) (F0 [(Value.pointer p0_c), (Value.agg (List.toArray [(Value.int .i64 p1_0_o), (Value.int .i64 p1_1_o), (Value.int .i64 p1_2_o), (Value.int .i64 p1_3_o), (Value.int .i64 p1_4_o), (Value.int .i64 p1_5_o)]))]) h0 = f59_sem p0_c p1_0_o p1_1_o p1_2_o p1_3_o p1_4_o p1_5_o h0 post := by kernel_rfl

set_option maxRecDepth 20000 in
theorem f59_call (p0_c : Option Addr) (p1_0_o : Int) (p1_1_o : Int) (p1_2_o : Int) (p1_3_o : Int) (p1_4_o : Int) (p1_5_o : Int) (h0 : H) (post : Value → H → Prop) (hx : f59_sem p0_c p1_0_o p1_1_o p1_2_o p1_3_o p1_4_o p1_5_o h0 post) : SemCall Try.prog 59 (List.toArray [(Value.pointer p0_c), (Value.agg (List.toArray [(Value.int .i64 p1_0_o), (Value.int .i64 p1_1_o), (Value.int .i64 p1_2_o), (Value.int .i64 p1_3_o), (Value.int .i64 p1_4_o), (Value.int .i64 p1_5_o)]))]) h0 post :=
 sem_of_exec (g := f59_hint) mixed Try.func59 (bodyOf_eq (by kernel_rfl)) (by kernel_rfl) ((f59_eq p0_c p1_0_o p1_1_o p1_2_o p1_3_o p1_4_o p1_5_o h0 post).mpr hx)

/- (*latchgarth/lin.count).undo -/
def f60_sem (p0_c : Option Addr) (p1_0__ : Int) (p1_1__ : Int) (p1_2__ : Int) (p1_3__ : Int) (p1_4__ : Int) (p1_5__ : Int) (p2_got : Int) (h0 : H) (post : Value → H → Prop) : Prop :=
 H.new h0 [(Value.int .i64 p1_0__), (Value.int .i64 p1_1__), (Value.int .i64 p1_2__), (Value.int .i64 p1_3__), (Value.int .i64 p1_4__), (Value.int .i64 p1_5__)] fun r1 h2 =>
 ∃ a3 : Addr, p0_c = some a3 ∧
 H.wr h2 (Addr.add a3 0) ([(Value.int .i64 p2_got)]) fun h4 =>
 VRet h4 (Value.tuple (List.toArray [])) post

def f60_hint : Hint := .leaf

theorem f60_eq (p0_c : Option Addr) (p1_0__ : Int) (p1_1__ : Int) (p1_2__ : Int) (p1_3__ : Int) (p1_4__ : Int) (p1_5__ : Int) (p2_got : Int) (h0 : H) (post : Value → H → Prop) : exec Try.prog (bodyOf Try.f60) f60_hint (retQ Try.prog Try.f60 post) (F0 [(Value.pointer p0_c), (Value.agg (List.toArray [(Value.int .i64 p1_0__), (Value.int .i64 p1_1__), (Value.int .i64 p1_2__), (Value.int .i64 p1_3__), (Value.int .i64 p1_4__), (Value.int .i64 p1_5__)])), (Value.int .i64 p2_got)]) h0 = f60_sem p0_c p1_0__ p1_1__ p1_2__ p1_3__ p1_4__ p1_5__ p2_got h0 post := by kernel_rfl

set_option maxRecDepth 20000 in
theorem f60_call (p0_c : Option Addr) (p1_0__ : Int) (p1_1__ : Int) (p1_2__ : Int) (p1_3__ : Int) (p1_4__ : Int) (p1_5__ : Int) (p2_got : Int) (h0 : H) (post : Value → H → Prop) (hx : f60_sem p0_c p1_0__ p1_1__ p1_2__ p1_3__ p1_4__ p1_5__ p2_got h0 post) : SemCall Try.prog 60 (List.toArray [(Value.pointer p0_c), (Value.agg (List.toArray [(Value.int .i64 p1_0__), (Value.int .i64 p1_1__), (Value.int .i64 p1_2__), (Value.int .i64 p1_3__), (Value.int .i64 p1_4__), (Value.int .i64 p1_5__)])), (Value.int .i64 p2_got)]) h0 post :=
 sem_of_exec (g := f60_hint) mixed Try.func60 (bodyOf_eq (by kernel_rfl)) (by kernel_rfl) ((f60_eq p0_c p1_0__ p1_1__ p1_2__ p1_3__ p1_4__ p1_5__ p2_got h0 post).mpr hx)

/- (*latchgarth/lin.pile).cut -/
def f61_sem (p0_p : Option Addr) (h0 : H) (post : Value → H → Prop) : Prop :=
 ∃ a1 : Addr, p0_p = some a1 ∧
 ∃ x2 : SV, H.rd h0 (Addr.add (Addr.add a1 0) 0) (Value.slice x2.a x2.len x2.cap) ∧
 ∃ a3 : Addr, p0_p = some a3 ∧
 ∃ x4 : SV, H.rd h0 (Addr.add (Addr.add a3 0) 0) (Value.slice x4.a x4.len x4.cap) ∧
 In64 (((x4.len : Nat) : Int) - (1 : Int)) ∧
 0 ≤ (((x4.len : Nat) : Int) - (1 : Int)) ∧ (((x4.len : Nat) : Int) - (1 : Int)) ≤ ((x2.cap : Nat) : Int) ∧
 ∃ a5 : Addr, p0_p = some a5 ∧
 H.wr h0 (Addr.add a5 0) ([(Value.slice x2.a (((((x4.len : Nat) : Int) - (1 : Int))).toNat) x2.cap)]) fun h6 =>
 VRet h6 (Value.tuple (List.toArray [])) post

def f61_hint : Hint := (.tail 14)

theorem f61_eq (p0_p : Option Addr) (h0 : H) (post : Value → H → Prop) : exec Try.prog (bodyOf Try.f61) f61_hint (retQ Try.prog Try.f61 post) (F0 [(Value.pointer p0_p)]) h0 = f61_sem p0_p h0 post := by kernel_rfl

set_option maxRecDepth 20000 in
theorem f61_call (p0_p : Option Addr) (h0 : H) (post : Value → H → Prop) (hx : f61_sem p0_p h0 post) : SemCall Try.prog 61 (List.toArray [(Value.pointer p0_p)]) h0 post :=
 sem_of_exec (g := f61_hint) mixed Try.func61 (bodyOf_eq (by kernel_rfl)) (by kernel_rfl) ((f61_eq p0_p h0 post).mpr hx)

/- (*latchgarth/lin.stack).do -/
def f62_sem (p0_s : Option Addr) (p1_0_o : Int) (p1_1_o : Int) (p1_2_o : Int) (p1_3_o : Int) (p1_4_o : Int) (p1_5_o : Int) (h0 : H) (post : Value → H → Prop) : Prop :=
 H.new h0 [(Value.int .i64 p1_0_o), (Value.int .i64 p1_1_o), (Value.int .i64 p1_2_o), (Value.int .i64 p1_3_o), (Value.int .i64 p1_4_o), (Value.int .i64 p1_5_o)] fun r1 h2 =>
 ∃ x3 : Int, H.rd h2 (Addr.add (Addr.add (Addr.mk r1 0 none) 1) 0) (Value.int .i64 x3) ∧
 VIf (x3 == (0 : Int)) (
 ∃ a4 : Addr, p0_s = some a4 ∧
 ∃ x5 : Int, H.rd h2 (Addr.add (Addr.mk r1 0 none) 0) (Value.int .i64 x5) ∧
 ∃ x6 : Int, H.rd h2 (Addr.add (Addr.mk r1 0 none) 1) (Value.int .i64 x6) ∧
 ∃ x7 : Int, H.rd h2 (Addr.add (Addr.mk r1 0 none) 2) (Value.int .i64 x7) ∧
 ∃ x8 : Int, H.rd h2 (Addr.add (Addr.mk r1 0 none) 3) (Value.int .i64 x8) ∧
 ∃ x9 : Int, H.rd h2 (Addr.add (Addr.mk r1 0 none) 4) (Value.int .i64 x9) ∧
 ∃ x10 : Int, H.rd h2 (Addr.add (Addr.mk r1 0 none) 5) (Value.int .i64 x10) ∧
 SemCall Go.Proofs.Try.prog 64 (List.toArray [(Value.pointer (some (Addr.add a4 0))), (Value.agg (List.toArray [(Value.int .i64 x5), (Value.int .i64 x6), (Value.int .i64 x7), (Value.int .i64 x8), (Value.int .i64 x9), (Value.int .i64 x10)]))]) h2 fun v11 h12 =>
 v11 = (Value.tuple (List.toArray [])) ∧
 VRet h12 (Value.int .i64 (-1 : Int)) post) (
 ∃ a13 : Addr, p0_s = some a13 ∧
 ∃ x14 : SV, H.rd h2 (Addr.add (Addr.add (Addr.add a13 0) 0) 0) (Value.slice x14.a x14.len x14.cap) ∧
 VIf (((x14.len : Nat) : Int) == (0 : Int)) (
 VRet h2 (Value.int .i64 (-1 : Int)) post) (
 ∃ a15 : Addr, p0_s = some a15 ∧
 ∃ x16 : SV, H.rd h2 (Addr.add (Addr.add (Addr.add a15 0) 0) 0) (Value.slice x16.a x16.len x16.cap) ∧
 ∃ a17 : Addr, p0_s = some a17 ∧
 ∃ x18 : SV, H.rd h2 (Addr.add (Addr.add (Addr.add a17 0) 0) 0) (Value.slice x18.a x18.len x18.cap) ∧
 In64 (((x18.len : Nat) : Int) - (1 : Int)) ∧
 ∃ b19 : Addr, x16.a = some b19 ∧ 0 ≤ (((x18.len : Nat) : Int) - (1 : Int)) ∧ (((x18.len : Nat) : Int) - (1 : Int)) < ((x16.len : Nat) : Int) ∧
 ∃ x20 : Int, H.rd h2 (Addr.add (Addr.add b19 (((((x18.len : Nat) : Int) - (1 : Int))).toNat * 1)) 0) (Value.int .i64 x20) ∧
 ∃ a21 : Addr, p0_s = some a21 ∧
 SemCall Go.Proofs.Try.prog 61 (List.toArray [(Value.pointer (some (Addr.add a21 0)))]) h2 fun v22 h23 =>
 v22 = (Value.tuple (List.toArray [])) ∧
 VRet h23 (Value.int .i64 x20) post))

def f62_hint : Hint := (.node .leaf (.node (.node .leaf (.node (.node (.tail 4) .leaf) .leaf)) .leaf))

theorem f62_eq (p0_s : Option Addr) (p1_0_o : Int) (p1_1_o : Int) (p1_2_o : Int) (p1_3_o : Int) (p1_4_o : Int) (p1_5_o : Int) (h0 : H) (post : Value → H → Prop) : exec Try.prog (bodyOf Try.f62) f62_hint (retQ Try.prog Try.f62 post) (F0 [(Value.pointer p0_s), (Value.agg (List.toArray [(Value.int .i64 p1_0_o), (Value.int .i64 p1_1_o), (Value.int .i64 p1_2_o), (Value.int .i64 p1_3_o), (Value.int .i64 p1_4_o), (Value.int .i64 p1_5_o)]))]) h0 = f62_sem p0_s p1_0_o p1_1_o p1_2_o p1_3_o p1_4_o p1_5_o h0 post := by kernel_rfl

set_option maxRecDepth 20000 in
theorem f62_call (p0_s : Option Addr) (p1_0_o : Int) (p1_1_o : Int) (p1_2_o : Int) (p1_3_o : Int) (p1_4_o : Int) (p1_5_o : Int) (h0 : H) (post : Value → H → Prop) (hx : f62_sem p0_s p1_0_o p1_1_o p1_2_o p1_3_o p1_4_o p1_5_o h0 post) : SemCall Try.prog 62 (List.toArray [(Value.pointer p0_s), (Value.agg (List.toArray [(Value.int .i64 p1_0_o), (Value.int .i64 p1_1_o), (Value.int .i64 p1_2_o), (Value.int .i64 p1_3_o), (Value.int .i64 p1_4_o), (Value.int .i64 p1_5_o)]))]) h0 post :=
 sem_of_exec (g := f62_hint) mixed Try.func62 (bodyOf_eq (by kernel_rfl)) (by kernel_rfl) ((f62_eq p0_s p1_0_o p1_1_o p1_2_o p1_3_o p1_4_o p1_5_o h0 post).mpr hx)

/- (*latchgarth/lin.stack).undo -/
def f63_sem (p0_s : Option Addr) (p1_0_o : Int) (p1_1_o : Int) (p1_2_o : Int) (p1_3_o : Int) (p1_4_o : Int) (p1_5_o : Int) (p2_got : Int) (h0 : H) (post : Value → H → Prop) : Prop :=
 H.new h0 [(Value.int .i64 p1_0_o), (Value.int .i64 p1_1_o), (Value.int .i64 p1_2_o), (Value.int .i64 p1_3_o), (Value.int .i64 p1_4_o), (Value.int .i64 p1_5_o)] fun r1 h2 =>
 ∃ x3 : Int, H.rd h2 (Addr.add (Addr.add (Addr.mk r1 0 none) 1) 0) (Value.int .i64 x3) ∧
 VIf (x3 == (0 : Int)) (
 ∃ a4 : Addr, p0_s = some a4 ∧
 SemCall Go.Proofs.Try.prog 61 (List.toArray [(Value.pointer (some (Addr.add a4 0)))]) h2 fun v5 h6 =>
 v5 = (Value.tuple (List.toArray [])) ∧
 VRet h6 (Value.tuple (List.toArray [])) post) (
 VIf (decide (p2_got ≥ (0 : Int))) (
 ∃ a7 : Addr, p0_s = some a7 ∧
 ∃ x8 : SV, H.rd h2 (Addr.add (Addr.add (Addr.add a7 0) 0) 0) (Value.slice x8.a x8.len x8.cap) ∧
 H.new h2 [(Value.int .i64 p2_got)] fun r9 h10 =>
 appVC Go.Proofs.Try.prog 22 (Value.slice x8.a x8.len x8.cap) (Value.slice (some (Addr.mk r9 0 none)) 1 1) h10 fun x11 h12 =>
 ∃ a13 : Addr, p0_s = some a13 ∧
 H.wr h12 (Addr.add (Addr.add a13 0) 0) ([(Value.slice x11.a x11.len x11.cap)]) fun h14 =>
 VRet h14 (Value.tuple (List.toArray [])) post) (
 VRet h2 (Value.tuple (List.toArray [])) post))

def f63_hint : Hint := .leaf

theorem f63_eq (p0_s : Option Addr) (p1_0_o : Int) (p1_1_o : Int) (p1_2_o : Int) (p1_3_o : Int) (p1_4_o : Int) (p1_5_o : Int) (p2_got : Int) (h0 : H) (post : Value → H → Prop) : exec Try.prog (bodyOf Try.f63) f63_hint (retQ Try.prog Try.f63 post) (F0 [(Value.pointer p0_s), (Value.agg (List.toArray [(Value.int .i64 p1_0_o), (Value.int .i64 p1_1_o), (Value.int .i64 p1_2_o), (Value.int .i64 p1_3_o), (Value.int .i64 p1_4_o), (Value.int .i64 p1_5_o)])), (Value.int .i64 p2_got)]) h0 = f63_sem p0_s p1_0_o p1_1_o p1_2_o p1_3_o p1_4_o p1_5_o p2_got h0 post := by kernel_rfl

set_option maxRecDepth 20000 in
theorem f63_call (p0_s : Option Addr) (p1_0_o : Int) (p1_1_o : Int) (p1_2_o : Int) (p1_3_o : Int) (p1_4_o : Int) (p1_5_o : Int) (p2_got : Int) (h0 : H) (post : Value → H → Prop) (hx : f63_sem p0_s p1_0_o p1_1_o p1_2_o p1_3_o p1_4_o p1_5_o p2_got h0 post) : SemCall Try.prog 63 (List.toArray [(Value.pointer p0_s), (Value.agg (List.toArray [(Value.int .i64 p1_0_o), (Value.int .i64 p1_1_o), (Value.int .i64 p1_2_o), (Value.int .i64 p1_3_o), (Value.int .i64 p1_4_o), (Value.int .i64 p1_5_o)])), (Value.int .i64 p2_got)]) h0 post :=
 sem_of_exec (g := f63_hint) mixed Try.func63 (bodyOf_eq (by kernel_rfl)) (by kernel_rfl) ((f63_eq p0_s p1_0_o p1_1_o p1_2_o p1_3_o p1_4_o p1_5_o p2_got h0 post).mpr hx)

/- (*latchgarth/lin.pile).in -/
def f64_sem (p0_p : Option Addr) (p1_0_o : Int) (p1_1_o : Int) (p1_2_o : Int) (p1_3_o : Int) (p1_4_o : Int) (p1_5_o : Int) (h0 : H) (post : Value → H → Prop) : Prop :=
 H.new h0 [(Value.int .i64 p1_0_o), (Value.int .i64 p1_1_o), (Value.int .i64 p1_2_o), (Value.int .i64 p1_3_o), (Value.int .i64 p1_4_o), (Value.int .i64 p1_5_o)] fun r1 h2 =>
 ∃ a3 : Addr, p0_p = some a3 ∧
 ∃ x4 : SV, H.rd h2 (Addr.add (Addr.add a3 0) 0) (Value.slice x4.a x4.len x4.cap) ∧
 ∃ x5 : Int, H.rd h2 (Addr.add (Addr.add (Addr.mk r1 0 none) 2) 0) (Value.int .i64 x5) ∧
 H.new h2 [(Value.int .i64 x5)] fun r6 h7 =>
 appVC Go.Proofs.Try.prog 22 (Value.slice x4.a x4.len x4.cap) (Value.slice (some (Addr.mk r6 0 none)) 1 1) h7 fun x8 h9 =>
 ∃ a10 : Addr, p0_p = some a10 ∧
 H.wr h9 (Addr.add a10 0) ([(Value.slice x8.a x8.len x8.cap)]) fun h11 =>
 VRet h11 (Value.tuple (List.toArray [])) post

def f64_hint : Hint := (.node .leaf .lex)

theorem f64_eq (p0_p : Option Addr) (p1_0_o : Int) (p1_1_o : Int) (p1_2_o : Int) (p1_3_o : Int) (p1_4_o : Int) (p1_5_o : Int) (h0 : H) (post : Value → H → Prop) : exec Try.prog (bodyOf Try.f64) f64_hint (retQ Try.prog Try.f64 post) (F0 [(Value.pointer p0_p), (Value.agg (List.toArray [(Value.int .i64 p1_0_o), (Value.int .i64 p1_1_o), (Value.int .i64 p1_2_o), (Value.int .i64 p1_3_o), (Value.int .i64 p1_4_o), (Value.int .i64 p1_5_o)]))]) h0 = f64_sem p0_p p1_0_o p1_1_o p1_2_o p1_3_o p1_4_o p1_5_o h0 post := by kernel_rfl

set_option maxRecDepth 20000 in
theorem f64_call (p0_p : Option Addr) (p1_0_o : Int) (p1_1_o : Int) (p1_2_o : Int) (p1_3_o : Int) (p1_4_o : Int) (p1_5_o : Int) (h0 : H) (post : Value → H → Prop) (hx : f64_sem p0_p p1_0_o p1_1_o p1_2_o p1_3_o p1_4_o p1_5_o h0 post) : SemCall Try.prog 64 (List.toArray [(Value.pointer p0_p), (Value.agg (List.toArray [(Value.int .i64 p1_0_o), (Value.int .i64 p1_1_o), (Value.int .i64 p1_2_o), (Value.int .i64 p1_3_o), (Value.int .i64 p1_4_o), (Value.int .i64 p1_5_o)]))]) h0 post :=
 sem_of_exec (g := f64_hint) mixed Try.func64 (bodyOf_eq (by kernel_rfl)) (by kernel_rfl) ((f64_eq p0_p p1_0_o p1_1_o p1_2_o p1_3_o p1_4_o p1_5_o h0 post).mpr hx)

/- (*latchgarth/lin.queue).do -/
def f65_sem (p0_q : Option Addr) (p1_0_o : Int) (p1_1_o : Int) (p1_2_o : Int) (p1_3_o : Int) (p1_4_o : Int) (p1_5_o : Int) (h0 : H) (post : Value → H → Prop) : Prop :=
 H.new h0 [(Value.int .i64 p1_0_o), (Value.int .i64 p1_1_o), (Value.int .i64 p1_2_o), (Value.int .i64 p1_3_o), (Value.int .i64 p1_4_o), (Value.int .i64 p1_5_o)] fun r1 h2 =>
 ∃ x3 : Int, H.rd h2 (Addr.add (Addr.add (Addr.mk r1 0 none) 1) 0) (Value.int .i64 x3) ∧
 VIf (x3 == (0 : Int)) (
 ∃ a4 : Addr, p0_q = some a4 ∧
 ∃ x5 : Int, H.rd h2 (Addr.add (Addr.mk r1 0 none) 0) (Value.int .i64 x5) ∧
 ∃ x6 : Int, H.rd h2 (Addr.add (Addr.mk r1 0 none) 1) (Value.int .i64 x6) ∧
 ∃ x7 : Int, H.rd h2 (Addr.add (Addr.mk r1 0 none) 2) (Value.int .i64 x7) ∧
 ∃ x8 : Int, H.rd h2 (Addr.add (Addr.mk r1 0 none) 3) (Value.int .i64 x8) ∧
 ∃ x9 : Int, H.rd h2 (Addr.add (Addr.mk r1 0 none) 4) (Value.int .i64 x9) ∧
 ∃ x10 : Int, H.rd h2 (Addr.add (Addr.mk r1 0 none) 5) (Value.int .i64 x10) ∧
 SemCall Go.Proofs.Try.prog 64 (List.toArray [(Value.pointer (some (Addr.add a4 0))), (Value.agg (List.toArray [(Value.int .i64 x5), (Value.int .i64 x6), (Value.int .i64 x7), (Value.int .i64 x8), (Value.int .i64 x9), (Value.int .i64 x10)]))]) h2 fun v11 h12 =>
 v11 = (Value.tuple (List.toArray [])) ∧
 VRet h12 (Value.int .i64 (-1 : Int)) post) (
 ∃ a13 : Addr, p0_q = some a13 ∧
 ∃ x14 : SV, H.rd h2 (Addr.add (Addr.add (Addr.add a13 0) 0) 0) (Value.slice x14.a x14.len x14.cap) ∧
 VIf (((x14.len : Nat) : Int) == (0 : Int)) (
 VRet h2 (Value.int .i64 (-1 : Int)) post) (
 ∃ a15 : Addr, p0_q = some a15 ∧
 ∃ x16 : SV, H.rd h2 (Addr.add (Addr.add (Addr.add a15 0) 0) 0) (Value.slice x16.a x16.len x16.cap) ∧
 ∃ b17 : Addr, x16.a = some b17 ∧ 0 ≤ (0 : Int) ∧ (0 : Int) < ((x16.len : Nat) : Int) ∧
 ∃ x18 : Int, H.rd h2 (Addr.add (Addr.add b17 (((0 : Int)).toNat * 1)) 0) (Value.int .i64 x18) ∧
 ∃ a19 : Addr, p0_q = some a19 ∧
 ∃ x20 : SV, H.rd h2 (Addr.add (Addr.add (Addr.add a19 0) 0) 0) (Value.slice x20.a x20.len x20.cap) ∧
 0 ≤ (1 : Int) ∧ (1 : Int) ≤ ((x20.len : Nat) : Int) ∧
 SemCall Go.Proofs.Try.prog 38 (List.toArray [(Value.slice (if x20.cap = ((1 : Int)).toNat then x20.a else Option.map (fun z => Addr.add z (((1 : Int)).toNat * 1)) x20.a) (x20.len - ((1 : Int)).toNat) (x20.cap - ((1 : Int)).toNat))]) h2 fun v21 h22 =>
 ∃ x23 : SV, v21 = (Value.slice x23.a x23.len x23.cap) ∧
 ∃ a24 : Addr, p0_q = some a24 ∧
 H.wr h22 (Addr.add (Addr.add a24 0) 0) ([(Value.slice x23.a x23.len x23.cap)]) fun h25 =>
 VRet h25 (Value.int .i64 x18) post))

def f65_hint : Hint := (.node .leaf (.node (.node .leaf (.node (.node (.tail 4) .leaf) .leaf)) .leaf))

theorem f65_eq (p0_q : Option Addr) (p1_0_o : Int) (p1_1_o : Int) (p1_2_o : Int) (p1_3_o : Int) (p1_4_o : Int) (p1_5_o : Int) (h0 : H) (post : Value → H → Prop) : exec Try.prog (bodyOf Try.f65) f65_hint (retQ Try.prog Try.f65 post) (F0 [(Value.pointer p0_q), (Value.agg (List.toArray [(Value.int .i64 p1_0_o), (Value.int .i64 p1_1_o), (Value.int .i64 p1_2_o), (Value.int .i64 p1_3_o), (Value.int .i64 p1_4_o), (Value.int .i64 p1_5_o)]))]) h0 = f65_sem p0_q p1_0_o p1_1_o p1_2_o p1_3_o p1_4_o p1_5_o h0 post := by kernel_rfl

set_option maxRecDepth 20000 in
theorem f65_call (p0_q : Option Addr) (p1_0_o : Int) (p1_1_o : Int) (p1_2_o : Int) (p1_3_o : Int) (p1_4_o : Int) (p1_5_o : Int) (h0 : H) (post : Value → H → Prop) (hx : f65_sem p0_q p1_0_o p1_1_o p1_2_o p1_3_o p1_4_o p1_5_o h0 post) : SemCall Try.prog 65 (List.toArray [(Value.pointer p0_q), (Value.agg (List.toArray [(Value.int .i64 p1_0_o), (Value.int .i64 p1_1_o), (Value.int .i64 p1_2_o), (Value.int .i64 p1_3_o), (Value.int .i64 p1_4_o), (Value.int .i64 p1_5_o)]))]) h0 post :=
 sem_of_exec (g := f65_hint) mixed Try.func65 (bodyOf_eq (by kernel_rfl)) (by kernel_rfl) ((f65_eq p0_q p1_0_o p1_1_o p1_2_o p1_3_o p1_4_o p1_5_o h0 post).mpr hx)

/- (*latchgarth/lin.queue).undo -/
def f66_sem (p0_q : Option Addr) (p1_0_o : Int) (p1_1_o : Int) (p1_2_o : Int) (p1_3_o : Int) (p1_4_o : Int) (p1_5_o : Int) (p2_got : Int) (h0 : H) (post : Value → H → Prop) : Prop :=
 H.new h0 [(Value.int .i64 p1_0_o), (Value.int .i64 p1_1_o), (Value.int .i64 p1_2_o), (Value.int .i64 p1_3_o), (Value.int .i64 p1_4_o), (Value.int .i64 p1_5_o)] fun r1 h2 =>
 ∃ x3 : Int, H.rd h2 (Addr.add (Addr.add (Addr.mk r1 0 none) 1) 0) (Value.int .i64 x3) ∧
 VIf (x3 == (0 : Int)) (
 ∃ a4 : Addr, p0_q = some a4 ∧
 SemCall Go.Proofs.Try.prog 61 (List.toArray [(Value.pointer (some (Addr.add a4 0)))]) h2 fun v5 h6 =>
 v5 = (Value.tuple (List.toArray [])) ∧
 VRet h6 (Value.tuple (List.toArray [])) post) (
 VIf (decide (p2_got ≥ (0 : Int))) (
 ∃ a7 : Addr, p0_q = some a7 ∧
 ∃ x8 : SV, H.rd h2 (Addr.add (Addr.add (Addr.add a7 0) 0) 0) (Value.slice x8.a x8.len x8.cap) ∧
 H.new h2 [(Value.int .i64 p2_got)] fun r9 h10 =>
 SemCall Go.Proofs.Try.prog 67 (List.toArray [(Value.slice x8.a x8.len x8.cap), (Value.int .i64 0), (Value.slice (some (Addr.mk r9 0 none)) 1 1)]) h10 fun v11 h12 =>
 ∃ x13 : SV, v11 = (Value.slice x13.a x13.len x13.cap) ∧
 ∃ a14 : Addr, p0_q = some a14 ∧
 H.wr h12 (Addr.add (Addr.add a14 0) 0) ([(Value.slice x13.a x13.len x13.cap)]) fun h15 =>
 VRet h15 (Value.tuple (List.toArray [])) post) (
 VRet h2 (Value.tuple (List.toArray [])) post))

def f66_hint : Hint := .leaf

theorem f66_eq (p0_q : Option Addr) (p1_0_o : Int) (p1_1_o : Int) (p1_2_o : Int) (p1_3_o : Int) (p1_4_o : Int) (p1_5_o : Int) (p2_got : Int) (h0 : H) (post : Value → H → Prop) : exec Try.prog (bodyOf Try.f66) f66_hint (retQ Try.prog Try.f66 post) (F0 [(Value.pointer p0_q), (Value.agg (List.toArray [(Value.int .i64 p1_0_o), (Value.int .i64 p1_1_o), (Value.int .i64 p1_2_o), (Value.int .i64 p1_3_o), (Value.int .i64 p1_4_o), (Value.int .i64 p1_5_o)])), (Value.int .i64 p2_got)]) h0 = f66_sem p0_q p1_0_o p1_1_o p1_2_o p1_3_o p1_4_o p1_5_o p2_got h0 post := by kernel_rfl

set_option maxRecDepth 20000 in
theorem f66_call (p0_q : Option Addr) (p1_0_o : Int) (p1_1_o : Int) (p1_2_o : Int) (p1_3_o : Int) (p1_4_o : Int) (p1_5_o : Int) (p2_got : Int) (h0 : H) (post : Value → H → Prop) (hx : f66_sem p0_q p1_0_o p1_1_o p1_2_o p1_3_o p1_4_o p1_5_o p2_got h0 post) : SemCall Try.prog 66 (List.toArray [(Value.pointer p0_q), (Value.agg (List.toArray [(Value.int .i64 p1_0_o), (Value.int .i64 p1_1_o), (Value.int .i64 p1_2_o), (Value.int .i64 p1_3_o), (Value.int .i64 p1_4_o), (Value.int .i64 p1_5_o)])), (Value.int .i64 p2_got)]) h0 post :=
 sem_of_exec (g := f66_hint) mixed Try.func66 (bodyOf_eq (by kernel_rfl)) (by kernel_rfl) ((f66_eq p0_q p1_0_o p1_1_o p1_2_o p1_3_o p1_4_o p1_5_o p2_got h0 post).mpr hx)

end Go.Proofs.Ytogbkgimpkaemaa
