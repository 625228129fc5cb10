import Derived.Test.YtogbkgimpkaemaaEngG
import Derived.Test.YtogbkgimpkaemaaRows
namespace Go.Proofs.Ytogbkgimpkaemaa
open Go.Eng
theorem mixed : Try.prog.follows .mixedOrders = true := by kernel_rfl
/- latchgarth/latchgarthlaw3.FifoOrder -/
def f4_J1 (I14 : Nat → Int → SV → SV → SV → Int → H → Prop) (n15 : Nat) (x20_got : SV) (x21_who : SV) (x22_i : Int) (x30 : SV) (x64_puts : Int) (x65_by : SV) (x72 : Int) (x78 : Bool) (h79 : H) : Prop :=
 VIf x78 (
 H.new h79 [(Value.int .i64 x72)] fun r80 h81 =>
 appVC Go.Proofs.Try.prog 22 (Value.slice x20_got.a x20_got.len x20_got.cap) (Value.slice (some (Addr.mk r80 0 none)) 1 1) h81 fun x82 h83 =>
 ∃ b84 : Addr, x30.a = some b84 ∧ 0 ≤ (0 : Int) ∧ (0 : Int) < ((x30.len : Nat) : Int) ∧
 ∃ x85 : Int, H.rd h83 (Addr.add (Addr.add b84 (((0 : Int)).toNat * 1)) 0) (Value.int .i64 x85) ∧
 H.new h83 [(Value.int .i64 x85)] fun r86 h87 =>
 appVC Go.Proofs.Try.prog 22 (Value.slice x21_who.a x21_who.len x21_who.cap) (Value.slice (some (Addr.mk r86 0 none)) 1 1) h87 fun x88 h89 =>
 In64 (x22_i + (1 : Int)) ∧
 ∃ m16, m16 < n15 ∧ (∃ h90, Gh h89 h90 ∧ I14 m16 x64_puts x65_by x82 x88 (x22_i + (1 : Int)) h90)) (
 In64 (x22_i + (1 : Int)) ∧
 ∃ m16, m16 < n15 ∧ (∃ h91, Gh h79 h91 ∧ I14 m16 x64_puts x65_by x20_got x21_who (x22_i + (1 : Int)) h91))

def f4_J2 (x6 : Option Addr) (I14 : Nat → Int → SV → SV → SV → Int → H → Prop) (n15 : Nat) (x20_got : SV) (x21_who : SV) (x22_i : Int) (x30 : SV) (x64_puts : Int) (x65_by : SV) (h66 : H) : Prop :=
 VIf (((x30.len : Nat) : Int) == (1 : Int)) (
 ∃ b67 : Addr, x30.a = some b67 ∧ 0 ≤ (0 : Int) ∧ (0 : Int) < ((x30.len : Nat) : Int) ∧
 ∃ x68 : Int, H.rd h66 (Addr.add (Addr.add b67 (((0 : Int)).toNat * 1)) 0) (Value.int .i64 x68) ∧
 SemCall Go.Proofs.Try.prog 11 (List.toArray [(Value.pointer x6), (Value.int .i64 x68)]) h66 fun v69 h70 =>
 ∃ x71 : Bool, ∃ x72 : Int, ∃ x73 : Option (TypeId × Value), v69 = (Value.tuple (List.toArray [(Value.bool x71), (Value.int .i64 x72), (errV x73)])) ∧
 ∃ R74 : Bool → H → Prop, (
 isIfaceV (errV x73) = true ∧
 VIf (isNilV (errV x73)) (
 VIf x71 (
 (∃ h75, Gh h70 h75 ∧ R74 (decide (x72 ≥ (0 : Int))) h75)) (
 (∃ h76, Gh h70 h76 ∧ R74 false h76))) (
 (∃ h77, Gh h70 h77 ∧ R74 false h77))) ∧
 ∀ (_ : F) (x78 : Bool) (h79 : H), R74 x78 h79 →
 f4_J1 I14 n15 x20_got x21_who x22_i x30 x64_puts x65_by x72 x78 h79) (
 In64 (x22_i + (1 : Int)) ∧
 ∃ m16, m16 < n15 ∧ (∃ h92, Gh h66 h92 ∧ I14 m16 x64_puts x65_by x20_got x21_who (x22_i + (1 : Int)) h92))

def f4_J3 (x6 : Option Addr) (I14 : Nat → Int → SV → SV → SV → Int → H → Prop) (n15 : Nat) (x18_puts : Int) (x19_by : SV) (x20_got : SV) (x21_who : SV) (x22_i : Int) (x30 : SV) (x39 : Bool) (h40 : H) : Prop :=
 ∃ R41 : Int → SV → H → Prop, (
 VIf x39 (
 ∃ b42 : Addr, x30.a = some b42 ∧ 0 ≤ (1 : Int) ∧ (1 : Int) < ((x30.len : Nat) : Int) ∧
 ∃ x43 : Int, H.rd h40 (Addr.add (Addr.add b42 (((1 : Int)).toNat * 1)) 0) (Value.int .i64 x43) ∧
 VIf (decide (x43 < (0 : Int))) (
 ∃ b44 : Addr, x30.a = some b44 ∧ 0 ≤ (0 : Int) ∧ (0 : Int) < ((x30.len : Nat) : Int) ∧
 ∃ x45 : Int, H.rd h40 (Addr.add (Addr.add b44 (((0 : Int)).toNat * 1)) 0) (Value.int .i64 x45) ∧
 SemCall Go.Proofs.Try.prog 13 (List.toArray [(Value.pointer x6), (Value.int .i64 x45)]) h40 fun v46 h47 =>
 ∃ x48 : Option (TypeId × Value), v46 = (errV x48) ∧
 (∃ h49, Gh h47 h49 ∧ R41 x18_puts x19_by h49)) (
 ∃ b50 : Addr, x30.a = some b50 ∧ 0 ≤ (0 : Int) ∧ (0 : Int) < ((x30.len : Nat) : Int) ∧
 ∃ x51 : Int, H.rd h40 (Addr.add (Addr.add b50 (((0 : Int)).toNat * 1)) 0) (Value.int .i64 x51) ∧
 SemCall Go.Proofs.Try.prog 9 (List.toArray [(Value.pointer x6), (Value.int .i64 x51), (Value.int .i64 x18_puts)]) h40 fun v52 h53 =>
 ∃ x54 : Option (TypeId × Value), v52 = (errV x54) ∧
 isIfaceV (errV x54) = true ∧
 VIf (isNilV (errV x54)) (
 ∃ b55 : Addr, x30.a = some b55 ∧ 0 ≤ (0 : Int) ∧ (0 : Int) < ((x30.len : Nat) : Int) ∧
 ∃ x56 : Int, H.rd h53 (Addr.add (Addr.add b55 (((0 : Int)).toNat * 1)) 0) (Value.int .i64 x56) ∧
 H.new h53 [(Value.int .i64 x56)] fun r57 h58 =>
 appVC Go.Proofs.Try.prog 22 (Value.slice x19_by.a x19_by.len x19_by.cap) (Value.slice (some (Addr.mk r57 0 none)) 1 1) h58 fun x59 h60 =>
 In64 (x18_puts + (1 : Int)) ∧
 (∃ h61, Gh h60 h61 ∧ R41 (x18_puts + (1 : Int)) x59 h61)) (
 (∃ h62, Gh h53 h62 ∧ R41 x18_puts x19_by h62)))) (
 (∃ h63, Gh h40 h63 ∧ R41 x18_puts x19_by h63))) ∧
 ∀ (_ : F) (x64_puts : Int) (x65_by : SV) (h66 : H), R41 x64_puts x65_by h66 →
 f4_J2 x6 I14 n15 x20_got x21_who x22_i x30 x64_puts x65_by h66

def f4_J4 (p0_n : Int) (p1_steps : SV) (x6 : Option Addr) (R13 : Int → SV → SV → SV → H → Prop) (I14 : Nat → Int → SV → SV → SV → Int → H → Prop) (n15 : Nat) (x18_puts : Int) (x19_by : SV) (x20_got : SV) (x21_who : SV) (x22_i : Int) (x27 : Bool) (h28 : H) : Prop :=
 VIf x27 (
 ∃ b29 : Addr, p1_steps.a = some b29 ∧ 0 ≤ x22_i ∧ x22_i < ((p1_steps.len : Nat) : Int) ∧
 ∃ x30 : SV, H.rd h28 (Addr.add (Addr.add b29 ((x22_i).toNat * 1)) 0) (Value.slice x30.a x30.len x30.cap) ∧
 ∃ R31 : Bool → H → Prop, (
 VIf (((x30.len : Nat) : Int) == (2 : Int)) (
 ∃ b32 : Addr, x30.a = some b32 ∧ 0 ≤ (0 : Int) ∧ (0 : Int) < ((x30.len : Nat) : Int) ∧
 ∃ x33 : Int, H.rd h28 (Addr.add (Addr.add b32 (((0 : Int)).toNat * 1)) 0) (Value.int .i64 x33) ∧
 In64 (p0_n - (1 : Int)) ∧
 SemCall Go.Proofs.Try.prog 17 (List.toArray [(Value.int .i64 x33), (Value.int .i64 0), (Value.int .i64 (p0_n - (1 : Int)))]) h28 fun v34 h35 =>
 ∃ x36 : Bool, v34 = (Value.bool x36) ∧
 (∃ h37, Gh h35 h37 ∧ R31 x36 h37)) (
 (∃ h38, Gh h28 h38 ∧ R31 false h38))) ∧
 ∀ (_ : F) (x39 : Bool) (h40 : H), R31 x39 h40 →
 f4_J3 x6 I14 n15 x18_puts x19_by x20_got x21_who x22_i x30 x39 h40) (
 (∃ h93, Gh h28 h93 ∧ R13 x18_puts x19_by x20_got x21_who h93))

def f4_L5 (p0_n : Int) (p1_steps : SV) (x6 : Option Addr) (R13 : Int → SV → SV → SV → H → Prop) (I14 : Nat → Int → SV → SV → SV → Int → H → Prop) (n15 : Nat) (x18_puts : Int) (x19_by : SV) (x20_got : SV) (x21_who : SV) (x22_i : Int) (h23 : H) : Prop :=
 ∃ R24 : Bool → H → Prop, (
 VIf (decide (x22_i < ((p1_steps.len : Nat) : Int))) (
 (∃ h25, Gh h23 h25 ∧ R24 (decide (x22_i < (400 : Int))) h25)) (
 (∃ h26, Gh h23 h26 ∧ R24 false h26))) ∧
 ∀ (_ : F) (x27 : Bool) (h28 : H), R24 x27 h28 →
 f4_J4 p0_n p1_steps x6 R13 I14 n15 x18_puts x19_by x20_got x21_who x22_i x27 h28

def f4_L6 (post : Value → H → Prop) (x95_by : SV) (x96_got : SV) (x97_who : SV) (x104_x : Int) (R112 : H → Prop) (I113 : Nat → Int → H → Prop) (n114 : Nat) (x117_y : Int) (h118 : H) : Prop :=
 VIf (decide (x117_y < x104_x)) (
 ∃ R119 : Bool → H → Prop, (
 ∃ b120 : Addr, x96_got.a = some b120 ∧ 0 ≤ x104_x ∧ x104_x < ((x96_got.len : Nat) : Int) ∧
 ∃ x121 : Int, H.rd h118 (Addr.add (Addr.add b120 ((x104_x).toNat * 1)) 0) (Value.int .i64 x121) ∧
 ∃ b122 : Addr, x96_got.a = some b122 ∧ 0 ≤ x117_y ∧ x117_y < ((x96_got.len : Nat) : Int) ∧
 ∃ x123 : Int, H.rd h118 (Addr.add (Addr.add b122 ((x117_y).toNat * 1)) 0) (Value.int .i64 x123) ∧
 VIf (x121 == x123) (
 (∃ h124, Gh h118 h124 ∧ R119 true h124)) (
 ∃ b125 : Addr, x97_who.a = some b125 ∧ 0 ≤ x104_x ∧ x104_x < ((x97_who.len : Nat) : Int) ∧
 ∃ x126 : Int, H.rd h118 (Addr.add (Addr.add b125 ((x104_x).toNat * 1)) 0) (Value.int .i64 x126) ∧
 ∃ b127 : Addr, x97_who.a = some b127 ∧ 0 ≤ x117_y ∧ x117_y < ((x97_who.len : Nat) : Int) ∧
 ∃ x128 : Int, H.rd h118 (Addr.add (Addr.add b127 ((x117_y).toNat * 1)) 0) (Value.int .i64 x128) ∧
 VIf (x126 == x128) (
 ∃ b129 : Addr, x96_got.a = some b129 ∧ 0 ≤ x104_x ∧ x104_x < ((x96_got.len : Nat) : Int) ∧
 ∃ x130 : Int, H.rd h118 (Addr.add (Addr.add b129 ((x104_x).toNat * 1)) 0) (Value.int .i64 x130) ∧
 ∃ b131 : Addr, x95_by.a = some b131 ∧ 0 ≤ x130 ∧ x130 < ((x95_by.len : Nat) : Int) ∧
 ∃ x132 : Int, H.rd h118 (Addr.add (Addr.add b131 ((x130).toNat * 1)) 0) (Value.int .i64 x132) ∧
 ∃ b133 : Addr, x96_got.a = some b133 ∧ 0 ≤ x117_y ∧ x117_y < ((x96_got.len : Nat) : Int) ∧
 ∃ x134 : Int, H.rd h118 (Addr.add (Addr.add b133 ((x117_y).toNat * 1)) 0) (Value.int .i64 x134) ∧
 ∃ b135 : Addr, x95_by.a = some b135 ∧ 0 ≤ x134 ∧ x134 < ((x95_by.len : Nat) : Int) ∧
 ∃ x136 : Int, H.rd h118 (Addr.add (Addr.add b135 ((x134).toNat * 1)) 0) (Value.int .i64 x136) ∧
 VIf (x132 == x136) (
 ∃ b137 : Addr, x96_got.a = some b137 ∧ 0 ≤ x104_x ∧ x104_x < ((x96_got.len : Nat) : Int) ∧
 ∃ x138 : Int, H.rd h118 (Addr.add (Addr.add b137 ((x104_x).toNat * 1)) 0) (Value.int .i64 x138) ∧
 ∃ b139 : Addr, x96_got.a = some b139 ∧ 0 ≤ x117_y ∧ x117_y < ((x96_got.len : Nat) : Int) ∧
 ∃ x140 : Int, H.rd h118 (Addr.add (Addr.add b139 ((x117_y).toNat * 1)) 0) (Value.int .i64 x140) ∧
 (∃ h141, Gh h118 h141 ∧ R119 (decide (x138 < x140)) h141)) (
 (∃ h142, Gh h118 h142 ∧ R119 false h142))) (
 (∃ h143, Gh h118 h143 ∧ R119 false h143)))) ∧
 ∀ (_ : F) (x144 : Bool) (h145 : H), R119 x144 h145 →
 VIf x144 (
 VRet h145 (Value.bool false) post) (
 In64 (x117_y + (1 : Int)) ∧
 ∃ m115, m115 < n114 ∧ (∃ h146, Gh h145 h146 ∧ I113 m115 (x117_y + (1 : Int)) h146))) (
 (∃ h147, Gh h118 h147 ∧ R112 h147))

def f4_L7 (post : Value → H → Prop) (x94_puts : Int) (x95_by : SV) (x96_got : SV) (x97_who : SV) (R99 : H → Prop) (I100 : Nat → Int → H → Prop) (n101 : Nat) (x104_x : Int) (h105 : H) : Prop :=
 VIf (decide (x104_x < ((x96_got.len : Nat) : Int))) (
 ∃ R106 : H → Prop, (
 ∃ b107 : Addr, x96_got.a = some b107 ∧ 0 ≤ x104_x ∧ x104_x < ((x96_got.len : Nat) : Int) ∧
 ∃ x108 : Int, H.rd h105 (Addr.add (Addr.add b107 ((x104_x).toNat * 1)) 0) (Value.int .i64 x108) ∧
 In64 (x94_puts - (1 : Int)) ∧
 SemCall Go.Proofs.Try.prog 17 (List.toArray [(Value.int .i64 x108), (Value.int .i64 0), (Value.int .i64 (x94_puts - (1 : Int)))]) h105 fun v109 h110 =>
 ∃ x111 : Bool, v109 = (Value.bool x111) ∧
 VIf (!x111) (
 VRet h110 (Value.bool false) post) (
 ∃ R112 : H → Prop, (
 ∃ I113 : Nat → Int → H → Prop, (∃ n114, (∃ h116, Gh h110 h116 ∧ I113 n114 (0 : Int) h116)) ∧
 ∀ (n114 : Nat) (_ : F) (x117_y : Int) (h118 : H), I113 n114 x117_y h118 →
 f4_L6 post x95_by x96_got x97_who x104_x R112 I113 n114 x117_y h118) ∧
 ∀ (_ : F) (h148 : H), R112 h148 →
 (∃ h149, Gh h148 h149 ∧ R106 h149))) ∧
 ∀ (_ : F) (h150 : H), R106 h150 →
 In64 (x104_x + (1 : Int)) ∧
 ∃ m102, m102 < n101 ∧ (∃ h151, Gh h150 h151 ∧ I100 m102 (x104_x + (1 : Int)) h151)) (
 (∃ h152, Gh h105 h152 ∧ R99 h152))

def f4_sem (p0_n : Int) (p1_steps : SV) (h0 : H) (post : Value → H → Prop) : Prop :=
 SemCall Go.Proofs.Try.prog 16 (List.toArray []) h0 fun v1 h2 =>
 ∃ x3 : Bool, v1 = (Value.bool x3) ∧
 VIf (!x3) (
 VRet h2 (Value.bool false) post) (
 SemCall Go.Proofs.Try.prog 7 (List.toArray [(Value.int .i64 p0_n)]) h2 fun v4 h5 =>
 ∃ x6 : Option Addr, ∃ x7 : Option (TypeId × Value), v4 = (Value.tuple (List.toArray [(Value.pointer x6), (errV x7)])) ∧
 isIfaceV (errV x7) = true ∧
 VIf (!(isNilV (errV x7))) (
 ∃ R8 : Bool → H → Prop, (
 VIf (decide (p0_n < (1 : Int))) (
 (∃ h9, Gh h5 h9 ∧ R8 true h9)) (
 (∃ h10, Gh h5 h10 ∧ R8 (decide (p0_n > (4 : Int))) h10))) ∧
 ∀ (_ : F) (x11 : Bool) (h12 : H), R8 x11 h12 →
 VRet h12 (Value.bool x11) post) (
 ∃ R13 : Int → SV → SV → SV → H → Prop, (
 ∃ I14 : Nat → Int → SV → SV → SV → Int → H → Prop, (∃ n15, (∃ h17, Gh h5 h17 ∧ I14 n15 (0 : Int) (SV.mk none 0 0) (SV.mk none 0 0) (SV.mk none 0 0) (0 : Int) h17)) ∧
 ∀ (n15 : Nat) (_ : F) (x18_puts : Int) (x19_by : SV) (x20_got : SV) (x21_who : SV) (x22_i : Int) (h23 : H), I14 n15 x18_puts x19_by x20_got x21_who x22_i h23 →
 f4_L5 p0_n p1_steps x6 R13 I14 n15 x18_puts x19_by x20_got x21_who x22_i h23) ∧
 ∀ (_ : F) (x94_puts : Int) (x95_by : SV) (x96_got : SV) (x97_who : SV) (h98 : H), R13 x94_puts x95_by x96_got x97_who h98 →
 ∃ R99 : H → Prop, (
 ∃ I100 : Nat → Int → H → Prop, (∃ n101, (∃ h103, Gh h98 h103 ∧ I100 n101 (0 : Int) h103)) ∧
 ∀ (n101 : Nat) (_ : F) (x104_x : Int) (h105 : H), I100 n101 x104_x h105 →
 f4_L7 post x94_puts x95_by x96_got x97_who R99 I100 n101 x104_x h105) ∧
 ∀ (_ : F) (h153 : H), R99 h153 →
 VRet h153 (Value.bool true) post))

def f4_hint : Hint := (.node .leaf (.node .leaf (.node .leaf (.node .leaf (.node (.node .leaf (.node (.node (.join [(4, .bool)] .leaf) .leaf) .leaf)) (.node .leaf (.node .leaf (.node (.node .leaf (.join [(8, .int), (9, .sl), (10, .sl), (11, .sl)] (.node (.loop [(8, .int), (9, .sl), (10, .sl), (11, .sl), (12, .int)] (.node (.node (.join [(42, .bool)] .leaf) .leaf) (.node (.node (.node .leaf (.node (.node (.join [(59, .bool)] .leaf) (.join [(8, .int), (9, .sl)] .leaf)) (.node .leaf (.node (.node .leaf (.node (.join [(104, .bool)] .leaf) .leaf)) .leaf)))) .leaf) .leaf))) .leaf))) (.node (.node .leaf (.join [] (.node (.loop [(17, .int)] (.node .leaf (.node (.join [] (.node (.node .leaf (.node .leaf (.join [] (.node (.loop [(18, .int)] (.node .leaf (.node (.node (.node (.join [(181, .bool)] .leaf) .leaf) .leaf) .leaf))) .leaf)))) .leaf)) .leaf))) .leaf))) .leaf)))))))))

theorem f4_eq (p0_n : Int) (p1_steps : SV) (h0 : H) (post : Value → H → Prop) : exec Try.prog (bodyOf Try.f4) f4_hint (retQ Try.prog Try.f4 post) (F0 [(Value.int .i64 p0_n), (Value.slice p1_steps.a p1_steps.len p1_steps.cap)]) h0 = f4_sem p0_n p1_steps h0 post := by kernel_rfl

set_option maxRecDepth 20000 in
theorem f4_call (p0_n : Int) (p1_steps : SV) (h0 : H) (post : Value → H → Prop) (hx : f4_sem p0_n p1_steps h0 post) : SemCall Try.prog 4 (List.toArray [(Value.int .i64 p0_n), (Value.slice p1_steps.a p1_steps.len p1_steps.cap)]) h0 post :=
 sem_of_exec (g := f4_hint) mixed Try.func4 (bodyOf_eq (by kernel_rfl)) (by kernel_rfl) ((f4_eq p0_n p1_steps h0 post).mpr hx)

/- latchgarth/fifo.New -/
def f7_L1 (r6 : Nat) (R8 : H → Prop) (I9 : Nat → Int → H → Prop) (n10 : Nat) (x13 : Int) (h14 : H) : Prop :=
 VIf (decide (x13 < (40 : Int))) (
 ∃ a15 : Addr, (some (Addr.mk r6 0 none)) = some a15 ∧
 0 ≤ x13 ∧ x13 < ((40 : Nat) : Int) ∧
 H.wr h14 (Addr.add (Addr.add a15 2) ((x13).toNat * 1)) ([(Value.int .i64 (-1 : Int))]) fun h16 =>
 In64 (x13 + (1 : Int)) ∧
 ∃ m11, m11 < n10 ∧ (∃ h17, Gh h16 h17 ∧ I9 m11 (x13 + (1 : Int)) h17)) (
 (∃ h18, Gh h14 h18 ∧ R8 h18))

def f7_sem (p0_n : Int) (h0 : H) (post : Value → H → Prop) : Prop :=
 SemCall Go.Proofs.Try.prog 25 (List.toArray [(Value.int .i64 p0_n)]) h0 fun v1 h2 =>
 ∃ x3 : Option (TypeId × Value), v1 = (errV x3) ∧
 isIfaceV (errV x3) = true ∧
 VIf (!(isNilV (errV x3))) (
 VRet h2 (Value.tuple (List.toArray [(Value.pointer none), (errV x3)])) post) (
 0 ≤ p0_n ∧ p0_n ≤ p0_n ∧ ((40 : Nat) : Int) * p0_n ≤ 140737488355328 ∧ p0_n ≤ 1000000000 ∧
 H.new h2 (repl (p0_n).toNat [(Value.int .i64 0), (Value.int .i64 0), (Value.int .i64 0), (Value.int .i64 0), (Value.int .i64 0)]) fun r4 h5 =>
 H.new h5 [(Value.int .i64 0), (Value.int .i64 0), (Value.int .i64 0), (Value.int .i64 0), (Value.int .i64 0), (Value.int .i64 0), (Value.int .i64 0), (Value.int .i64 0), (Value.int .i64 0), (Value.int .i64 0), (Value.int .i64 0), (Value.int .i64 0), (Value.int .i64 0), (Value.int .i64 0), (Value.int .i64 0), (Value.int .i64 0), (Value.int .i64 0), (Value.int .i64 0), (Value.int .i64 0), (Value.int .i64 0), (Value.int .i64 0), (Value.int .i64 0), (Value.int .i64 0), (Value.int .i64 0), (Value.int .i64 0), (Value.int .i64 0), (Value.int .i64 0), (Value.int .i64 0), (Value.int .i64 0), (Value.int .i64 0), (Value.int .i64 0), (Value.int .i64 0), (Value.int .i64 0), (Value.int .i64 0), (Value.int .i64 0), (Value.int .i64 0), (Value.int .i64 0), (Value.int .i64 0), (Value.int .i64 0), (Value.int .i64 0), (Value.int .i64 0), (Value.int .i64 0), (Value.int .i64 0), (Value.int .i64 0), (Value.int .i64 0), (Value.int .i64 0), (Value.int .i64 0), (Value.int .i64 0), (Value.int .i64 0), (Value.int .i64 0), (Value.int .i64 0), (Value.int .i64 0), (Value.int .i64 0), (Value.int .i64 0), (Value.int .i64 0), (Value.int .i64 0), (Value.int .i64 0), (Value.int .i64 0), (Value.int .i64 0), (Value.int .i64 0), (Value.int .i64 0), (Value.int .i64 0), (Value.int .i64 0), (Value.int .i64 0), (Value.int .i64 0), (Value.int .i64 0), (Value.int .i64 0), (Value.int .i64 0), (Value.int .i64 0), (Value.int .i64 0), (Value.int .i64 0), (Value.int .i64 0), (Value.int .i64 0), (Value.int .i64 0), (Value.int .i64 0), (Value.int .i64 0), (Value.int .i64 0), (Value.int .i64 0), (Value.int .i64 0), (Value.int .i64 0), (Value.int .i64 0), (Value.int .i64 0), (Value.int .i64 (1 : Int)), (Value.slice (some (Addr.mk r4 0 none)) ((p0_n).toNat) ((p0_n).toNat))] fun r6 h7 =>
 ∃ R8 : H → Prop, (
 ∃ I9 : Nat → Int → H → Prop, (∃ n10, (∃ h12, Gh h7 h12 ∧ I9 n10 (0 : Int) h12)) ∧
 ∀ (n10 : Nat) (_ : F) (x13 : Int) (h14 : H), I9 n10 x13 h14 →
 f7_L1 r6 R8 I9 n10 x13 h14) ∧
 ∀ (_ : F) (h19 : H), R8 h19 →
 VRet h19 (Value.tuple (List.toArray [(Value.pointer (some (Addr.mk r6 0 none))), Value.nilIface])) post)

def f7_hint : Hint := (.node .leaf (.node .leaf (.node .leaf (.node (.node .leaf (.join [] (.node (.loop [(16, .int)] .leaf) .leaf))) .leaf))))

theorem f7_eq (p0_n : Int) (h0 : H) (post : Value → H → Prop) : exec Try.prog (bodyOf Try.f7) f7_hint (retQ Try.prog Try.f7 post) (F0 [(Value.int .i64 p0_n)]) h0 = f7_sem p0_n h0 post := by kernel_rfl

set_option maxRecDepth 20000 in
theorem f7_call (p0_n : Int) (h0 : H) (post : Value → H → Prop) (hx : f7_sem p0_n h0 post) : SemCall Try.prog 7 (List.toArray [(Value.int .i64 p0_n)]) h0 post :=
 sem_of_exec (g := f7_hint) mixed Try.func7 (bodyOf_eq (by kernel_rfl)) (by kernel_rfl) ((f7_eq p0_n h0 post).mpr hx)

/- (*latchgarth/fifo.Queue).Put -/
def f9_sem (p0_q : Option Addr) (p1_p : Int) (p2_value : Int) (h0 : H) (post : Value → H → Prop) : Prop :=
 SemCall Go.Proofs.Try.prog 26 (List.toArray [(Value.int .i64 p2_value), (Value.int .i64 0), (Value.int .i64 (1000 : Int))]) h0 fun v1 h2 =>
 ∃ x3 : Bool, v1 = (Value.bool x3) ∧
 VIf (!x3) (
 VRet h2 (Value.iface 57 (Value.int .i64 (1 : Int))) post) (
 SemCall Go.Proofs.Try.prog 27 (List.toArray [(Value.pointer p0_q), (Value.int .i64 p1_p)]) h2 fun v4 h5 =>
 ∃ x6 : Option (TypeId × Value), v4 = (errV x6) ∧
 isIfaceV (errV x6) = true ∧
 VIf (!(isNilV (errV x6))) (
 VRet h5 (errV x6) post) (
 ∃ a7 : Addr, p0_q = some a7 ∧
 ∃ x8 : Int, H.rd h5 (Addr.add (Addr.add a7 82) 0) (Value.int .i64 x8) ∧
 VIf (x8 == (40 : Int)) (
 VRet h5 (Value.iface 57 (Value.int .i64 (4 : Int))) post) (
 ∃ a9 : Addr, p0_q = some a9 ∧
 ∃ x10 : Int, H.rd h5 (Addr.add (Addr.add a9 82) 0) (Value.int .i64 x10) ∧
 ∃ a11 : Addr, p0_q = some a11 ∧
 0 ≤ x10 ∧ x10 < ((40 : Nat) : Int) ∧
 H.wr h5 (Addr.add (Addr.add a11 42) ((x10).toNat * 1)) ([(Value.int .i64 p2_value)]) fun h12 =>
 ∃ a13 : Addr, p0_q = some a13 ∧
 ∃ x14 : SV, H.rd h12 (Addr.add (Addr.add a13 83) 0) (Value.slice x14.a x14.len x14.cap) ∧
 ∃ a15 : Addr, p0_q = some a15 ∧
 ∃ x16 : Int, H.rd h12 (Addr.add (Addr.add a15 82) 0) (Value.int .i64 x16) ∧
 ∃ b17 : Addr, x14.a = some b17 ∧ 0 ≤ p1_p ∧ p1_p < ((x14.len : Nat) : Int) ∧
 ([(Value.int .i64 (1 : Int)), (Value.int .i64 x16), (Value.int .i64 0), (Value.int .i64 0), (Value.int .i64 0)]).length = 5 ∧ (Program.underlying Go.Proofs.Try.prog 63).isSome = true ∧
 H.wr h12 (Addr.add b17 ((p1_p).toNat * 5)) ([(Value.int .i64 (1 : Int)), (Value.int .i64 x16), (Value.int .i64 0), (Value.int .i64 0), (Value.int .i64 0)]) fun h18 =>
 ∃ a19 : Addr, p0_q = some a19 ∧
 ∃ x20 : Int, H.rd h18 (Addr.add (Addr.add a19 82) 0) (Value.int .i64 x20) ∧
 In64 (x20 + (1 : Int)) ∧
 ∃ a21 : Addr, p0_q = some a21 ∧
 H.wr h18 (Addr.add a21 82) ([(Value.int .i64 (x20 + (1 : Int)))]) fun h22 =>
 VRet h22 Value.nilIface post)))

def f9_hint : Hint := (.node .leaf (.node .leaf (.node .leaf (.node .leaf (.node (.tail 9) (.node (.tail 11) .leaf))))))

theorem f9_eq (p0_q : Option Addr) (p1_p : Int) (p2_value : Int) (h0 : H) (post : Value → H → Prop) : exec Try.prog (bodyOf Try.f9) f9_hint (retQ Try.prog Try.f9 post) (F0 [(Value.pointer p0_q), (Value.int .i64 p1_p), (Value.int .i64 p2_value)]) h0 = f9_sem p0_q p1_p p2_value h0 post := by kernel_rfl

set_option maxRecDepth 20000 in
theorem f9_call (p0_q : Option Addr) (p1_p : Int) (p2_value : Int) (h0 : H) (post : Value → H → Prop) (hx : f9_sem p0_q p1_p p2_value h0 post) : SemCall Try.prog 9 (List.toArray [(Value.pointer p0_q), (Value.int .i64 p1_p), (Value.int .i64 p2_value)]) h0 post :=
 sem_of_exec (g := f9_hint) mixed Try.func9 (bodyOf_eq (by kernel_rfl)) (by kernel_rfl) ((f9_eq p0_q p1_p p2_value h0 post).mpr hx)

/- (*latchgarth/fifo.Queue).Step -/
def f11_J1 (p1_p : Int) (post : Value → H → Prop) (b8 : Addr) (x10 : Int) (R13 : Int → H → Prop) (x83 : Bool) (h84 : H) : Prop :=
 VIf x83 (
 ∃ a85 : Addr, (some (Addr.add b8 ((p1_p).toNat * 5))) = some a85 ∧
 ([(Value.int .i64 0), (Value.int .i64 0), (Value.int .i64 0), (Value.int .i64 0), (Value.int .i64 0)]).length = 5 ∧ (Program.underlying Go.Proofs.Try.prog 63).isSome = true ∧
 H.wr h84 a85 ([(Value.int .i64 0), (Value.int .i64 0), (Value.int .i64 0), (Value.int .i64 0), (Value.int .i64 0)]) fun h86 =>
 VRet h86 (Value.tuple (List.toArray [(Value.bool true), (Value.int .i64 (-1 : Int)), Value.nilIface])) post) (
 ∃ a87 : Addr, (some (Addr.add b8 ((p1_p).toNat * 5))) = some a87 ∧
 ∃ x88 : Int, H.rd h84 (Addr.add (Addr.add a87 2) 0) (Value.int .i64 x88) ∧
 ∃ a89 : Addr, (some (Addr.add b8 ((p1_p).toNat * 5))) = some a89 ∧
 ∃ x90 : Int, H.rd h84 (Addr.add (Addr.add a89 3) 0) (Value.int .i64 x90) ∧
 VIf (x88 != x90) (
 (∃ h91, Gh h84 h91 ∧ R13 (10 : Int) h91)) (
 (∃ h92, Gh h84 h92 ∧ R13 (x10 + (1 : Int)) h92)))

def f11_sem (p0_q : Option Addr) (p1_p : Int) (h0 : H) (post : Value → H → Prop) : Prop :=
 ∃ a1 : Addr, p0_q = some a1 ∧
 ∃ x2 : SV, H.rd h0 (Addr.add (Addr.add a1 83) 0) (Value.slice x2.a x2.len x2.cap) ∧
 In64 (((x2.len : Nat) : Int) - (1 : Int)) ∧
 SemCall Go.Proofs.Try.prog 26 (List.toArray [(Value.int .i64 p1_p), (Value.int .i64 0), (Value.int .i64 (((x2.len : Nat) : Int) - (1 : Int)))]) h0 fun v3 h4 =>
 ∃ x5 : Bool, v3 = (Value.bool x5) ∧
 VIf (!x5) (
 VRet h4 (Value.tuple (List.toArray [(Value.bool false), (Value.int .i64 0), (Value.iface 57 (Value.int .i64 (1 : Int)))])) post) (
 ∃ a6 : Addr, p0_q = some a6 ∧
 ∃ x7 : SV, H.rd h4 (Addr.add (Addr.add a6 83) 0) (Value.slice x7.a x7.len x7.cap) ∧
 ∃ b8 : Addr, x7.a = some b8 ∧ 0 ≤ p1_p ∧ p1_p < ((x7.len : Nat) : Int) ∧
 ∃ a9 : Addr, (some (Addr.add b8 ((p1_p).toNat * 5))) = some a9 ∧
 ∃ x10 : Int, H.rd h4 (Addr.add (Addr.add a9 0) 0) (Value.int .i64 x10) ∧
 In64 (x10 + (1 : Int)) ∧
 ∃ a11 : Addr, (some (Addr.add b8 ((p1_p).toNat * 5))) = some a11 ∧
 ∃ x12 : Int, H.rd h4 (Addr.add (Addr.add a11 0) 0) (Value.int .i64 x12) ∧
 VIf (x12 == (0 : Int)) (
 VRet h4 (Value.tuple (List.toArray [(Value.bool false), (Value.int .i64 0), (Value.iface 57 (Value.int .i64 (7 : Int)))])) post) (
 ∃ R13 : Int → H → Prop, (
 VIf (x12 == (1 : Int)) (
 ∃ a14 : Addr, p0_q = some a14 ∧
 ∃ x15 : Int, H.rd h4 (Addr.add (Addr.add a14 1) 0) (Value.int .i64 x15) ∧
 ∃ a16 : Addr, (some (Addr.add b8 ((p1_p).toNat * 5))) = some a16 ∧
 H.wr h4 (Addr.add a16 3) ([(Value.int .i64 x15)]) fun h17 =>
 (∃ h18, Gh h17 h18 ∧ R13 (x10 + (1 : Int)) h18)) (
 VIf (x12 == (2 : Int)) (
 ∃ a19 : Addr, (some (Addr.add b8 ((p1_p).toNat * 5))) = some a19 ∧
 ∃ x20 : Int, H.rd h4 (Addr.add (Addr.add a19 3) 0) (Value.int .i64 x20) ∧
 ∃ a21 : Addr, p0_q = some a21 ∧
 0 ≤ x20 ∧ x20 < ((40 : Nat) : Int) ∧
 ∃ x22 : Int, H.rd h4 (Addr.add (Addr.add (Addr.add a21 2) ((x20).toNat * 1)) 0) (Value.int .i64 x22) ∧
 ∃ a23 : Addr, (some (Addr.add b8 ((p1_p).toNat * 5))) = some a23 ∧
 H.wr h4 (Addr.add a23 4) ([(Value.int .i64 x22)]) fun h24 =>
 ∃ a25 : Addr, (some (Addr.add b8 ((p1_p).toNat * 5))) = some a25 ∧
 ∃ x26 : Int, H.rd h24 (Addr.add (Addr.add a25 4) 0) (Value.int .i64 x26) ∧
 VIf (decide (x26 ≥ (0 : Int))) (
 (∃ h27, Gh h24 h27 ∧ R13 (4 : Int) h27)) (
 (∃ h28, Gh h24 h28 ∧ R13 (x10 + (1 : Int)) h28))) (
 VIf (x12 == (3 : Int)) (
 ∃ a29 : Addr, (some (Addr.add b8 ((p1_p).toNat * 5))) = some a29 ∧
 ∃ x30 : Int, H.rd h4 (Addr.add (Addr.add a29 3) 0) (Value.int .i64 x30) ∧
 ∃ a31 : Addr, p0_q = some a31 ∧
 0 ≤ x30 ∧ x30 < ((40 : Nat) : Int) ∧
 ∃ a32 : Addr, (some (Addr.add b8 ((p1_p).toNat * 5))) = some a32 ∧
 ∃ x33 : Int, H.rd h4 (Addr.add (Addr.add a32 1) 0) (Value.int .i64 x33) ∧
 SemCall Go.Proofs.Try.prog 28 (List.toArray [(Value.pointer (some (Addr.add (Addr.add a31 2) ((x30).toNat * 1)))), (Value.int .i64 (-1 : Int)), (Value.int .i64 x33)]) h4 fun v34 h35 =>
 ∃ x36 : Bool, v34 = (Value.bool x36) ∧
 VIf x36 (
 (∃ h37, Gh h35 h37 ∧ R13 (5 : Int) h37)) (
 (∃ h38, Gh h35 h38 ∧ R13 (1 : Int) h38))) (
 VIf (x12 == (4 : Int)) (
 ∃ a39 : Addr, p0_q = some a39 ∧
 ∃ a40 : Addr, (some (Addr.add b8 ((p1_p).toNat * 5))) = some a40 ∧
 ∃ x41 : Int, H.rd h4 (Addr.add (Addr.add a40 3) 0) (Value.int .i64 x41) ∧
 ∃ a42 : Addr, (some (Addr.add b8 ((p1_p).toNat * 5))) = some a42 ∧
 ∃ x43 : Int, H.rd h4 (Addr.add (Addr.add a42 4) 0) (Value.int .i64 x43) ∧
 SemCall Go.Proofs.Try.prog 28 (List.toArray [(Value.pointer (some (Addr.add a39 1))), (Value.int .i64 x41), (Value.int .i64 x43)]) h4 fun v44 h45 =>
 ∃ x46 : Bool, v44 = (Value.bool x46) ∧
 (∃ h47, Gh h45 h47 ∧ R13 (1 : Int) h47)) (
 VIf (x12 == (5 : Int)) (
 ∃ a48 : Addr, p0_q = some a48 ∧
 ∃ a49 : Addr, (some (Addr.add b8 ((p1_p).toNat * 5))) = some a49 ∧
 ∃ x50 : Int, H.rd h4 (Addr.add (Addr.add a49 3) 0) (Value.int .i64 x50) ∧
 ∃ a51 : Addr, (some (Addr.add b8 ((p1_p).toNat * 5))) = some a51 ∧
 ∃ x52 : Int, H.rd h4 (Addr.add (Addr.add a51 1) 0) (Value.int .i64 x52) ∧
 SemCall Go.Proofs.Try.prog 28 (List.toArray [(Value.pointer (some (Addr.add a48 1))), (Value.int .i64 x50), (Value.int .i64 x52)]) h4 fun v53 h54 =>
 ∃ x55 : Bool, v53 = (Value.bool x55) ∧
 ∃ a56 : Addr, (some (Addr.add b8 ((p1_p).toNat * 5))) = some a56 ∧
 ([(Value.int .i64 0), (Value.int .i64 0), (Value.int .i64 0), (Value.int .i64 0), (Value.int .i64 0)]).length = 5 ∧ (Program.underlying Go.Proofs.Try.prog 63).isSome = true ∧
 H.wr h54 a56 ([(Value.int .i64 0), (Value.int .i64 0), (Value.int .i64 0), (Value.int .i64 0), (Value.int .i64 0)]) fun h57 =>
 VRet h57 (Value.tuple (List.toArray [(Value.bool true), (Value.int .i64 (-1 : Int)), Value.nilIface])) post) (
 VIf (x12 == (6 : Int)) (
 ∃ a58 : Addr, p0_q = some a58 ∧
 ∃ x59 : Int, H.rd h4 (Addr.add (Addr.add a58 0) 0) (Value.int .i64 x59) ∧
 ∃ a60 : Addr, (some (Addr.add b8 ((p1_p).toNat * 5))) = some a60 ∧
 H.wr h4 (Addr.add a60 2) ([(Value.int .i64 x59)]) fun h61 =>
 (∃ h62, Gh h61 h62 ∧ R13 (x10 + (1 : Int)) h62)) (
 VIf (x12 == (7 : Int)) (
 ∃ a63 : Addr, p0_q = some a63 ∧
 ∃ x64 : Int, H.rd h4 (Addr.add (Addr.add a63 1) 0) (Value.int .i64 x64) ∧
 ∃ a65 : Addr, (some (Addr.add b8 ((p1_p).toNat * 5))) = some a65 ∧
 H.wr h4 (Addr.add a65 3) ([(Value.int .i64 x64)]) fun h66 =>
 (∃ h67, Gh h66 h67 ∧ R13 (x10 + (1 : Int)) h67)) (
 VIf (x12 == (8 : Int)) (
 ∃ a68 : Addr, (some (Addr.add b8 ((p1_p).toNat * 5))) = some a68 ∧
 ∃ x69 : Int, H.rd h4 (Addr.add (Addr.add a68 2) 0) (Value.int .i64 x69) ∧
 ∃ a70 : Addr, p0_q = some a70 ∧
 0 ≤ x69 ∧ x69 < ((40 : Nat) : Int) ∧
 ∃ x71 : Int, H.rd h4 (Addr.add (Addr.add (Addr.add a70 2) ((x69).toNat * 1)) 0) (Value.int .i64 x71) ∧
 ∃ a72 : Addr, (some (Addr.add b8 ((p1_p).toNat * 5))) = some a72 ∧
 H.wr h4 (Addr.add a72 4) ([(Value.int .i64 x71)]) fun h73 =>
 ∃ R74 : Bool → H → Prop, (
 ∃ a75 : Addr, (some (Addr.add b8 ((p1_p).toNat * 5))) = some a75 ∧
 ∃ x76 : Int, H.rd h73 (Addr.add (Addr.add a75 2) 0) (Value.int .i64 x76) ∧
 ∃ a77 : Addr, (some (Addr.add b8 ((p1_p).toNat * 5))) = some a77 ∧
 ∃ x78 : Int, H.rd h73 (Addr.add (Addr.add a77 3) 0) (Value.int .i64 x78) ∧
 VIf (x76 == x78) (
 ∃ a79 : Addr, (some (Addr.add b8 ((p1_p).toNat * 5))) = some a79 ∧
 ∃ x80 : Int, H.rd h73 (Addr.add (Addr.add a79 4) 0) (Value.int .i64 x80) ∧
 (∃ h81, Gh h73 h81 ∧ R74 (decide (x80 < (0 : Int))) h81)) (
 (∃ h82, Gh h73 h82 ∧ R74 false h82))) ∧
 ∀ (_ : F) (x83 : Bool) (h84 : H), R74 x83 h84 →
 f11_J1 p1_p post b8 x10 R13 x83 h84) (
 VIf (x12 == (9 : Int)) (
 ∃ a93 : Addr, p0_q = some a93 ∧
 ∃ a94 : Addr, (some (Addr.add b8 ((p1_p).toNat * 5))) = some a94 ∧
 ∃ x95 : Int, H.rd h4 (Addr.add (Addr.add a94 3) 0) (Value.int .i64 x95) ∧
 ∃ a96 : Addr, (some (Addr.add b8 ((p1_p).toNat * 5))) = some a96 ∧
 ∃ x97 : Int, H.rd h4 (Addr.add (Addr.add a96 4) 0) (Value.int .i64 x97) ∧
 SemCall Go.Proofs.Try.prog 28 (List.toArray [(Value.pointer (some (Addr.add a93 1))), (Value.int .i64 x95), (Value.int .i64 x97)]) h4 fun v98 h99 =>
 ∃ x100 : Bool, v98 = (Value.bool x100) ∧
 (∃ h101, Gh h99 h101 ∧ R13 (6 : Int) h101)) (
 VIf (x12 == (10 : Int)) (
 ∃ a102 : Addr, p0_q = some a102 ∧
 ∃ a103 : Addr, (some (Addr.add b8 ((p1_p).toNat * 5))) = some a103 ∧
 ∃ x104 : Int, H.rd h4 (Addr.add (Addr.add a103 2) 0) (Value.int .i64 x104) ∧
 ∃ a105 : Addr, (some (Addr.add b8 ((p1_p).toNat * 5))) = some a105 ∧
 ∃ x106 : Int, H.rd h4 (Addr.add (Addr.add a105 4) 0) (Value.int .i64 x106) ∧
 SemCall Go.Proofs.Try.prog 28 (List.toArray [(Value.pointer (some (Addr.add a102 0))), (Value.int .i64 x104), (Value.int .i64 x106)]) h4 fun v107 h108 =>
 ∃ x109 : Bool, v107 = (Value.bool x109) ∧
 VIf x109 (
 ∃ a110 : Addr, (some (Addr.add b8 ((p1_p).toNat * 5))) = some a110 ∧
 ∃ x111 : Int, H.rd h108 (Addr.add (Addr.add a110 4) 0) (Value.int .i64 x111) ∧
 ∃ a112 : Addr, p0_q = some a112 ∧
 0 ≤ x111 ∧ x111 < ((40 : Nat) : Int) ∧
 ∃ x113 : Int, H.rd h108 (Addr.add (Addr.add (Addr.add a112 42) ((x111).toNat * 1)) 0) (Value.int .i64 x113) ∧
 ∃ a114 : Addr, (some (Addr.add b8 ((p1_p).toNat * 5))) = some a114 ∧
 ([(Value.int .i64 0), (Value.int .i64 0), (Value.int .i64 0), (Value.int .i64 0), (Value.int .i64 0)]).length = 5 ∧ (Program.underlying Go.Proofs.Try.prog 63).isSome = true ∧
 H.wr h108 a114 ([(Value.int .i64 0), (Value.int .i64 0), (Value.int .i64 0), (Value.int .i64 0), (Value.int .i64 0)]) fun h115 =>
 VRet h115 (Value.tuple (List.toArray [(Value.bool true), (Value.int .i64 x113), Value.nilIface])) post) (
 (∃ h116, Gh h108 h116 ∧ R13 (6 : Int) h116))) (
 (∃ h117, Gh h4 h117 ∧ R13 (x10 + (1 : Int)) h117)))))))))))) ∧
 ∀ (_ : F) (x118_next : Int) (h119 : H), R13 x118_next h119 →
 ∃ a120 : Addr, (some (Addr.add b8 ((p1_p).toNat * 5))) = some a120 ∧
 H.wr h119 (Addr.add a120 0) ([(Value.int .i64 x118_next)]) fun h121 =>
 VRet h121 (Value.tuple (List.toArray [(Value.bool false), (Value.int .i64 0), Value.nilIface])) post))

def f11_hint : Hint := (.node .leaf (.node .leaf (.node .leaf (.node .leaf (.node (.node .leaf (.node (.node .leaf (.node .leaf (.node .leaf (.join [(8, .int)] (.node .leaf (.node .leaf (.node (.node (.tail 12) .leaf) (.node .leaf (.node (.node .leaf (.node (.tail 12) .leaf)) (.node .leaf (.node (.node (.tail 11) .leaf) (.node .leaf (.node (.node (.tail 11) .leaf) (.node .leaf (.node .leaf (.node .leaf (.node .leaf (.node .leaf (.node (.node (.tail 12) (.node (.node (.join [(159, .bool)] .leaf) .leaf) .leaf)) (.node .leaf (.node (.node (.tail 11) .leaf) (.node .leaf (.node (.node (.node (.tail 11) .leaf) .leaf) .leaf))))))))))))))))))))))) .leaf)) .leaf)))))

theorem f11_eq (p0_q : Option Addr) (p1_p : Int) (h0 : H) (post : Value → H → Prop) : exec Try.prog (bodyOf Try.f11) f11_hint (retQ Try.prog Try.f11 post) (F0 [(Value.pointer p0_q), (Value.int .i64 p1_p)]) h0 = f11_sem p0_q p1_p h0 post := by kernel_rfl

set_option maxRecDepth 20000 in
theorem f11_call (p0_q : Option Addr) (p1_p : Int) (h0 : H) (post : Value → H → Prop) (hx : f11_sem p0_q p1_p h0 post) : SemCall Try.prog 11 (List.toArray [(Value.pointer p0_q), (Value.int .i64 p1_p)]) h0 post :=
 sem_of_exec (g := f11_hint) mixed Try.func11 (bodyOf_eq (by kernel_rfl)) (by kernel_rfl) ((f11_eq p0_q p1_p h0 post).mpr hx)

/- (*latchgarth/fifo.Queue).Get -/
def f13_sem (p0_q : Option Addr) (p1_p : Int) (h0 : H) (post : Value → H → Prop) : Prop :=
 SemCall Go.Proofs.Try.prog 27 (List.toArray [(Value.pointer p0_q), (Value.int .i64 p1_p)]) h0 fun v1 h2 =>
 ∃ x3 : Option (TypeId × Value), v1 = (errV x3) ∧
 isIfaceV (errV x3) = true ∧
 VIf (!(isNilV (errV x3))) (
 VRet h2 (errV x3) post) (
 ∃ a4 : Addr, p0_q = some a4 ∧
 ∃ x5 : SV, H.rd h2 (Addr.add (Addr.add a4 83) 0) (Value.slice x5.a x5.len x5.cap) ∧
 ∃ b6 : Addr, x5.a = some b6 ∧ 0 ≤ p1_p ∧ p1_p < ((x5.len : Nat) : Int) ∧
 ([(Value.int .i64 (6 : Int)), (Value.int .i64 0), (Value.int .i64 0), (Value.int .i64 0), (Value.int .i64 0)]).length = 5 ∧ (Program.underlying Go.Proofs.Try.prog 63).isSome = true ∧
 H.wr h2 (Addr.add b6 ((p1_p).toNat * 5)) ([(Value.int .i64 (6 : Int)), (Value.int .i64 0), (Value.int .i64 0), (Value.int .i64 0), (Value.int .i64 0)]) fun h7 =>
 VRet h7 Value.nilIface post)

def f13_hint : Hint := .leaf

theorem f13_eq (p0_q : Option Addr) (p1_p : Int) (h0 : H) (post : Value → H → Prop) : exec Try.prog (bodyOf Try.f13) f13_hint (retQ Try.prog Try.f13 post) (F0 [(Value.pointer p0_q), (Value.int .i64 p1_p)]) h0 = f13_sem p0_q p1_p h0 post := by kernel_rfl

set_option maxRecDepth 20000 in
theorem f13_call (p0_q : Option Addr) (p1_p : Int) (h0 : H) (post : Value → H → Prop) (hx : f13_sem p0_q p1_p h0 post) : SemCall Try.prog 13 (List.toArray [(Value.pointer p0_q), (Value.int .i64 p1_p)]) h0 post :=
 sem_of_exec (g := f13_hint) mixed Try.func13 (bodyOf_eq (by kernel_rfl)) (by kernel_rfl) ((f13_eq p0_q p1_p h0 post).mpr hx)

/- latchgarth/latchgarthlaw3.fifoFact -/
def f16_L1 (post : Value → H → Prop) (x3 : Option Addr) (R13 : H → Prop) (I14 : Nat → Int → H → Prop) (n15 : Nat) (x18_i : Int) (h19 : H) : Prop :=
 VIf (decide (x18_i < (4 : Int))) (
 SemCall Go.Proofs.Try.prog 11 (List.toArray [(Value.pointer x3), (Value.int .i64 0)]) h19 fun v20 h21 =>
 ∃ x22 : Bool, ∃ x23 : Int, ∃ x24 : Option (TypeId × Value), v20 = (Value.tuple (List.toArray [(Value.bool x22), (Value.int .i64 x23), (errV x24)])) ∧
 isIfaceV (errV x24) = true ∧
 VIf (!(isNilV (errV x24))) (
 VRet h21 (Value.bool false) post) (
 In64 (x18_i + (1 : Int)) ∧
 ∃ m16, m16 < n15 ∧ (∃ h25, Gh h21 h25 ∧ I14 m16 (x18_i + (1 : Int)) h25))) (
 (∃ h26, Gh h19 h26 ∧ R13 h26))

def f16_J2 (post : Value → H → Prop) (x3 : Option Addr) (h27 : H) : Prop :=
 SemCall Go.Proofs.Try.prog 29 (List.toArray [(Value.pointer x3)]) h27 fun v28 h29 =>
 ∃ x30 : Int, ∃ x31 : Int, v28 = (Value.tuple (List.toArray [(Value.int .i64 x30), (Value.int .i64 x31)])) ∧
 ∃ R32 : Bool → H → Prop, (
 VIf (x30 == (0 : Int)) (
 VIf (x31 == (1 : Int)) (
 SemCall Go.Proofs.Try.prog 13 (List.toArray [(Value.pointer x3), (Value.int .i64 0)]) h29 fun v33 h34 =>
 ∃ x35 : Option (TypeId × Value), v33 = (errV x35) ∧
 isIfaceV (errV x35) = true ∧
 (∃ h36, Gh h34 h36 ∧ R32 (isNilV (errV x35)) h36)) (
 (∃ h37, Gh h29 h37 ∧ R32 false h37))) (
 (∃ h38, Gh h29 h38 ∧ R32 false h38))) ∧
 ∀ (_ : F) (x39 : Bool) (h40 : H), R32 x39 h40 →
 VRet h40 (Value.bool x39) post

def f16_sem (h0 : H) (post : Value → H → Prop) : Prop :=
 SemCall Go.Proofs.Try.prog 7 (List.toArray [(Value.int .i64 (1 : Int))]) h0 fun v1 h2 =>
 ∃ x3 : Option Addr, ∃ x4 : Option (TypeId × Value), v1 = (Value.tuple (List.toArray [(Value.pointer x3), (errV x4)])) ∧
 ∃ R5 : Bool → H → Prop, (
 isIfaceV (errV x4) = true ∧
 VIf (!(isNilV (errV x4))) (
 (∃ h6, Gh h2 h6 ∧ R5 true h6)) (
 SemCall Go.Proofs.Try.prog 9 (List.toArray [(Value.pointer x3), (Value.int .i64 0), (Value.int .i64 (6 : Int))]) h2 fun v7 h8 =>
 ∃ x9 : Option (TypeId × Value), v7 = (errV x9) ∧
 isIfaceV (errV x9) = true ∧
 (∃ h10, Gh h8 h10 ∧ R5 (!(isNilV (errV x9))) h10))) ∧
 ∀ (_ : F) (x11 : Bool) (h12 : H), R5 x11 h12 →
 VIf x11 (
 VRet h12 (Value.bool false) post) (
 ∃ R13 : H → Prop, (
 ∃ I14 : Nat → Int → H → Prop, (∃ n15, (∃ h17, Gh h12 h17 ∧ I14 n15 (0 : Int) h17)) ∧
 ∀ (n15 : Nat) (_ : F) (x18_i : Int) (h19 : H), I14 n15 x18_i h19 →
 f16_L1 post x3 R13 I14 n15 x18_i h19) ∧
 ∀ (_ : F) (h27 : H), R13 h27 →
 f16_J2 post x3 h27)

def f16_hint : Hint := (.node .leaf (.node .leaf (.node (.node (.join [(19, .bool)] .leaf) .leaf) (.node (.node .leaf (.join [] (.node (.loop [(3, .int)] .leaf) .leaf))) (.node .leaf (.node (.join [(0, .bool)] .leaf) .leaf))))))

theorem f16_eq (h0 : H) (post : Value → H → Prop) : exec Try.prog (bodyOf Try.f16) f16_hint (retQ Try.prog Try.f16 post) (F0 []) h0 = f16_sem h0 post := by kernel_rfl

set_option maxRecDepth 20000 in
theorem f16_call (h0 : H) (post : Value → H → Prop) (hx : f16_sem h0 post) : SemCall Try.prog 16 (List.toArray []) h0 post :=
 sem_of_exec (g := f16_hint) mixed Try.func16 (bodyOf_eq (by kernel_rfl)) (by kernel_rfl) ((f16_eq h0 post).mpr hx)

/- latchgarth/latchgarthlaw3.in -/
def f17_sem (p0_n : Int) (p1_low : Int) (p2_high : Int) (h0 : H) (post : Value → H → Prop) : Prop :=
 ∃ R1 : Bool → H → Prop, (
 VIf (decide (p0_n ≥ p1_low)) (
 (∃ h2, Gh h0 h2 ∧ R1 (decide (p0_n ≤ p2_high)) h2)) (
 (∃ h3, Gh h0 h3 ∧ R1 false h3))) ∧
 ∀ (_ : F) (x4 : Bool) (h5 : H), R1 x4 h5 →
 VRet h5 (Value.bool x4) post

def f17_hint : Hint := (.node .leaf (.node (.join [(6, .bool)] .leaf) .leaf))

theorem f17_eq (p0_n : Int) (p1_low : Int) (p2_high : Int) (h0 : H) (post : Value → H → Prop) : exec Try.prog (bodyOf Try.f17) f17_hint (retQ Try.prog Try.f17 post) (F0 [(Value.int .i64 p0_n), (Value.int .i64 p1_low), (Value.int .i64 p2_high)]) h0 = f17_sem p0_n p1_low p2_high h0 post := by kernel_rfl

set_option maxRecDepth 20000 in
theorem f17_call (p0_n : Int) (p1_low : Int) (p2_high : Int) (h0 : H) (post : Value → H → Prop) (hx : f17_sem p0_n p1_low p2_high h0 post) : SemCall Try.prog 17 (List.toArray [(Value.int .i64 p0_n), (Value.int .i64 p1_low), (Value.int .i64 p2_high)]) h0 post :=
 sem_of_exec (g := f17_hint) mixed Try.func17 (bodyOf_eq (by kernel_rfl)) (by kernel_rfl) ((f17_eq p0_n p1_low p2_high h0 post).mpr hx)

/- latchgarth/latchgarthsame.Ints -/
def f19_L1 (p0_a : SV) (p1_b : SV) (post : Value → H → Prop) (R1 : H → Prop) (I2 : Nat → Int → H → Prop) (n3 : Nat) (x6_i : Int) (h7 : H) : Prop :=
 VIf (decide (x6_i < ((p0_a.len : Nat) : Int))) (
 ∃ b8 : Addr, p0_a.a = some b8 ∧ 0 ≤ x6_i ∧ x6_i < ((p0_a.len : Nat) : Int) ∧
 ∃ x9 : Int, H.rd h7 (Addr.add (Addr.add b8 ((x6_i).toNat * 1)) 0) (Value.int .i64 x9) ∧
 ∃ b10 : Addr, p1_b.a = some b10 ∧ 0 ≤ x6_i ∧ x6_i < ((p1_b.len : Nat) : Int) ∧
 ∃ x11 : Int, H.rd h7 (Addr.add (Addr.add b10 ((x6_i).toNat * 1)) 0) (Value.int .i64 x11) ∧
 VIf (x9 != x11) (
 VRet h7 (Value.bool false) post) (
 In64 (x6_i + (1 : Int)) ∧
 ∃ m4, m4 < n3 ∧ (∃ h12, Gh h7 h12 ∧ I2 m4 (x6_i + (1 : Int)) h12))) (
 (∃ h13, Gh h7 h13 ∧ R1 h13))

def f19_sem (p0_a : SV) (p1_b : SV) (h0 : H) (post : Value → H → Prop) : Prop :=
 VIf (((p0_a.len : Nat) : Int) != ((p1_b.len : Nat) : Int)) (
 VRet h0 (Value.bool false) post) (
 ∃ R1 : H → Prop, (
 ∃ I2 : Nat → Int → H → Prop, (∃ n3, (∃ h5, Gh h0 h5 ∧ I2 n3 (0 : Int) h5)) ∧
 ∀ (n3 : Nat) (_ : F) (x6_i : Int) (h7 : H), I2 n3 x6_i h7 →
 f19_L1 p0_a p1_b post R1 I2 n3 x6_i h7) ∧
 ∀ (_ : F) (h14 : H), R1 h14 →
 VRet h14 (Value.bool true) post)

def f19_hint : Hint := (.node .leaf (.node .leaf (.node (.node .leaf (.join [] (.node (.loop [(5, .int)] .leaf) .leaf))) .leaf)))

theorem f19_eq (p0_a : SV) (p1_b : SV) (h0 : H) (post : Value → H → Prop) : exec Try.prog (bodyOf Try.f19) f19_hint (retQ Try.prog Try.f19 post) (F0 [(Value.slice p0_a.a p0_a.len p0_a.cap), (Value.slice p1_b.a p1_b.len p1_b.cap)]) h0 = f19_sem p0_a p1_b h0 post := by kernel_rfl

set_option maxRecDepth 20000 in
theorem f19_call (p0_a : SV) (p1_b : SV) (h0 : H) (post : Value → H → Prop) (hx : f19_sem p0_a p1_b h0 post) : SemCall Try.prog 19 (List.toArray [(Value.slice p0_a.a p0_a.len p0_a.cap), (Value.slice p1_b.a p1_b.len p1_b.cap)]) h0 post :=
 sem_of_exec (g := f19_hint) mixed Try.func19 (bodyOf_eq (by kernel_rfl)) (by kernel_rfl) ((f19_eq p0_a p1_b h0 post).mpr hx)

/- latchgarth/core.Hands -/
def f25_sem (p0_n : Int) (h0 : H) (post : Value → H → Prop) : Prop :=
 SemCall Go.Proofs.Try.prog 26 (List.toArray [(Value.int .i64 p0_n), (Value.int .i64 (1 : Int)), (Value.int .i64 (4 : Int))]) h0 fun v1 h2 =>
 ∃ x3 : Bool, v1 = (Value.bool x3) ∧
 VIf (!x3) (
 VRet h2 (Value.iface 57 (Value.int .i64 (1 : Int))) post) (
 VRet h2 Value.nilIface post)

def f25_hint : Hint := .leaf

theorem f25_eq (p0_n : Int) (h0 : H) (post : Value → H → Prop) : exec Try.prog (bodyOf Try.f25) f25_hint (retQ Try.prog Try.f25 post) (F0 [(Value.int .i64 p0_n)]) h0 = f25_sem p0_n h0 post := by kernel_rfl

set_option maxRecDepth 20000 in
theorem f25_call (p0_n : Int) (h0 : H) (post : Value → H → Prop) (hx : f25_sem p0_n h0 post) : SemCall Try.prog 25 (List.toArray [(Value.int .i64 p0_n)]) h0 post :=
 sem_of_exec (g := f25_hint) mixed Try.func25 (bodyOf_eq (by kernel_rfl)) (by kernel_rfl) ((f25_eq p0_n h0 post).mpr hx)

/- latchgarth/core.Within -/
def f26_sem (p0_n : Int) (p1_low : Int) (p2_high : Int) (h0 : H) (post : Value → H → Prop) : Prop :=
 ∃ R1 : Bool → H → Prop, (
 VIf (decide (p0_n ≥ p1_low)) (
 (∃ h2, Gh h0 h2 ∧ R1 (decide (p0_n ≤ p2_high)) h2)) (
 (∃ h3, Gh h0 h3 ∧ R1 false h3))) ∧
 ∀ (_ : F) (x4 : Bool) (h5 : H), R1 x4 h5 →
 VRet h5 (Value.bool x4) post

def f26_hint : Hint := (.node .leaf (.node (.join [(6, .bool)] .leaf) .leaf))

theorem f26_eq (p0_n : Int) (p1_low : Int) (p2_high : Int) (h0 : H) (post : Value → H → Prop) : exec Try.prog (bodyOf Try.f26) f26_hint (retQ Try.prog Try.f26 post) (F0 [(Value.int .i64 p0_n), (Value.int .i64 p1_low), (Value.int .i64 p2_high)]) h0 = f26_sem p0_n p1_low p2_high h0 post := by kernel_rfl

set_option maxRecDepth 20000 in
theorem f26_call (p0_n : Int) (p1_low : Int) (p2_high : Int) (h0 : H) (post : Value → H → Prop) (hx : f26_sem p0_n p1_low p2_high h0 post) : SemCall Try.prog 26 (List.toArray [(Value.int .i64 p0_n), (Value.int .i64 p1_low), (Value.int .i64 p2_high)]) h0 post :=
 sem_of_exec (g := f26_hint) mixed Try.func26 (bodyOf_eq (by kernel_rfl)) (by kernel_rfl) ((f26_eq p0_n p1_low p2_high h0 post).mpr hx)

/- (*latchgarth/fifo.Queue).free -/
def f27_sem (p0_q : Option Addr) (p1_p : Int) (h0 : H) (post : Value → H → Prop) : Prop :=
 ∃ a1 : Addr, p0_q = some a1 ∧
 ∃ x2 : SV, H.rd h0 (Addr.add (Addr.add a1 83) 0) (Value.slice x2.a x2.len x2.cap) ∧
 In64 (((x2.len : Nat) : Int) - (1 : Int)) ∧
 SemCall Go.Proofs.Try.prog 26 (List.toArray [(Value.int .i64 p1_p), (Value.int .i64 0), (Value.int .i64 (((x2.len : Nat) : Int) - (1 : Int)))]) h0 fun v3 h4 =>
 ∃ x5 : Bool, v3 = (Value.bool x5) ∧
 VIf (!x5) (
 VRet h4 (Value.iface 57 (Value.int .i64 (1 : Int))) post) (
 ∃ a6 : Addr, p0_q = some a6 ∧
 ∃ x7 : SV, H.rd h4 (Addr.add (Addr.add a6 83) 0) (Value.slice x7.a x7.len x7.cap) ∧
 ∃ b8 : Addr, x7.a = some b8 ∧ 0 ≤ p1_p ∧ p1_p < ((x7.len : Nat) : Int) ∧
 ∃ x9 : Int, H.rd h4 (Addr.add (Addr.add (Addr.add b8 ((p1_p).toNat * 5)) 0) 0) (Value.int .i64 x9) ∧
 VIf (x9 != (0 : Int)) (
 VRet h4 (Value.iface 57 (Value.int .i64 (7 : Int))) post) (
 VRet h4 Value.nilIface post))

def f27_hint : Hint := .leaf

theorem f27_eq (p0_q : Option Addr) (p1_p : Int) (h0 : H) (post : Value → H → Prop) : exec Try.prog (bodyOf Try.f27) f27_hint (retQ Try.prog Try.f27 post) (F0 [(Value.pointer p0_q), (Value.int .i64 p1_p)]) h0 = f27_sem p0_q p1_p h0 post := by kernel_rfl

set_option maxRecDepth 20000 in
theorem f27_call (p0_q : Option Addr) (p1_p : Int) (h0 : H) (post : Value → H → Prop) (hx : f27_sem p0_q p1_p h0 post) : SemCall Try.prog 27 (List.toArray [(Value.pointer p0_q), (Value.int .i64 p1_p)]) h0 post :=
 sem_of_exec (g := f27_hint) mixed Try.func27 (bodyOf_eq (by kernel_rfl)) (by kernel_rfl) ((f27_eq p0_q p1_p h0 post).mpr hx)

/- latchgarth/core.Cas[int] -/
def f28_sem (p0_word : Option Addr) (p1_old : Int) (p2_new : Int) (h0 : H) (post : Value → H → Prop) : Prop :=
 ∃ a1 : Addr, p0_word = some a1 ∧
 ∃ x2 : Int, H.rd h0 (Addr.add a1 0) (Value.int .i64 x2) ∧
 VIf (x2 != p1_old) (
 VRet h0 (Value.bool false) post) (
 ∃ a3 : Addr, p0_word = some a3 ∧
 H.wr h0 a3 ([(Value.int .i64 p2_new)]) fun h4 =>
 VRet h4 (Value.bool true) post)

def f28_hint : Hint := .leaf

theorem f28_eq (p0_word : Option Addr) (p1_old : Int) (p2_new : Int) (h0 : H) (post : Value → H → Prop) : exec Try.prog (bodyOf Try.f28) f28_hint (retQ Try.prog Try.f28 post) (F0 [(Value.pointer p0_word), (Value.int .i64 p1_old), (Value.int .i64 p2_new)]) h0 = f28_sem p0_word p1_old p2_new h0 post := by kernel_rfl

set_option maxRecDepth 20000 in
theorem f28_call (p0_word : Option Addr) (p1_old : Int) (p2_new : Int) (h0 : H) (post : Value → H → Prop) (hx : f28_sem p0_word p1_old p2_new h0 post) : SemCall Try.prog 28 (List.toArray [(Value.pointer p0_word), (Value.int .i64 p1_old), (Value.int .i64 p2_new)]) h0 post :=
 sem_of_exec (g := f28_hint) mixed Try.func28 (bodyOf_eq (by kernel_rfl)) (by kernel_rfl) ((f28_eq p0_word p1_old p2_new h0 post).mpr hx)

/- (*latchgarth/fifo.Queue).Ends -/
def f29_sem (p0_q : Option Addr) (h0 : H) (post : Value → H → Prop) : Prop :=
 ∃ a1 : Addr, p0_q = some a1 ∧
 ∃ x2 : Int, H.rd h0 (Addr.add (Addr.add a1 0) 0) (Value.int .i64 x2) ∧
 ∃ a3 : Addr, p0_q = some a3 ∧
 ∃ x4 : Int, H.rd h0 (Addr.add (Addr.add a3 1) 0) (Value.int .i64 x4) ∧
 VRet h0 (Value.tuple (List.toArray [(Value.int .i64 x2), (Value.int .i64 x4)])) post

def f29_hint : Hint := .leaf

theorem f29_eq (p0_q : Option Addr) (h0 : H) (post : Value → H → Prop) : exec Try.prog (bodyOf Try.f29) f29_hint (retQ Try.prog Try.f29 post) (F0 [(Value.pointer p0_q)]) h0 = f29_sem p0_q h0 post := by kernel_rfl

set_option maxRecDepth 20000 in
theorem f29_call (p0_q : Option Addr) (h0 : H) (post : Value → H → Prop) (hx : f29_sem p0_q h0 post) : SemCall Try.prog 29 (List.toArray [(Value.pointer p0_q)]) h0 post :=
 sem_of_exec (g := f29_hint) mixed Try.func29 (bodyOf_eq (by kernel_rfl)) (by kernel_rfl) ((f29_eq p0_q h0 post).mpr hx)

/- slices.Clone[[]int,int] -/
def f38_sem (p0_s : SV) (h0 : H) (post : Value → H → Prop) : Prop :=
 VIf (Option.isNone p0_s.a) (
 VRet h0 (Value.slice none 0 0) post) (
 H.new h0 [] fun r1 h2 =>
 appVC Go.Proofs.Try.prog 22 (Value.slice (some (Addr.mk r1 0 none)) 0 0) (Value.slice p0_s.a p0_s.len p0_s.cap) h2 fun x3 h4 =>
 VRet h4 (Value.slice x3.a x3.len x3.cap) post)

def f38_hint : Hint := .leaf

theorem f38_eq (p0_s : SV) (h0 : H) (post : Value → H → Prop) : exec Try.prog (bodyOf Try.f38) f38_hint (retQ Try.prog Try.f38 post) (F0 [(Value.slice p0_s.a p0_s.len p0_s.cap)]) h0 = f38_sem p0_s h0 post := by kernel_rfl

set_option maxRecDepth 20000 in
theorem f38_call (p0_s : SV) (h0 : H) (post : Value → H → Prop) (hx : f38_sem p0_s h0 post) : SemCall Try.prog 38 (List.toArray [(Value.slice p0_s.a p0_s.len p0_s.cap)]) h0 post :=
 sem_of_exec (g := f38_hint) mixed Try.func38 (bodyOf_eq (by kernel_rfl)) (by kernel_rfl) ((f38_eq p0_s h0 post).mpr hx)

/- 55 (*latchgarth/fifo.Queue).At : NOT MADE: code None -/
end Go.Proofs.Ytogbkgimpkaemaa
