import Derived.Test.YtnecppjgcbhnaaaEngG
import Derived.Test.YtnecppjgcbhnaaaRows
namespace Go.Proofs.Ytnecppjgcbhnaaa
open Go.Eng
theorem mixed : Try.prog.follows .mixedOrders = true := by kernel_rfl
/- latchgarth/latchgarthlaw3.RingOrder -/
def f3_J1 (p0_size : Int) (post : Value → H → Prop) (x53_out : Int) (R55 : SV → H → Prop) (x58 : Bool) (x59 : Bool) (x60 : Option (TypeId × Value)) (x74_puts : SV) (h75 : H) : Prop :=
  ∃ R76 : Bool → H → Prop, (
    isIfaceV (errV x60) = true ∧
    VIf (isNilV (errV x60)) (
      VIf x58 (
        VIf (!x59) (
          In64 (((x74_puts.len : Nat) : Int) - x53_out) ∧
          (∃ h77, Gh h75 h77 ∧ R76 (decide ((((x74_puts.len : Nat) : Int) - x53_out) < p0_size)) h77)) (
          (∃ h78, Gh h75 h78 ∧ R76 false h78))) (
        (∃ h79, Gh h75 h79 ∧ R76 false h79))) (
      (∃ h80, Gh h75 h80 ∧ R76 false h80))) ∧
  ∀ (_ : F) (x81 : Bool) (h82 : H), R76 x81 h82 →
  VIf x81 (
    VRet h82 (Value.bool false) post) (
    (∃ h83, Gh h82 h83 ∧ R55 x74_puts h83))

def f3_J2 (post : Value → H → Prop) (x39_have : Int) (R87 : Int → H → Prop) (x90 : Bool) (x91 : Int) (x92 : Option (TypeId × Value)) (x109_got : Int) (h110 : H) : Prop :=
  ∃ R111 : Bool → H → Prop, (
    isIfaceV (errV x92) = true ∧
    VIf (isNilV (errV x92)) (
      VIf x90 (
        VIf (decide (x91 < (0 : Int))) (
          (∃ h112, Gh h110 h112 ∧ R111 (decide (x39_have > x109_got)) h112)) (
          (∃ h113, Gh h110 h113 ∧ R111 false h113))) (
        (∃ h114, Gh h110 h114 ∧ R111 false h114))) (
      (∃ h115, Gh h110 h115 ∧ R111 false h115))) ∧
  ∀ (_ : F) (x116 : Bool) (h117 : H), R111 x116 h117 →
  VIf x116 (
    VRet h117 (Value.bool false) post) (
    (∃ h118, Gh h117 h118 ∧ R87 x109_got h118))

def f3_J3 (post : Value → H → Prop) (x19_got : Int) (x39_have : Int) (x85_puts : SV) (R87 : Int → H → Prop) (x90 : Bool) (x91 : Int) (x92 : Option (TypeId × Value)) (x97 : Bool) (h98 : H) : Prop :=
  ∃ R99 : Int → H → Prop, (
    VIf x97 (
      ∃ R100 : Bool → H → Prop, (
        VIf (decide (x19_got ≥ ((x85_puts.len : Nat) : Int))) (
          (∃ h101, Gh h98 h101 ∧ R100 true h101)) (
          ∃ b102 : Addr, x85_puts.a = some b102 ∧ 0 ≤ x19_got ∧ x19_got < ((x85_puts.len : Nat) : Int) ∧
          ∃ x103 : Int, H.rd h98 (Addr.add (Addr.add b102 ((x19_got).toNat * 1)) 0) (Value.int .i64 x103) ∧
          (∃ h104, Gh h98 h104 ∧ R100 (x103 != x91) h104))) ∧
      ∀ (_ : F) (x105 : Bool) (h106 : H), R100 x105 h106 →
      VIf x105 (
        VRet h106 (Value.bool false) post) (
        In64 (x19_got + (1 : Int)) ∧
        (∃ h107, Gh h106 h107 ∧ R99 (x19_got + (1 : Int)) h107))) (
      (∃ h108, Gh h98 h108 ∧ R99 x19_got h108))) ∧
  ∀ (_ : F) (x109_got : Int) (h110 : H), R99 x109_got h110 →
  f3_J2 post x39_have R87 x90 x91 x92 x109_got h110

def f3_J4 (p0_size : Int) (post : Value → H → Prop) (I14 : Nat → SV → Int → Int → Int → Int → Int → H → Prop) (n15 : Nat) (x23_i : Int) (x39_have : Int) (x52_value : Int) (x53_out : Int) (x85_puts : SV) (x120_got : Int) (h121 : H) : Prop :=
  ∃ R122 : Bool → H → Prop, (
    In64 (((x85_puts.len : Nat) : Int) - x120_got) ∧
    VIf (decide ((((x85_puts.len : Nat) : Int) - x120_got) > p0_size)) (
      (∃ h123, Gh h121 h123 ∧ R122 true h123)) (
      (∃ h124, Gh h121 h124 ∧ R122 (decide (((x85_puts.len : Nat) : Int) < x120_got)) h124))) ∧
  ∀ (_ : F) (x125 : Bool) (h126 : H), R122 x125 h126 →
  VIf x125 (
    VRet h126 (Value.bool false) post) (
    In64 (x23_i + (1 : Int)) ∧
    ∃ m16, m16 < n15 ∧ (∃ h127, Gh h126 h127 ∧ I14 m16 x85_puts x120_got x52_value x53_out x39_have (x23_i + (1 : Int)) h127))

def f3_J5 (p0_size : Int) (post : Value → H → Prop) (x6 : Option Addr) (I14 : Nat → SV → Int → Int → Int → Int → Int → H → Prop) (n15 : Nat) (x19_got : Int) (x23_i : Int) (x31 : Int) (x39_have : Int) (x52_value : Int) (x53_out : Int) (x85_puts : SV) (h86 : H) : Prop :=
  ∃ R87 : Int → H → Prop, (
    VIf (x31 == (-3 : Int)) (
      SemCall Go.Proofs.Try.prog 13 (List.toArray [(Value.pointer x6)]) h86 fun v88 h89 =>
      ∃ x90 : Bool, ∃ x91 : Int, ∃ x92 : Option (TypeId × Value), v88 = (Value.tuple (List.toArray [(Value.bool x90), (Value.int .i64 x91), (errV x92)])) ∧
      ∃ R93 : Bool → H → Prop, (
        isIfaceV (errV x92) = true ∧
        VIf (isNilV (errV x92)) (
          VIf x90 (
            (∃ h94, Gh h89 h94 ∧ R93 (decide (x91 ≥ (0 : Int))) h94)) (
            (∃ h95, Gh h89 h95 ∧ R93 false h95))) (
          (∃ h96, Gh h89 h96 ∧ R93 false h96))) ∧
      ∀ (_ : F) (x97 : Bool) (h98 : H), R93 x97 h98 →
      f3_J3 post x19_got x39_have x85_puts R87 x90 x91 x92 x97 h98) (
      (∃ h119, Gh h86 h119 ∧ R87 x19_got h119))) ∧
  ∀ (_ : F) (x120_got : Int) (h121 : H), R87 x120_got h121 →
  f3_J4 p0_size post I14 n15 x23_i x39_have x52_value x53_out x85_puts x120_got h121

def f3_J6 (p0_size : Int) (post : Value → H → Prop) (x6 : Option Addr) (I14 : Nat → SV → Int → Int → Int → Int → Int → H → Prop) (n15 : Nat) (x18_puts : SV) (x19_got : Int) (x23_i : Int) (x31 : Int) (x39_have : Int) (x52_value : Int) (x53_out : Int) (h54 : H) : Prop :=
  ∃ R55 : SV → H → Prop, (
    VIf (x31 == (-2 : Int)) (
      SemCall Go.Proofs.Try.prog 12 (List.toArray [(Value.pointer x6)]) h54 fun v56 h57 =>
      ∃ x58 : Bool, ∃ x59 : Bool, ∃ x60 : Option (TypeId × Value), v56 = (Value.tuple (List.toArray [(Value.bool x58), (Value.bool x59), (errV x60)])) ∧
      ∃ R61 : Bool → H → Prop, (
        isIfaceV (errV x60) = true ∧
        VIf (isNilV (errV x60)) (
          VIf x58 (
            (∃ h62, Gh h57 h62 ∧ R61 x59 h62)) (
            (∃ h63, Gh h57 h63 ∧ R61 false h63))) (
          (∃ h64, Gh h57 h64 ∧ R61 false h64))) ∧
      ∀ (_ : F) (x65 : Bool) (h66 : H), R61 x65 h66 →
      ∃ R67 : SV → H → Prop, (
        VIf x65 (
          H.new h66 [(Value.int .i64 x52_value)] fun r68 h69 =>
          appVC Go.Proofs.Try.prog 22 (Value.slice x18_puts.a x18_puts.len x18_puts.cap) (Value.slice (some (Addr.mk r68 0 none)) 1 1) h69 fun x70 h71 =>
          (∃ h72, Gh h71 h72 ∧ R67 x70 h72)) (
          (∃ h73, Gh h66 h73 ∧ R67 x18_puts h73))) ∧
      ∀ (_ : F) (x74_puts : SV) (h75 : H), R67 x74_puts h75 →
      f3_J1 p0_size post x53_out R55 x58 x59 x60 x74_puts h75) (
      (∃ h84, Gh h54 h84 ∧ R55 x18_puts h84))) ∧
  ∀ (_ : F) (x85_puts : SV) (h86 : H), R55 x85_puts h86 →
  f3_J5 p0_size post x6 I14 n15 x19_got x23_i x31 x39_have x52_value x53_out x85_puts h86

def f3_J7 (p0_size : Int) (post : Value → H → Prop) (x6 : Option Addr) (I14 : Nat → SV → Int → Int → Int → Int → Int → H → Prop) (n15 : Nat) (x18_puts : SV) (x19_got : Int) (x20_value : Int) (x21_out : Int) (x23_i : Int) (x31 : Int) (x39_have : Int) (h40 : H) : Prop :=
  ∃ R41 : Bool → H → Prop, (
    VIf (decide (x31 ≥ (0 : Int))) (
      SemCall Go.Proofs.Try.prog 11 (List.toArray [(Value.pointer x6), (Value.int .i64 x31)]) h40 fun v42 h43 =>
      ∃ x44 : Option (TypeId × Value), v42 = (errV x44) ∧
      isIfaceV (errV x44) = true ∧
      (∃ h45, Gh h43 h45 ∧ R41 (isNilV (errV x44)) h45)) (
      (∃ h46, Gh h40 h46 ∧ R41 false h46))) ∧
  ∀ (_ : F) (x47 : Bool) (h48 : H), R41 x47 h48 →
  ∃ R49 : Int → Int → H → Prop, (
    VIf x47 (
      (∃ h50, Gh h48 h50 ∧ R49 x31 x19_got h50)) (
      (∃ h51, Gh h48 h51 ∧ R49 x20_value x21_out h51))) ∧
  ∀ (_ : F) (x52_value : Int) (x53_out : Int) (h54 : H), R49 x52_value x53_out h54 →
  f3_J6 p0_size post x6 I14 n15 x18_puts x19_got x23_i x31 x39_have x52_value x53_out h54

def f3_J8 (p0_size : Int) (p1_steps : SV) (post : Value → H → Prop) (x6 : Option Addr) (R13 : H → Prop) (I14 : Nat → SV → Int → Int → Int → Int → Int → H → Prop) (n15 : Nat) (x18_puts : SV) (x19_got : Int) (x20_value : Int) (x21_out : Int) (x22_have : Int) (x23_i : Int) (x28 : Bool) (h29 : H) : Prop :=
  VIf x28 (
    ∃ b30 : Addr, p1_steps.a = some b30 ∧ 0 ≤ x23_i ∧ x23_i < ((p1_steps.len : Nat) : Int) ∧
    ∃ x31 : Int, H.rd h29 (Addr.add (Addr.add b30 ((x23_i).toNat * 1)) 0) (Value.int .i64 x31) ∧
    ∃ R32 : Int → H → Prop, (
      VIf (x31 == (-1 : Int)) (
        SemCall Go.Proofs.Try.prog 10 (List.toArray [(Value.pointer x6)]) h29 fun v33 h34 =>
        ∃ x35 : Option (TypeId × Value), v33 = (errV x35) ∧
        isIfaceV (errV x35) = true ∧
        VIf (isNilV (errV x35)) (
          (∃ h36, Gh h34 h36 ∧ R32 ((x18_puts.len : Nat) : Int) h36)) (
          (∃ h37, Gh h34 h37 ∧ R32 x22_have h37))) (
        (∃ h38, Gh h29 h38 ∧ R32 x22_have h38))) ∧
    ∀ (_ : F) (x39_have : Int) (h40 : H), R32 x39_have h40 →
    f3_J7 p0_size post x6 I14 n15 x18_puts x19_got x20_value x21_out x23_i x31 x39_have h40) (
    (∃ h128, Gh h29 h128 ∧ R13 h128))

def f3_L9 (p0_size : Int) (p1_steps : SV) (post : Value → H → Prop) (x6 : Option Addr) (R13 : H → Prop) (I14 : Nat → SV → Int → Int → Int → Int → Int → H → Prop) (n15 : Nat) (x18_puts : SV) (x19_got : Int) (x20_value : Int) (x21_out : Int) (x22_have : Int) (x23_i : Int) (h24 : H) : Prop :=
  ∃ R25 : Bool → H → Prop, (
    VIf (decide (x23_i < ((p1_steps.len : Nat) : Int))) (
      (∃ h26, Gh h24 h26 ∧ R25 (decide (x23_i < (300 : Int))) h26)) (
      (∃ h27, Gh h24 h27 ∧ R25 false h27))) ∧
  ∀ (_ : F) (x28 : Bool) (h29 : H), R25 x28 h29 →
  f3_J8 p0_size p1_steps post x6 R13 I14 n15 x18_puts x19_got x20_value x21_out x22_have x23_i x28 h29

def f3_sem (p0_size : Int) (p1_steps : SV) (h0 : H) (post : Value → H → Prop) : Prop :=
  SemCall Go.Proofs.Try.prog 8 (List.toArray []) h0 fun v1 h2 =>
  ∃ x3 : Bool, v1 = (Value.bool x3) ∧
  VIf (!x3) (
    VRet h2 (Value.bool false) post) (
    SemCall Go.Proofs.Try.prog 9 (List.toArray [(Value.int .i64 p0_size)]) h2 fun v4 h5 =>
    ∃ x6 : Option Addr, ∃ x7 : Option (TypeId × Value), v4 = (Value.tuple (List.toArray [(Value.pointer x6), (errV x7)])) ∧
    isIfaceV (errV x7) = true ∧
    VIf (!(isNilV (errV x7))) (
      ∃ R8 : Bool → H → Prop, (
        VIf (decide (p0_size < (1 : Int))) (
          (∃ h9, Gh h5 h9 ∧ R8 true h9)) (
          (∃ h10, Gh h5 h10 ∧ R8 (decide (p0_size > (8 : Int))) h10))) ∧
      ∀ (_ : F) (x11 : Bool) (h12 : H), R8 x11 h12 →
      VRet h12 (Value.bool x11) post) (
      ∃ R13 : H → Prop, (
        ∃ I14 : Nat → SV → Int → Int → Int → Int → Int → H → Prop, (∃ n15, (∃ h17, Gh h5 h17 ∧ I14 n15 (SV.mk none 0 0) (0 : Int) (0 : Int) (0 : Int) (0 : Int) (0 : Int) h17)) ∧
        ∀ (n15 : Nat) (_ : F) (x18_puts : SV) (x19_got : Int) (x20_value : Int) (x21_out : Int) (x22_have : Int) (x23_i : Int) (h24 : H), I14 n15 x18_puts x19_got x20_value x21_out x22_have x23_i h24 →
        f3_L9 p0_size p1_steps post x6 R13 I14 n15 x18_puts x19_got x20_value x21_out x22_have x23_i h24) ∧
      ∀ (_ : F) (h129 : H), R13 h129 →
      VRet h129 (Value.bool true) post))

def f3_hint : Hint := (.node .leaf (.node .leaf (.node .leaf (.node .leaf (.node (.node .leaf (.node (.node (.join [(4, .bool)] .leaf) .leaf) .leaf)) (.node .leaf (.node .leaf (.node .leaf (.node .leaf (.node .leaf (.node (.node .leaf (.join [] (.node (.loop [(8, .sl), (9, .int), (10, .int), (11, .int), (12, .int), (13, .int)] (.node (.node (.join [(44, .bool)] .leaf) .leaf) (.node (.node (.node .leaf (.node (.node .leaf (.join [(12, .int)] .leaf)) (.node (.node (.join [(65, .bool)] .leaf) (.join [(10, .int), (11, .int)] .leaf)) (.node (.node .leaf (.join [(8, .sl)] (.node (.node .leaf (.node (.node (.join [(83, .bool)] .leaf) (.join [(8, .sl)] .leaf)) (.node (.join [(104, .bool)] .leaf) .leaf))) .leaf))) (.node (.node .leaf (.join [(9, .int)] (.node (.node .leaf (.node (.node (.join [(121, .bool)] .leaf) (.join [(9, .int)] (.node (.node (.node (.join [(133, .bool)] .leaf) .leaf) .leaf) .leaf))) (.node (.join [(149, .bool)] .leaf) .leaf))) .leaf))) (.node (.join [(161, .bool)] .leaf) .leaf)))))) .leaf) .leaf))) .leaf))) .leaf)))))))))))

theorem f3_eq (p0_size : Int) (p1_steps : SV) (h0 : H) (post : Value → H → Prop) : exec Try.prog (bodyOf Try.f3) f3_hint (retQ Try.prog Try.f3 post) (F0 [(Value.int .i64 p0_size), (Value.slice p1_steps.a p1_steps.len p1_steps.cap)]) h0 = f3_sem p0_size p1_steps h0 post := by kernel_rfl

theorem f3_call (p0_size : Int) (p1_steps : SV) (h0 : H) (post : Value → H → Prop) (hx : f3_sem p0_size p1_steps h0 post) : SemCall Try.prog 3 (List.toArray [(Value.int .i64 p0_size), (Value.slice p1_steps.a p1_steps.len p1_steps.cap)]) h0 post :=
  sem_of_exec (g := f3_hint) mixed Try.func3 (bodyOf_eq (by kernel_rfl)) (by kernel_rfl) ((f3_eq p0_size p1_steps h0 post).mpr hx)

/- latchgarth/latchgarthlaw3.UnivOne -/
def f4_J1 (p0_n : Int) (post : Value → H → Prop) (r13 : Nat) (I16 : Nat → SV → SV → SV → SV → Int → H → Prop) (n17 : Nat) (x24_i : Int) (x32 : SV) (x80_adds : SV) (x81_got : SV) (x82_begun : SV) (x83_ended : SV) (x90 : Int) (x109 : Bool) (h110 : H) : Prop :=
  VIf x109 (
    VRet h110 (Value.bool false) post) (
    ∃ b111 : Addr, x32.a = some b111 ∧ 0 ≤ (0 : Int) ∧ (0 : Int) < ((x32.len : Nat) : Int) ∧
    ∃ x112 : Int, H.rd h110 (Addr.add (Addr.add b111 (((0 : Int)).toNat * 1)) 0) (Value.int .i64 x112) ∧
    ∃ b113 : Addr, (some (Addr.mk r13 0 none)) = some b113 ∧ 0 ≤ x112 ∧ x112 < (((p0_n).toNat : Nat) : Int) ∧
    ∃ x114 : Int, H.rd h110 (Addr.add (Addr.add b113 ((x112).toNat * 1)) 0) (Value.int .i64 x114) ∧
    ∃ b115 : Addr, x81_got.a = some b115 ∧ 0 ≤ x114 ∧ x114 < ((x81_got.len : Nat) : Int) ∧
    H.wr h110 (Addr.add b115 ((x114).toNat * 1)) ([(Value.int .i64 x90)]) fun h116 =>
    ∃ b117 : Addr, x32.a = some b117 ∧ 0 ≤ (0 : Int) ∧ (0 : Int) < ((x32.len : Nat) : Int) ∧
    ∃ x118 : Int, H.rd h116 (Addr.add (Addr.add b117 (((0 : Int)).toNat * 1)) 0) (Value.int .i64 x118) ∧
    ∃ b119 : Addr, (some (Addr.mk r13 0 none)) = some b119 ∧ 0 ≤ x118 ∧ x118 < (((p0_n).toNat : Nat) : Int) ∧
    ∃ x120 : Int, H.rd h116 (Addr.add (Addr.add b119 ((x118).toNat * 1)) 0) (Value.int .i64 x120) ∧
    ∃ b121 : Addr, x83_ended.a = some b121 ∧ 0 ≤ x120 ∧ x120 < ((x83_ended.len : Nat) : Int) ∧
    H.wr h116 (Addr.add b121 ((x120).toNat * 1)) ([(Value.int .i64 x24_i)]) fun h122 =>
    In64 (x24_i + (1 : Int)) ∧
    ∃ m18, m18 < n17 ∧ (∃ h123, Gh h122 h123 ∧ I16 m18 x80_adds x81_got x82_begun x83_ended (x24_i + (1 : Int)) h123))

def f4_J2 (p0_n : Int) (post : Value → H → Prop) (r13 : Nat) (I16 : Nat → SV → SV → SV → SV → Int → H → Prop) (n17 : Nat) (x24_i : Int) (x32 : SV) (x80_adds : SV) (x81_got : SV) (x82_begun : SV) (x83_ended : SV) (x90 : Int) (x95 : Bool) (h96 : H) : Prop :=
  VIf x95 (
    ∃ R97 : Bool → H → Prop, (
      ∃ b98 : Addr, x32.a = some b98 ∧ 0 ≤ (0 : Int) ∧ (0 : Int) < ((x32.len : Nat) : Int) ∧
      ∃ x99 : Int, H.rd h96 (Addr.add (Addr.add b98 (((0 : Int)).toNat * 1)) 0) (Value.int .i64 x99) ∧
      In64 (p0_n - (1 : Int)) ∧
      SemCall Go.Proofs.Try.prog 17 (List.toArray [(Value.int .i64 x99), (Value.int .i64 (0 : Int)), (Value.int .i64 (p0_n - (1 : Int)))]) h96 fun v100 h101 =>
      ∃ x102 : Bool, v100 = (Value.bool x102) ∧
      VIf (!x102) (
        (∃ h103, Gh h101 h103 ∧ R97 true h103)) (
        ∃ b104 : Addr, x32.a = some b104 ∧ 0 ≤ (0 : Int) ∧ (0 : Int) < ((x32.len : Nat) : Int) ∧
        ∃ x105 : Int, H.rd h101 (Addr.add (Addr.add b104 (((0 : Int)).toNat * 1)) 0) (Value.int .i64 x105) ∧
        ∃ b106 : Addr, (some (Addr.mk r13 0 none)) = some b106 ∧ 0 ≤ x105 ∧ x105 < (((p0_n).toNat : Nat) : Int) ∧
        ∃ x107 : Int, H.rd h101 (Addr.add (Addr.add b106 ((x105).toNat * 1)) 0) (Value.int .i64 x107) ∧
        (∃ h108, Gh h101 h108 ∧ R97 (decide (x107 ≥ ((x80_adds.len : Nat) : Int))) h108))) ∧
    ∀ (_ : F) (x109 : Bool) (h110 : H), R97 x109 h110 →
    f4_J1 p0_n post r13 I16 n17 x24_i x32 x80_adds x81_got x82_begun x83_ended x90 x109 h110) (
    In64 (x24_i + (1 : Int)) ∧
    ∃ m18, m18 < n17 ∧ (∃ h124, Gh h96 h124 ∧ I16 m18 x80_adds x81_got x82_begun x83_ended (x24_i + (1 : Int)) h124))

def f4_J3 (p0_n : Int) (post : Value → H → Prop) (x6 : Option Addr) (r13 : Nat) (I16 : Nat → SV → SV → SV → SV → Int → H → Prop) (n17 : Nat) (x24_i : Int) (x32 : SV) (x80_adds : SV) (x81_got : SV) (x82_begun : SV) (x83_ended : SV) (h84 : H) : Prop :=
  VIf (((x32.len : Nat) : Int) == (1 : Int)) (
    ∃ b85 : Addr, x32.a = some b85 ∧ 0 ≤ (0 : Int) ∧ (0 : Int) < ((x32.len : Nat) : Int) ∧
    ∃ x86 : Int, H.rd h84 (Addr.add (Addr.add b85 (((0 : Int)).toNat * 1)) 0) (Value.int .i64 x86) ∧
    SemCall Go.Proofs.Try.prog 18 (List.toArray [(Value.pointer x6), (Value.int .i64 x86)]) h84 fun v87 h88 =>
    ∃ x89 : Bool, ∃ x90 : Int, ∃ x91 : Option (TypeId × Value), v87 = (Value.tuple (List.toArray [(Value.bool x89), (Value.int .i64 x90), (errV x91)])) ∧
    ∃ R92 : Bool → H → Prop, (
      isIfaceV (errV x91) = true ∧
      VIf (isNilV (errV x91)) (
        (∃ h93, Gh h88 h93 ∧ R92 x89 h93)) (
        (∃ h94, Gh h88 h94 ∧ R92 false h94))) ∧
    ∀ (_ : F) (x95 : Bool) (h96 : H), R92 x95 h96 →
    f4_J2 p0_n post r13 I16 n17 x24_i x32 x80_adds x81_got x82_begun x83_ended x90 x95 h96) (
    In64 (x24_i + (1 : Int)) ∧
    ∃ m18, m18 < n17 ∧ (∃ h125, Gh h84 h125 ∧ I16 m18 x80_adds x81_got x82_begun x83_ended (x24_i + (1 : Int)) h125))

def f4_J4 (p0_n : Int) (post : Value → H → Prop) (x6 : Option Addr) (r13 : Nat) (I16 : Nat → SV → SV → SV → SV → Int → H → Prop) (n17 : Nat) (x20_adds : SV) (x21_got : SV) (x22_begun : SV) (x23_ended : SV) (x24_i : Int) (x32 : SV) (x48 : Bool) (h49 : H) : Prop :=
  ∃ R50 : SV → SV → SV → SV → H → Prop, (
    VIf x48 (
      ∃ b51 : Addr, x32.a = some b51 ∧ 0 ≤ (0 : Int) ∧ (0 : Int) < ((x32.len : Nat) : Int) ∧
      ∃ x52 : Int, H.rd h49 (Addr.add (Addr.add b51 (((0 : Int)).toNat * 1)) 0) (Value.int .i64 x52) ∧
      In64 (p0_n - (1 : Int)) ∧
      SemCall Go.Proofs.Try.prog 17 (List.toArray [(Value.int .i64 x52), (Value.int .i64 (0 : Int)), (Value.int .i64 (p0_n - (1 : Int)))]) h49 fun v53 h54 =>
      ∃ x55 : Bool, v53 = (Value.bool x55) ∧
      VIf (!x55) (
        VRet h54 (Value.bool false) post) (
        ∃ b56 : Addr, x32.a = some b56 ∧ 0 ≤ (0 : Int) ∧ (0 : Int) < ((x32.len : Nat) : Int) ∧
        ∃ x57 : Int, H.rd h54 (Addr.add (Addr.add b56 (((0 : Int)).toNat * 1)) 0) (Value.int .i64 x57) ∧
        ∃ b58 : Addr, (some (Addr.mk r13 0 none)) = some b58 ∧ 0 ≤ x57 ∧ x57 < (((p0_n).toNat : Nat) : Int) ∧
        H.wr h54 (Addr.add b58 ((x57).toNat * 1)) ([(Value.int .i64 ((x20_adds.len : Nat) : Int))]) fun h59 =>
        ∃ b60 : Addr, x32.a = some b60 ∧ 0 ≤ (1 : Int) ∧ (1 : Int) < ((x32.len : Nat) : Int) ∧
        ∃ x61 : Int, H.rd h59 (Addr.add (Addr.add b60 (((1 : Int)).toNat * 1)) 0) (Value.int .i64 x61) ∧
        H.new h59 [(Value.int .i64 x61)] fun r62 h63 =>
        appVC Go.Proofs.Try.prog 22 (Value.slice x20_adds.a x20_adds.len x20_adds.cap) (Value.slice (some (Addr.mk r62 0 none)) 1 1) h63 fun x64 h65 =>
        H.new h65 [(Value.int .i64 (-1 : Int))] fun r66 h67 =>
        appVC Go.Proofs.Try.prog 22 (Value.slice x21_got.a x21_got.len x21_got.cap) (Value.slice (some (Addr.mk r66 0 none)) 1 1) h67 fun x68 h69 =>
        H.new h69 [(Value.int .i64 x24_i)] fun r70 h71 =>
        appVC Go.Proofs.Try.prog 22 (Value.slice x22_begun.a x22_begun.len x22_begun.cap) (Value.slice (some (Addr.mk r70 0 none)) 1 1) h71 fun x72 h73 =>
        H.new h73 [(Value.int .i64 (1000 : Int))] fun r74 h75 =>
        appVC Go.Proofs.Try.prog 22 (Value.slice x23_ended.a x23_ended.len x23_ended.cap) (Value.slice (some (Addr.mk r74 0 none)) 1 1) h75 fun x76 h77 =>
        (∃ h78, Gh h77 h78 ∧ R50 x64 x68 x72 x76 h78))) (
      (∃ h79, Gh h49 h79 ∧ R50 x20_adds x21_got x22_begun x23_ended h79))) ∧
  ∀ (_ : F) (x80_adds : SV) (x81_got : SV) (x82_begun : SV) (x83_ended : SV) (h84 : H), R50 x80_adds x81_got x82_begun x83_ended h84 →
  f4_J3 p0_n post x6 r13 I16 n17 x24_i x32 x80_adds x81_got x82_begun x83_ended h84

def f4_J5 (p0_n : Int) (p1_steps : SV) (post : Value → H → Prop) (x6 : Option Addr) (r13 : Nat) (R15 : SV → SV → SV → SV → H → Prop) (I16 : Nat → SV → SV → SV → SV → Int → H → Prop) (n17 : Nat) (x20_adds : SV) (x21_got : SV) (x22_begun : SV) (x23_ended : SV) (x24_i : Int) (x29 : Bool) (h30 : H) : Prop :=
  VIf x29 (
    ∃ b31 : Addr, p1_steps.a = some b31 ∧ 0 ≤ x24_i ∧ x24_i < ((p1_steps.len : Nat) : Int) ∧
    ∃ x32 : SV, H.rd h30 (Addr.add (Addr.add b31 ((x24_i).toNat * 1)) 0) (Value.slice x32.a x32.len x32.cap) ∧
    ∃ R33 : Bool → H → Prop, (
      VIf (((x32.len : Nat) : Int) == (2 : Int)) (
        ∃ b34 : Addr, x32.a = some b34 ∧ 0 ≤ (0 : Int) ∧ (0 : Int) < ((x32.len : Nat) : Int) ∧
        ∃ x35 : Int, H.rd h30 (Addr.add (Addr.add b34 (((0 : Int)).toNat * 1)) 0) (Value.int .i64 x35) ∧
        ∃ b36 : Addr, x32.a = some b36 ∧ 0 ≤ (1 : Int) ∧ (1 : Int) < ((x32.len : Nat) : Int) ∧
        ∃ x37 : Int, H.rd h30 (Addr.add (Addr.add b36 (((1 : Int)).toNat * 1)) 0) (Value.int .i64 x37) ∧
        VIf true (
          SemCall Go.Proofs.Try.prog 16 (List.toArray [(Value.pointer x6), (Value.int .i64 x35), (Value.int .i64 x37)]) h30 fun v38 h39 =>
          ∃ x40 : Option (TypeId × Value), v38 = (errV x40) ∧
          isIfaceV (errV x40) = true ∧
          (∃ h41, Gh h39 h41 ∧ R33 (isNilV (errV x40)) h41)) (
          (∃ h42, Gh h30 h42 ∧ R33 false h42))) (
        VIf false (
          SemCall Go.Proofs.Try.prog 16 (List.toArray [undef, undef, undef]) h30 fun v43 h44 =>
          ∃ x45 : Option (TypeId × Value), v43 = (errV x45) ∧
          isIfaceV (errV x45) = true ∧
          (∃ h46, Gh h44 h46 ∧ R33 (isNilV (errV x45)) h46)) (
          (∃ h47, Gh h30 h47 ∧ R33 false h47)))) ∧
    ∀ (_ : F) (x48 : Bool) (h49 : H), R33 x48 h49 →
    f4_J4 p0_n post x6 r13 I16 n17 x20_adds x21_got x22_begun x23_ended x24_i x32 x48 h49) (
    (∃ h126, Gh h30 h126 ∧ R15 x20_adds x21_got x22_begun x23_ended h126))

def f4_L6 (p0_n : Int) (p1_steps : SV) (post : Value → H → Prop) (x6 : Option Addr) (r13 : Nat) (R15 : SV → SV → SV → SV → H → Prop) (I16 : Nat → SV → SV → SV → SV → Int → H → Prop) (n17 : Nat) (x20_adds : SV) (x21_got : SV) (x22_begun : SV) (x23_ended : SV) (x24_i : Int) (h25 : H) : Prop :=
  ∃ R26 : Bool → H → Prop, (
    VIf (decide (x24_i < ((p1_steps.len : Nat) : Int))) (
      (∃ h27, Gh h25 h27 ∧ R26 (decide (x24_i < (200 : Int))) h27)) (
      (∃ h28, Gh h25 h28 ∧ R26 false h28))) ∧
  ∀ (_ : F) (x29 : Bool) (h30 : H), R26 x29 h30 →
  f4_J5 p0_n p1_steps post x6 r13 R15 I16 n17 x20_adds x21_got x22_begun x23_ended x24_i x29 h30

def f4_L7 (x127_adds : SV) (r135 : Nat) (R137 : H → Prop) (I138 : Nat → Int → H → Prop) (n139 : Nat) (x142_d : Int) (h143 : H) : Prop :=
  VIf (decide (x142_d < ((x127_adds.len : Nat) : Int))) (
    ∃ b144 : Addr, (some (Addr.mk r135 0 none)) = some b144 ∧ 0 ≤ x142_d ∧ x142_d < (((((x127_adds.len : Nat) : Int)).toNat : Nat) : Int) ∧
    H.wr h143 (Addr.add b144 ((x142_d).toNat * 1)) ([(Value.int .i64 (-1 : Int))]) fun h145 =>
    In64 (x142_d + (1 : Int)) ∧
    ∃ m140, m140 < n139 ∧ (∃ h146, Gh h145 h146 ∧ I138 m140 (x142_d + (1 : Int)) h146)) (
    (∃ h147, Gh h143 h147 ∧ R137 h147))

def f4_J8 (post : Value → H → Prop) (x127_adds : SV) (x128_got : SV) (r135 : Nat) (I150 : Nat → Int → Int → H → Prop) (n151 : Nat) (x154_sum : Int) (x155_k : Int) (x158 : Int) (x167 : Bool) (h168 : H) : Prop :=
  VIf x167 (
    VRet h168 (Value.bool false) post) (
    ∃ b169 : Addr, (some (Addr.mk r135 0 none)) = some b169 ∧ 0 ≤ x158 ∧ x158 < (((((x127_adds.len : Nat) : Int)).toNat : Nat) : Int) ∧
    H.wr h168 (Addr.add b169 ((x158).toNat * 1)) ([(Value.int .i64 x155_k)]) fun h170 =>
    ∃ R171 : Bool → H → Prop, (
      ∃ b172 : Addr, x128_got.a = some b172 ∧ 0 ≤ x158 ∧ x158 < ((x128_got.len : Nat) : Int) ∧
      ∃ x173 : Int, H.rd h170 (Addr.add (Addr.add b172 ((x158).toNat * 1)) 0) (Value.int .i64 x173) ∧
      VIf (decide (x173 ≥ (0 : Int))) (
        ∃ b174 : Addr, x128_got.a = some b174 ∧ 0 ≤ x158 ∧ x158 < ((x128_got.len : Nat) : Int) ∧
        ∃ x175 : Int, H.rd h170 (Addr.add (Addr.add b174 ((x158).toNat * 1)) 0) (Value.int .i64 x175) ∧
        (∃ h176, Gh h170 h176 ∧ R171 (x175 != x154_sum) h176)) (
        (∃ h177, Gh h170 h177 ∧ R171 false h177))) ∧
    ∀ (_ : F) (x178 : Bool) (h179 : H), R171 x178 h179 →
    VIf x178 (
      VRet h179 (Value.bool false) post) (
      ∃ b180 : Addr, x127_adds.a = some b180 ∧ 0 ≤ x158 ∧ x158 < ((x127_adds.len : Nat) : Int) ∧
      ∃ x181 : Int, H.rd h179 (Addr.add (Addr.add b180 ((x158).toNat * 1)) 0) (Value.int .i64 x181) ∧
      In64 (x154_sum + x181) ∧
      In64 (x155_k + (1 : Int)) ∧
      ∃ m152, m152 < n151 ∧ (∃ h182, Gh h179 h182 ∧ I150 m152 (x154_sum + x181) (x155_k + (1 : Int)) h182)))

def f4_L9 (post : Value → H → Prop) (x127_adds : SV) (x128_got : SV) (x134 : SV) (r135 : Nat) (R149 : H → Prop) (I150 : Nat → Int → Int → H → Prop) (n151 : Nat) (x154_sum : Int) (x155_k : Int) (h156 : H) : Prop :=
  VIf (decide (x155_k < ((x134.len : Nat) : Int))) (
    ∃ b157 : Addr, x134.a = some b157 ∧ 0 ≤ x155_k ∧ x155_k < ((x134.len : Nat) : Int) ∧
    ∃ x158 : Int, H.rd h156 (Addr.add (Addr.add b157 ((x155_k).toNat * 1)) 0) (Value.int .i64 x158) ∧
    ∃ R159 : Bool → H → Prop, (
      In64 (((x127_adds.len : Nat) : Int) - (1 : Int)) ∧
      SemCall Go.Proofs.Try.prog 17 (List.toArray [(Value.int .i64 x158), (Value.int .i64 (0 : Int)), (Value.int .i64 (((x127_adds.len : Nat) : Int) - (1 : Int)))]) h156 fun v160 h161 =>
      ∃ x162 : Bool, v160 = (Value.bool x162) ∧
      VIf (!x162) (
        (∃ h163, Gh h161 h163 ∧ R159 true h163)) (
        ∃ b164 : Addr, (some (Addr.mk r135 0 none)) = some b164 ∧ 0 ≤ x158 ∧ x158 < (((((x127_adds.len : Nat) : Int)).toNat : Nat) : Int) ∧
        ∃ x165 : Int, H.rd h161 (Addr.add (Addr.add b164 ((x158).toNat * 1)) 0) (Value.int .i64 x165) ∧
        (∃ h166, Gh h161 h166 ∧ R159 (decide (x165 ≥ (0 : Int))) h166))) ∧
    ∀ (_ : F) (x167 : Bool) (h168 : H), R159 x167 h168 →
    f4_J8 post x127_adds x128_got r135 I150 n151 x154_sum x155_k x158 x167 h168) (
    (∃ h183, Gh h156 h183 ∧ R149 h183))

def f4_L10 (post : Value → H → Prop) (x127_adds : SV) (x129_begun : SV) (x130_ended : SV) (r135 : Nat) (x190_d : Int) (R202 : H → Prop) (I203 : Nat → Int → H → Prop) (n204 : Nat) (x207_f : Int) (h208 : H) : Prop :=
  VIf (decide (x207_f < ((x127_adds.len : Nat) : Int))) (
    ∃ R209 : Bool → H → Prop, (
      ∃ b210 : Addr, x130_ended.a = some b210 ∧ 0 ≤ x190_d ∧ x190_d < ((x130_ended.len : Nat) : Int) ∧
      ∃ x211 : Int, H.rd h208 (Addr.add (Addr.add b210 ((x190_d).toNat * 1)) 0) (Value.int .i64 x211) ∧
      ∃ b212 : Addr, x129_begun.a = some b212 ∧ 0 ≤ x207_f ∧ x207_f < ((x129_begun.len : Nat) : Int) ∧
      ∃ x213 : Int, H.rd h208 (Addr.add (Addr.add b212 ((x207_f).toNat * 1)) 0) (Value.int .i64 x213) ∧
      VIf (decide (x211 < x213)) (
        ∃ b214 : Addr, (some (Addr.mk r135 0 none)) = some b214 ∧ 0 ≤ x207_f ∧ x207_f < (((((x127_adds.len : Nat) : Int)).toNat : Nat) : Int) ∧
        ∃ x215 : Int, H.rd h208 (Addr.add (Addr.add b214 ((x207_f).toNat * 1)) 0) (Value.int .i64 x215) ∧
        VIf (decide (x215 ≥ (0 : Int))) (
          ∃ b216 : Addr, (some (Addr.mk r135 0 none)) = some b216 ∧ 0 ≤ x190_d ∧ x190_d < (((((x127_adds.len : Nat) : Int)).toNat : Nat) : Int) ∧
          ∃ x217 : Int, H.rd h208 (Addr.add (Addr.add b216 ((x190_d).toNat * 1)) 0) (Value.int .i64 x217) ∧
          ∃ b218 : Addr, (some (Addr.mk r135 0 none)) = some b218 ∧ 0 ≤ x207_f ∧ x207_f < (((((x127_adds.len : Nat) : Int)).toNat : Nat) : Int) ∧
          ∃ x219 : Int, H.rd h208 (Addr.add (Addr.add b218 ((x207_f).toNat * 1)) 0) (Value.int .i64 x219) ∧
          (∃ h220, Gh h208 h220 ∧ R209 (decide (x217 > x219)) h220)) (
          (∃ h221, Gh h208 h221 ∧ R209 false h221))) (
        (∃ h222, Gh h208 h222 ∧ R209 false h222))) ∧
    ∀ (_ : F) (x223 : Bool) (h224 : H), R209 x223 h224 →
    VIf x223 (
      VRet h224 (Value.bool false) post) (
      In64 (x207_f + (1 : Int)) ∧
      ∃ m205, m205 < n204 ∧ (∃ h225, Gh h224 h225 ∧ I203 m205 (x207_f + (1 : Int)) h225))) (
    (∃ h226, Gh h208 h226 ∧ R202 h226))

def f4_L11 (post : Value → H → Prop) (x127_adds : SV) (x128_got : SV) (x129_begun : SV) (x130_ended : SV) (r135 : Nat) (R185 : H → Prop) (I186 : Nat → Int → H → Prop) (n187 : Nat) (x190_d : Int) (h191 : H) : Prop :=
  VIf (decide (x190_d < ((x127_adds.len : Nat) : Int))) (
    ∃ R192 : H → Prop, (
      ∃ R193 : Bool → H → Prop, (
        ∃ b194 : Addr, x128_got.a = some b194 ∧ 0 ≤ x190_d ∧ x190_d < ((x128_got.len : Nat) : Int) ∧
        ∃ x195 : Int, H.rd h191 (Addr.add (Addr.add b194 ((x190_d).toNat * 1)) 0) (Value.int .i64 x195) ∧
        VIf (decide (x195 ≥ (0 : Int))) (
          ∃ b196 : Addr, (some (Addr.mk r135 0 none)) = some b196 ∧ 0 ≤ x190_d ∧ x190_d < (((((x127_adds.len : Nat) : Int)).toNat : Nat) : Int) ∧
          ∃ x197 : Int, H.rd h191 (Addr.add (Addr.add b196 ((x190_d).toNat * 1)) 0) (Value.int .i64 x197) ∧
          (∃ h198, Gh h191 h198 ∧ R193 (decide (x197 < (0 : Int))) h198)) (
          (∃ h199, Gh h191 h199 ∧ R193 false h199))) ∧
      ∀ (_ : F) (x200 : Bool) (h201 : H), R193 x200 h201 →
      VIf x200 (
        VRet h201 (Value.bool false) post) (
        ∃ R202 : H → Prop, (
          ∃ I203 : Nat → Int → H → Prop, (∃ n204, (∃ h206, Gh h201 h206 ∧ I203 n204 (0 : Int) h206)) ∧
          ∀ (n204 : Nat) (_ : F) (x207_f : Int) (h208 : H), I203 n204 x207_f h208 →
          f4_L10 post x127_adds x129_begun x130_ended r135 x190_d R202 I203 n204 x207_f h208) ∧
        ∀ (_ : F) (h227 : H), R202 h227 →
        (∃ h228, Gh h227 h228 ∧ R192 h228))) ∧
    ∀ (_ : F) (h229 : H), R192 h229 →
    In64 (x190_d + (1 : Int)) ∧
    ∃ m188, m188 < n187 ∧ (∃ h230, Gh h229 h230 ∧ I186 m188 (x190_d + (1 : Int)) h230)) (
    (∃ h231, Gh h191 h231 ∧ R185 h231))

def f4_J12 (post : Value → H → Prop) (x127_adds : SV) (x128_got : SV) (x129_begun : SV) (x130_ended : SV) (x134 : SV) (r135 : Nat) (h148 : H) : Prop :=
  ∃ R149 : H → Prop, (
    ∃ I150 : Nat → Int → Int → H → Prop, (∃ n151, (∃ h153, Gh h148 h153 ∧ I150 n151 (0 : Int) (0 : Int) h153)) ∧
    ∀ (n151 : Nat) (_ : F) (x154_sum : Int) (x155_k : Int) (h156 : H), I150 n151 x154_sum x155_k h156 →
    f4_L9 post x127_adds x128_got x134 r135 R149 I150 n151 x154_sum x155_k h156) ∧
  ∀ (_ : F) (h184 : H), R149 h184 →
  ∃ R185 : H → Prop, (
    ∃ I186 : Nat → Int → H → Prop, (∃ n187, (∃ h189, Gh h184 h189 ∧ I186 n187 (0 : Int) h189)) ∧
    ∀ (n187 : Nat) (_ : F) (x190_d : Int) (h191 : H), I186 n187 x190_d h191 →
    f4_L11 post x127_adds x128_got x129_begun x130_ended r135 R185 I186 n187 x190_d h191) ∧
  ∀ (_ : F) (h232 : H), R185 h232 →
  VRet h232 (Value.bool true) post

def f4_J13 (post : Value → H → Prop) (x6 : Option Addr) (x127_adds : SV) (x128_got : SV) (x129_begun : SV) (x130_ended : SV) (h131 : H) : Prop :=
  SemCall Go.Proofs.Try.prog 19 (List.toArray [(Value.pointer x6)]) h131 fun v132 h133 =>
  ∃ x134 : SV, v132 = (Value.slice x134.a x134.len x134.cap) ∧
  0 ≤ ((x127_adds.len : Nat) : Int) ∧ ((x127_adds.len : Nat) : Int) ≤ ((x127_adds.len : Nat) : Int) ∧ ((8 : Nat) : Int) * ((x127_adds.len : Nat) : Int) ≤ 140737488355328 ∧ ((x127_adds.len : Nat) : Int) ≤ 1000000000 ∧
  H.new h133 (repl (((x127_adds.len : Nat) : Int)).toNat [(Value.int .i64 (0 : Int))]) fun r135 h136 =>
  ∃ R137 : H → Prop, (
    ∃ I138 : Nat → Int → H → Prop, (∃ n139, (∃ h141, Gh h136 h141 ∧ I138 n139 (0 : Int) h141)) ∧
    ∀ (n139 : Nat) (_ : F) (x142_d : Int) (h143 : H), I138 n139 x142_d h143 →
    f4_L7 x127_adds r135 R137 I138 n139 x142_d h143) ∧
  ∀ (_ : F) (h148 : H), R137 h148 →
  f4_J12 post x127_adds x128_got x129_begun x130_ended x134 r135 h148

def f4_sem (p0_n : Int) (p1_steps : SV) (h0 : H) (post : Value → H → Prop) : Prop :=
  SemCall Go.Proofs.Try.prog 14 (List.toArray []) h0 fun v1 h2 =>
  ∃ x3 : Bool, v1 = (Value.bool x3) ∧
  VIf (!x3) (
    VRet h2 (Value.bool false) post) (
    SemCall Go.Proofs.Try.prog 15 (List.toArray [(Value.int .i64 p0_n)]) h2 fun v4 h5 =>
    ∃ x6 : Option Addr, ∃ x7 : Option (TypeId × Value), v4 = (Value.tuple (List.toArray [(Value.pointer x6), (errV x7)])) ∧
    isIfaceV (errV x7) = true ∧
    VIf (!(isNilV (errV x7))) (
      ∃ R8 : Bool → H → Prop, (
        VIf (decide (p0_n < (1 : Int))) (
          (∃ h9, Gh h5 h9 ∧ R8 true h9)) (
          (∃ h10, Gh h5 h10 ∧ R8 (decide (p0_n > (4 : Int))) h10))) ∧
      ∀ (_ : F) (x11 : Bool) (h12 : H), R8 x11 h12 →
      VRet h12 (Value.bool x11) post) (
      0 ≤ p0_n ∧ p0_n ≤ p0_n ∧ ((8 : Nat) : Int) * p0_n ≤ 140737488355328 ∧ p0_n ≤ 1000000000 ∧
      H.new h5 (repl (p0_n).toNat [(Value.int .i64 (0 : Int))]) fun r13 h14 =>
      ∃ R15 : SV → SV → SV → SV → H → Prop, (
        ∃ I16 : Nat → SV → SV → SV → SV → Int → H → Prop, (∃ n17, (∃ h19, Gh h14 h19 ∧ I16 n17 (SV.mk none 0 0) (SV.mk none 0 0) (SV.mk none 0 0) (SV.mk none 0 0) (0 : Int) h19)) ∧
        ∀ (n17 : Nat) (_ : F) (x20_adds : SV) (x21_got : SV) (x22_begun : SV) (x23_ended : SV) (x24_i : Int) (h25 : H), I16 n17 x20_adds x21_got x22_begun x23_ended x24_i h25 →
        f4_L6 p0_n p1_steps post x6 r13 R15 I16 n17 x20_adds x21_got x22_begun x23_ended x24_i h25) ∧
      ∀ (_ : F) (x127_adds : SV) (x128_got : SV) (x129_begun : SV) (x130_ended : SV) (h131 : H), R15 x127_adds x128_got x129_begun x130_ended h131 →
      f4_J13 post x6 x127_adds x128_got x129_begun x130_ended h131))

def f4_hint : Hint := (.node .leaf (.node .leaf (.node .leaf (.node .leaf (.node (.node .leaf (.node (.node (.join [(4, .bool)] .leaf) .leaf) .leaf)) (.node .leaf (.node .leaf (.node (.node .leaf (.join [(8, .sl), (9, .sl), (10, .sl), (11, .sl)] (.node (.loop [(8, .sl), (9, .sl), (10, .sl), (11, .sl), (13, .int)] (.node (.node (.join [(51, .bool)] .leaf) .leaf) (.node (.node (.node .leaf (.node (.node (.join [(71, .bool)] (.tail 11)) (.join [(8, .sl), (9, .sl), (10, .sl), (11, .sl)] .leaf)) (.node .leaf (.node (.node .leaf (.node (.join [(118, .bool)] .leaf) (.node (.node (.node (.join [(136, .bool)] .leaf) .leaf) .leaf) .leaf))) .leaf)))) .leaf) .leaf))) .leaf))) (.node .leaf (.node .leaf (.node (.node .leaf (.join [] (.node (.loop [(20, .int)] .leaf) .leaf))) (.node .leaf (.node (.node .leaf (.join [] (.node (.loop [(21, .int), (22, .int)] (.node .leaf (.node (.node (.node .leaf (.node (.node (.join [(191, .bool)] .leaf) .leaf) (.node .leaf (.node (.node (.join [(208, .bool)] .leaf) .leaf) .leaf)))) .leaf) .leaf))) .leaf))) (.node (.node .leaf (.join [] (.node (.loop [(24, .int)] (.node .leaf (.node (.join [] (.node (.node (.node (.join [(232, .bool)] .leaf) .leaf) (.node .leaf (.join [] (.node (.loop [(25, .int)] (.node .leaf (.node (.node (.node (.join [(265, .bool)] .leaf) .leaf) .leaf) .leaf))) .leaf)))) .leaf)) .leaf))) .leaf))) .leaf))))))))))))))

theorem f4_eq (p0_n : Int) (p1_steps : SV) (h0 : H) (post : Value → H → Prop) : exec Try.prog (bodyOf Try.f4) f4_hint (retQ Try.prog Try.f4 post) (F0 [(Value.int .i64 p0_n), (Value.slice p1_steps.a p1_steps.len p1_steps.cap)]) h0 = f4_sem p0_n p1_steps h0 post := by kernel_rfl

theorem f4_call (p0_n : Int) (p1_steps : SV) (h0 : H) (post : Value → H → Prop) (hx : f4_sem p0_n p1_steps h0 post) : SemCall Try.prog 4 (List.toArray [(Value.int .i64 p0_n), (Value.slice p1_steps.a p1_steps.len p1_steps.cap)]) h0 post :=
  sem_of_exec (g := f4_hint) mixed Try.func4 (bodyOf_eq (by kernel_rfl)) (by kernel_rfl) ((f4_eq p0_n p1_steps h0 post).mpr hx)

/- latchgarth/latchgarthlaw3.UnivGoes -/
def f5_J1 (p1_steps : SV) (x6 : Option Addr) (R13 : H → Prop) (I14 : Nat → Int → H → Prop) (n15 : Nat) (x18_i : Int) (x23 : Bool) (h24 : H) : Prop :=
  VIf x23 (
    ∃ b25 : Addr, p1_steps.a = some b25 ∧ 0 ≤ x18_i ∧ x18_i < ((p1_steps.len : Nat) : Int) ∧
    ∃ x26 : SV, H.rd h24 (Addr.add (Addr.add b25 ((x18_i).toNat * 1)) 0) (Value.slice x26.a x26.len x26.cap) ∧
    ∃ R27 : H → Prop, (
      VIf (((x26.len : Nat) : Int) == (2 : Int)) (
        ∃ b28 : Addr, x26.a = some b28 ∧ 0 ≤ (0 : Int) ∧ (0 : Int) < ((x26.len : Nat) : Int) ∧
        ∃ x29 : Int, H.rd h24 (Addr.add (Addr.add b28 (((0 : Int)).toNat * 1)) 0) (Value.int .i64 x29) ∧
        ∃ b30 : Addr, x26.a = some b30 ∧ 0 ≤ (1 : Int) ∧ (1 : Int) < ((x26.len : Nat) : Int) ∧
        ∃ x31 : Int, H.rd h24 (Addr.add (Addr.add b30 (((1 : Int)).toNat * 1)) 0) (Value.int .i64 x31) ∧
        SemCall Go.Proofs.Try.prog 16 (List.toArray [(Value.pointer x6), (Value.int .i64 x29), (Value.int .i64 x31)]) h24 fun v32 h33 =>
        ∃ x34 : Option (TypeId × Value), v32 = (errV x34) ∧
        (∃ h35, Gh h33 h35 ∧ R27 h35)) (
        (∃ h36, Gh h24 h36 ∧ R27 h36))) ∧
    ∀ (_ : F) (h37 : H), R27 h37 →
    VIf (((x26.len : Nat) : Int) == (1 : Int)) (
      ∃ b38 : Addr, x26.a = some b38 ∧ 0 ≤ (0 : Int) ∧ (0 : Int) < ((x26.len : Nat) : Int) ∧
      ∃ x39 : Int, H.rd h37 (Addr.add (Addr.add b38 (((0 : Int)).toNat * 1)) 0) (Value.int .i64 x39) ∧
      SemCall Go.Proofs.Try.prog 18 (List.toArray [(Value.pointer x6), (Value.int .i64 x39)]) h37 fun v40 h41 =>
      ∃ x42 : Bool, ∃ x43 : Int, ∃ x44 : Option (TypeId × Value), v40 = (Value.tuple (List.toArray [(Value.bool x42), (Value.int .i64 x43), (errV x44)])) ∧
      In64 (x18_i + (1 : Int)) ∧
      ∃ m16, m16 < n15 ∧ (∃ h45, Gh h41 h45 ∧ I14 m16 (x18_i + (1 : Int)) h45)) (
      In64 (x18_i + (1 : Int)) ∧
      ∃ m16, m16 < n15 ∧ (∃ h46, Gh h37 h46 ∧ I14 m16 (x18_i + (1 : Int)) h46))) (
    (∃ h47, Gh h24 h47 ∧ R13 h47))

def f5_L2 (p1_steps : SV) (x6 : Option Addr) (R13 : H → Prop) (I14 : Nat → Int → H → Prop) (n15 : Nat) (x18_i : Int) (h19 : H) : Prop :=
  ∃ R20 : Bool → H → Prop, (
    VIf (decide (x18_i < ((p1_steps.len : Nat) : Int))) (
      (∃ h21, Gh h19 h21 ∧ R20 (decide (x18_i < (150 : Int))) h21)) (
      (∃ h22, Gh h19 h22 ∧ R20 false h22))) ∧
  ∀ (_ : F) (x23 : Bool) (h24 : H), R20 x23 h24 →
  f5_J1 p1_steps x6 R13 I14 n15 x18_i x23 h24

def f5_L3 (p2_p : Int) (post : Value → H → Prop) (x6 : Option Addr) (R60 : H → Prop) (I61 : Nat → Int → H → Prop) (n62 : Nat) (x65_k : Int) (h66 : H) : Prop :=
  VIf (decide (x65_k < (80 : Int))) (
    SemCall Go.Proofs.Try.prog 18 (List.toArray [(Value.pointer x6), (Value.int .i64 p2_p)]) h66 fun v67 h68 =>
    ∃ x69 : Bool, ∃ x70 : Int, ∃ x71 : Option (TypeId × Value), v67 = (Value.tuple (List.toArray [(Value.bool x69), (Value.int .i64 x70), (errV x71)])) ∧
    isIfaceV (errV x71) = true ∧
    VIf (!(isNilV (errV x71))) (
      VRet h68 (Value.bool false) post) (
      VIf x69 (
        SemCall Go.Proofs.Try.prog 20 (List.toArray [(Value.pointer x6), (Value.int .i64 p2_p)]) h68 fun v72 h73 =>
        ∃ x74 : Int, v72 = (Value.int .i64 x74) ∧
        VRet h73 (Value.bool (x74 == (0 : Int))) post) (
        In64 (x65_k + (1 : Int)) ∧
        ∃ m63, m63 < n62 ∧ (∃ h75, Gh h68 h75 ∧ I61 m63 (x65_k + (1 : Int)) h75)))) (
    (∃ h76, Gh h66 h76 ∧ R60 h76))

def f5_J4 (p0_n : Int) (p2_p : Int) (post : Value → H → Prop) (x6 : Option Addr) (h48 : H) : Prop :=
  ∃ R49 : Bool → H → Prop, (
    In64 (p0_n - (1 : Int)) ∧
    SemCall Go.Proofs.Try.prog 17 (List.toArray [(Value.int .i64 p2_p), (Value.int .i64 (0 : Int)), (Value.int .i64 (p0_n - (1 : Int)))]) h48 fun v50 h51 =>
    ∃ x52 : Bool, v50 = (Value.bool x52) ∧
    VIf (!x52) (
      (∃ h53, Gh h51 h53 ∧ R49 true h53)) (
      SemCall Go.Proofs.Try.prog 20 (List.toArray [(Value.pointer x6), (Value.int .i64 p2_p)]) h51 fun v54 h55 =>
      ∃ x56 : Int, v54 = (Value.int .i64 x56) ∧
      (∃ h57, Gh h55 h57 ∧ R49 (x56 == (0 : Int)) h57))) ∧
  ∀ (_ : F) (x58 : Bool) (h59 : H), R49 x58 h59 →
  VIf x58 (
    VRet h59 (Value.bool true) post) (
    ∃ R60 : H → Prop, (
      ∃ I61 : Nat → Int → H → Prop, (∃ n62, (∃ h64, Gh h59 h64 ∧ I61 n62 (0 : Int) h64)) ∧
      ∀ (n62 : Nat) (_ : F) (x65_k : Int) (h66 : H), I61 n62 x65_k h66 →
      f5_L3 p2_p post x6 R60 I61 n62 x65_k h66) ∧
    ∀ (_ : F) (h77 : H), R60 h77 →
    VRet h77 (Value.bool false) post)

def f5_sem (p0_n : Int) (p1_steps : SV) (p2_p : Int) (h0 : H) (post : Value → H → Prop) : Prop :=
  SemCall Go.Proofs.Try.prog 14 (List.toArray []) h0 fun v1 h2 =>
  ∃ x3 : Bool, v1 = (Value.bool x3) ∧
  VIf (!x3) (
    VRet h2 (Value.bool false) post) (
    SemCall Go.Proofs.Try.prog 15 (List.toArray [(Value.int .i64 p0_n)]) h2 fun v4 h5 =>
    ∃ x6 : Option Addr, ∃ x7 : Option (TypeId × Value), v4 = (Value.tuple (List.toArray [(Value.pointer x6), (errV x7)])) ∧
    isIfaceV (errV x7) = true ∧
    VIf (!(isNilV (errV x7))) (
      ∃ R8 : Bool → H → Prop, (
        VIf (decide (p0_n < (1 : Int))) (
          (∃ h9, Gh h5 h9 ∧ R8 true h9)) (
          (∃ h10, Gh h5 h10 ∧ R8 (decide (p0_n > (4 : Int))) h10))) ∧
      ∀ (_ : F) (x11 : Bool) (h12 : H), R8 x11 h12 →
      VRet h12 (Value.bool x11) post) (
      ∃ R13 : H → Prop, (
        ∃ I14 : Nat → Int → H → Prop, (∃ n15, (∃ h17, Gh h5 h17 ∧ I14 n15 (0 : Int) h17)) ∧
        ∀ (n15 : Nat) (_ : F) (x18_i : Int) (h19 : H), I14 n15 x18_i h19 →
        f5_L2 p1_steps x6 R13 I14 n15 x18_i h19) ∧
      ∀ (_ : F) (h48 : H), R13 h48 →
      f5_J4 p0_n p2_p post x6 h48))

def f5_hint : Hint := (.node .leaf (.node .leaf (.node .leaf (.node .leaf (.node (.node .leaf (.node (.node (.join [(6, .bool)] .leaf) .leaf) .leaf)) (.node (.node .leaf (.join [] (.node (.loop [(10, .int)] (.node (.node (.join [(39, .bool)] .leaf) .leaf) (.node (.node (.node .leaf (.node (.node .leaf (.join [] (.node (.tail 7) .leaf))) .leaf)) .leaf) .leaf))) .leaf))) (.node (.node (.join [(75, .bool)] .leaf) .leaf) (.node (.node .leaf (.join [] (.node (.loop [(12, .int)] .leaf) .leaf))) .leaf))))))))

theorem f5_eq (p0_n : Int) (p1_steps : SV) (p2_p : Int) (h0 : H) (post : Value → H → Prop) : exec Try.prog (bodyOf Try.f5) f5_hint (retQ Try.prog Try.f5 post) (F0 [(Value.int .i64 p0_n), (Value.slice p1_steps.a p1_steps.len p1_steps.cap), (Value.int .i64 p2_p)]) h0 = f5_sem p0_n p1_steps p2_p h0 post := by kernel_rfl

theorem f5_call (p0_n : Int) (p1_steps : SV) (p2_p : Int) (h0 : H) (post : Value → H → Prop) (hx : f5_sem p0_n p1_steps p2_p h0 post) : SemCall Try.prog 5 (List.toArray [(Value.int .i64 p0_n), (Value.slice p1_steps.a p1_steps.len p1_steps.cap), (Value.int .i64 p2_p)]) h0 post :=
  sem_of_exec (g := f5_hint) mixed Try.func5 (bodyOf_eq (by kernel_rfl)) (by kernel_rfl) ((f5_eq p0_n p1_steps p2_p h0 post).mpr hx)

/- latchgarth/latchgarthlaw3.SnapRow -/
def f6_L1 (p0_n : Int) (post : Value → H → Prop) (r13 : Nat) (r21 : Nat) (x98 : Int) (x102 : SV) (R124 : H → Prop) (I125 : Nat → Int → H → Prop) (n126 : Nat) (x129_q : Int) (h130 : H) : Prop :=
  VIf (decide (x129_q < p0_n)) (
    ∃ R131 : Bool → H → Prop, (
      ∃ b132 : Addr, x102.a = some b132 ∧ 0 ≤ x129_q ∧ x129_q < ((x102.len : Nat) : Int) ∧
      ∃ x133 : Int, H.rd h130 (Addr.add (Addr.add b132 ((x129_q).toNat * 1)) 0) (Value.int .i64 x133) ∧
      ∃ b134 : Addr, (some (Addr.mk r21 0 none)) = some b134 ∧ 0 ≤ x98 ∧ x98 < (((p0_n).toNat : Nat) : Int) ∧
      ∃ x135 : SV, H.rd h130 (Addr.add (Addr.add b134 ((x98).toNat * 1)) 0) (Value.slice x135.a x135.len x135.cap) ∧
      ∃ b136 : Addr, x135.a = some b136 ∧ 0 ≤ x129_q ∧ x129_q < ((x135.len : Nat) : Int) ∧
      ∃ x137 : Int, H.rd h130 (Addr.add (Addr.add b136 ((x129_q).toNat * 1)) 0) (Value.int .i64 x137) ∧
      VIf (decide (x133 < x137)) (
        (∃ h138, Gh h130 h138 ∧ R131 true h138)) (
        ∃ b139 : Addr, x102.a = some b139 ∧ 0 ≤ x129_q ∧ x129_q < ((x102.len : Nat) : Int) ∧
        ∃ x140 : Int, H.rd h130 (Addr.add (Addr.add b139 ((x129_q).toNat * 1)) 0) (Value.int .i64 x140) ∧
        ∃ b141 : Addr, (some (Addr.mk r13 0 none)) = some b141 ∧ 0 ≤ x129_q ∧ x129_q < (((p0_n).toNat : Nat) : Int) ∧
        ∃ x142 : Int, H.rd h130 (Addr.add (Addr.add b141 ((x129_q).toNat * 1)) 0) (Value.int .i64 x142) ∧
        (∃ h143, Gh h130 h143 ∧ R131 (decide (x140 > x142)) h143))) ∧
    ∀ (_ : F) (x144 : Bool) (h145 : H), R131 x144 h145 →
    VIf x144 (
      VRet h145 (Value.bool false) post) (
      In64 (x129_q + (1 : Int)) ∧
      ∃ m127, m127 < n126 ∧ (∃ h146, Gh h145 h146 ∧ I125 m127 (x129_q + (1 : Int)) h146))) (
    (∃ h147, Gh h130 h147 ∧ R124 h147))

def f6_J2 (p0_n : Int) (post : Value → H → Prop) (r13 : Nat) (r19 : Nat) (r21 : Nat) (x28_looks : SV) (x29_from : SV) (x30_to : SV) (x31_i : Int) (R38 : SV → SV → SV → H → Prop) (x98 : Int) (x102 : SV) (x122 : Bool) (h123 : H) : Prop :=
  VIf x122 (
    VRet h123 (Value.bool false) post) (
    ∃ R124 : H → Prop, (
      ∃ I125 : Nat → Int → H → Prop, (∃ n126, (∃ h128, Gh h123 h128 ∧ I125 n126 (0 : Int) h128)) ∧
      ∀ (n126 : Nat) (_ : F) (x129_q : Int) (h130 : H), I125 n126 x129_q h130 →
      f6_L1 p0_n post r13 r21 x98 x102 R124 I125 n126 x129_q h130) ∧
    ∀ (_ : F) (h148 : H), R124 h148 →
    H.new h148 [(Value.slice x102.a x102.len x102.cap)] fun r149 h150 =>
    appVC Go.Proofs.Try.prog 36 (Value.slice x28_looks.a x28_looks.len x28_looks.cap) (Value.slice (some (Addr.mk r149 0 none)) 1 1) h150 fun x151 h152 =>
    ∃ b153 : Addr, (some (Addr.mk r19 0 none)) = some b153 ∧ 0 ≤ x98 ∧ x98 < (((p0_n).toNat : Nat) : Int) ∧
    ∃ x154 : Int, H.rd h152 (Addr.add (Addr.add b153 ((x98).toNat * 1)) 0) (Value.int .i64 x154) ∧
    H.new h152 [(Value.int .i64 x154)] fun r155 h156 =>
    appVC Go.Proofs.Try.prog 22 (Value.slice x29_from.a x29_from.len x29_from.cap) (Value.slice (some (Addr.mk r155 0 none)) 1 1) h156 fun x157 h158 =>
    H.new h158 [(Value.int .i64 x31_i)] fun r159 h160 =>
    appVC Go.Proofs.Try.prog 22 (Value.slice x30_to.a x30_to.len x30_to.cap) (Value.slice (some (Addr.mk r159 0 none)) 1 1) h160 fun x161 h162 =>
    (∃ h163, Gh h162 h163 ∧ R38 x151 x157 x161 h163))

def f6_J3 (p0_n : Int) (post : Value → H → Prop) (r13 : Nat) (r15 : Nat) (r17 : Nat) (r19 : Nat) (r21 : Nat) (x28_looks : SV) (x29_from : SV) (x30_to : SV) (x31_i : Int) (R38 : SV → SV → SV → H → Prop) (x98 : Int) (x102 : SV) (x107 : Bool) (h108 : H) : Prop :=
  VIf x107 (
    (∃ h109, Gh h108 h109 ∧ R38 x28_looks x29_from x30_to h109)) (
    ∃ b110 : Addr, (some (Addr.mk r17 0 none)) = some b110 ∧ 0 ≤ x98 ∧ x98 < (((p0_n).toNat : Nat) : Int) ∧
    ∃ x111 : Bool, H.rd h108 (Addr.add (Addr.add b110 ((x98).toNat * 1)) 0) (Value.bool x111) ∧
    VIf x111 (
      ∃ b112 : Addr, (some (Addr.mk r15 0 none)) = some b112 ∧ 0 ≤ x98 ∧ x98 < (((p0_n).toNat : Nat) : Int) ∧
      ∃ x113 : Int, H.rd h108 (Addr.add (Addr.add b112 ((x98).toNat * 1)) 0) (Value.int .i64 x113) ∧
      In64 (x113 + (1 : Int)) ∧
      ∃ b114 : Addr, (some (Addr.mk r15 0 none)) = some b114 ∧ 0 ≤ x98 ∧ x98 < (((p0_n).toNat : Nat) : Int) ∧
      H.wr h108 (Addr.add b114 ((x98).toNat * 1)) ([(Value.int .i64 (x113 + (1 : Int)))]) fun h115 =>
      (∃ h116, Gh h115 h116 ∧ R38 x28_looks x29_from x30_to h116)) (
      ∃ R117 : Bool → H → Prop, (
        VIf (((x102.len : Nat) : Int) != p0_n) (
          (∃ h118, Gh h108 h118 ∧ R117 true h118)) (
          ∃ b119 : Addr, (some (Addr.mk r21 0 none)) = some b119 ∧ 0 ≤ x98 ∧ x98 < (((p0_n).toNat : Nat) : Int) ∧
          ∃ x120 : SV, H.rd h108 (Addr.add (Addr.add b119 ((x98).toNat * 1)) 0) (Value.slice x120.a x120.len x120.cap) ∧
          (∃ h121, Gh h108 h121 ∧ R117 (((x120.len : Nat) : Int) != p0_n) h121))) ∧
      ∀ (_ : F) (x122 : Bool) (h123 : H), R117 x122 h123 →
      f6_J2 p0_n post r13 r19 r21 x28_looks x29_from x30_to x31_i R38 x98 x102 x122 h123))

def f6_J4 (p0_n : Int) (post : Value → H → Prop) (x6 : Option Addr) (r13 : Nat) (r15 : Nat) (r17 : Nat) (r19 : Nat) (r21 : Nat) (x28_looks : SV) (x29_from : SV) (x30_to : SV) (x31_i : Int) (R38 : SV → SV → SV → H → Prop) (x40 : SV) (x94 : Bool) (h95 : H) : Prop :=
  VIf x94 (
    (∃ h96, Gh h95 h96 ∧ R38 x28_looks x29_from x30_to h96)) (
    ∃ b97 : Addr, x40.a = some b97 ∧ 0 ≤ (0 : Int) ∧ (0 : Int) < ((x40.len : Nat) : Int) ∧
    ∃ x98 : Int, H.rd h95 (Addr.add (Addr.add b97 (((0 : Int)).toNat * 1)) 0) (Value.int .i64 x98) ∧
    SemCall Go.Proofs.Try.prog 25 (List.toArray [(Value.pointer x6), (Value.int .i64 x98)]) h95 fun v99 h100 =>
    ∃ x101 : Bool, ∃ x102 : SV, ∃ x103 : Option (TypeId × Value), v99 = (Value.tuple (List.toArray [(Value.bool x101), (Value.slice x102.a x102.len x102.cap), (errV x103)])) ∧
    ∃ R104 : Bool → H → Prop, (
      isIfaceV (errV x103) = true ∧
      VIf (!(isNilV (errV x103))) (
        (∃ h105, Gh h100 h105 ∧ R104 true h105)) (
        (∃ h106, Gh h100 h106 ∧ R104 (!x101) h106))) ∧
    ∀ (_ : F) (x107 : Bool) (h108 : H), R104 x107 h108 →
    f6_J3 p0_n post r13 r15 r17 r19 r21 x28_looks x29_from x30_to x31_i R38 x98 x102 x107 h108)

def f6_J5 (p0_n : Int) (post : Value → H → Prop) (x6 : Option Addr) (r13 : Nat) (r15 : Nat) (r17 : Nat) (r19 : Nat) (r21 : Nat) (x28_looks : SV) (x29_from : SV) (x30_to : SV) (x31_i : Int) (R38 : SV → SV → SV → H → Prop) (x40 : SV) (h85 : H) : Prop :=
  ∃ R86 : Bool → H → Prop, (
    VIf (((x40.len : Nat) : Int) != (1 : Int)) (
      (∃ h87, Gh h85 h87 ∧ R86 true h87)) (
      ∃ b88 : Addr, x40.a = some b88 ∧ 0 ≤ (0 : Int) ∧ (0 : Int) < ((x40.len : Nat) : Int) ∧
      ∃ x89 : Int, H.rd h85 (Addr.add (Addr.add b88 (((0 : Int)).toNat * 1)) 0) (Value.int .i64 x89) ∧
      In64 (p0_n - (1 : Int)) ∧
      SemCall Go.Proofs.Try.prog 17 (List.toArray [(Value.int .i64 x89), (Value.int .i64 (0 : Int)), (Value.int .i64 (p0_n - (1 : Int)))]) h85 fun v90 h91 =>
      ∃ x92 : Bool, v90 = (Value.bool x92) ∧
      (∃ h93, Gh h91 h93 ∧ R86 (!x92) h93))) ∧
  ∀ (_ : F) (x94 : Bool) (h95 : H), R86 x94 h95 →
  f6_J4 p0_n post x6 r13 r15 r17 r19 r21 x28_looks x29_from x30_to x31_i R38 x40 x94 h95

def f6_J6 (p0_n : Int) (post : Value → H → Prop) (x6 : Option Addr) (r13 : Nat) (r15 : Nat) (r17 : Nat) (r19 : Nat) (r21 : Nat) (x28_looks : SV) (x29_from : SV) (x30_to : SV) (x31_i : Int) (R38 : SV → SV → SV → H → Prop) (x40 : SV) (x49 : Bool) (h50 : H) : Prop :=
  ∃ R51 : H → Prop, (
    VIf x49 (
      ∃ b52 : Addr, x40.a = some b52 ∧ 0 ≤ (0 : Int) ∧ (0 : Int) < ((x40.len : Nat) : Int) ∧
      ∃ x53 : Int, H.rd h50 (Addr.add (Addr.add b52 (((0 : Int)).toNat * 1)) 0) (Value.int .i64 x53) ∧
      ∃ b54 : Addr, x40.a = some b54 ∧ 0 ≤ (1 : Int) ∧ (1 : Int) < ((x40.len : Nat) : Int) ∧
      ∃ x55 : Int, H.rd h50 (Addr.add (Addr.add b54 (((1 : Int)).toNat * 1)) 0) (Value.int .i64 x55) ∧
      VIf (decide (x55 ≥ (0 : Int))) (
        ∃ b56 : Addr, (some (Addr.mk r13 0 none)) = some b56 ∧ 0 ≤ x53 ∧ x53 < (((p0_n).toNat : Nat) : Int) ∧
        ∃ x57 : Int, H.rd h50 (Addr.add (Addr.add b56 ((x53).toNat * 1)) 0) (Value.int .i64 x57) ∧
        In64 (x57 + (1 : Int)) ∧
        SemCall Go.Proofs.Try.prog 23 (List.toArray [(Value.pointer x6), (Value.int .i64 x53), (Value.int .i64 (x57 + (1 : Int)))]) h50 fun v58 h59 =>
        ∃ x60 : Option (TypeId × Value), v58 = (errV x60) ∧
        isIfaceV (errV x60) = true ∧
        VIf (isNilV (errV x60)) (
          ∃ b61 : Addr, (some (Addr.mk r13 0 none)) = some b61 ∧ 0 ≤ x53 ∧ x53 < (((p0_n).toNat : Nat) : Int) ∧
          ∃ x62 : Int, H.rd h59 (Addr.add (Addr.add b61 ((x53).toNat * 1)) 0) (Value.int .i64 x62) ∧
          In64 (x62 + (1 : Int)) ∧
          ∃ b63 : Addr, (some (Addr.mk r13 0 none)) = some b63 ∧ 0 ≤ x53 ∧ x53 < (((p0_n).toNat : Nat) : Int) ∧
          H.wr h59 (Addr.add b63 ((x53).toNat * 1)) ([(Value.int .i64 (x62 + (1 : Int)))]) fun h64 =>
          ∃ b65 : Addr, (some (Addr.mk r17 0 none)) = some b65 ∧ 0 ≤ x53 ∧ x53 < (((p0_n).toNat : Nat) : Int) ∧
          H.wr h64 (Addr.add b65 ((x53).toNat * 1)) ([(Value.bool true)]) fun h66 =>
          (∃ h67, Gh h66 h67 ∧ R51 h67)) (
          (∃ h68, Gh h59 h68 ∧ R51 h68))) (
        SemCall Go.Proofs.Try.prog 24 (List.toArray [(Value.pointer x6), (Value.int .i64 x53)]) h50 fun v69 h70 =>
        ∃ x71 : Option (TypeId × Value), v69 = (errV x71) ∧
        isIfaceV (errV x71) = true ∧
        VIf (isNilV (errV x71)) (
          ∃ b72 : Addr, (some (Addr.mk r17 0 none)) = some b72 ∧ 0 ≤ x53 ∧ x53 < (((p0_n).toNat : Nat) : Int) ∧
          H.wr h70 (Addr.add b72 ((x53).toNat * 1)) ([(Value.bool false)]) fun h73 =>
          ∃ b74 : Addr, (some (Addr.mk r19 0 none)) = some b74 ∧ 0 ≤ x53 ∧ x53 < (((p0_n).toNat : Nat) : Int) ∧
          H.wr h73 (Addr.add b74 ((x53).toNat * 1)) ([(Value.int .i64 x31_i)]) fun h75 =>
          H.new h75 [] fun r76 h77 =>
          appVC Go.Proofs.Try.prog 22 (Value.slice (some (Addr.mk r76 0 none)) 0 0) (Value.slice (some (Addr.mk r15 0 none)) ((p0_n).toNat) ((p0_n).toNat)) h77 fun x78 h79 =>
          ∃ b80 : Addr, (some (Addr.mk r21 0 none)) = some b80 ∧ 0 ≤ x53 ∧ x53 < (((p0_n).toNat : Nat) : Int) ∧
          H.wr h79 (Addr.add b80 ((x53).toNat * 1)) ([(Value.slice x78.a x78.len x78.cap)]) fun h81 =>
          (∃ h82, Gh h81 h82 ∧ R51 h82)) (
          (∃ h83, Gh h70 h83 ∧ R51 h83)))) (
      (∃ h84, Gh h50 h84 ∧ R51 h84))) ∧
  ∀ (_ : F) (h85 : H), R51 h85 →
  f6_J5 p0_n post x6 r13 r15 r17 r19 r21 x28_looks x29_from x30_to x31_i R38 x40 h85

def f6_J7 (p0_n : Int) (p1_steps : SV) (post : Value → H → Prop) (x6 : Option Addr) (r13 : Nat) (r15 : Nat) (r17 : Nat) (r19 : Nat) (r21 : Nat) (R23 : SV → SV → SV → H → Prop) (I24 : Nat → SV → SV → SV → Int → H → Prop) (n25 : Nat) (x28_looks : SV) (x29_from : SV) (x30_to : SV) (x31_i : Int) (x36 : Bool) (h37 : H) : Prop :=
  VIf x36 (
    ∃ R38 : SV → SV → SV → H → Prop, (
      ∃ b39 : Addr, p1_steps.a = some b39 ∧ 0 ≤ x31_i ∧ x31_i < ((p1_steps.len : Nat) : Int) ∧
      ∃ x40 : SV, H.rd h37 (Addr.add (Addr.add b39 ((x31_i).toNat * 1)) 0) (Value.slice x40.a x40.len x40.cap) ∧
      ∃ R41 : Bool → H → Prop, (
        VIf (((x40.len : Nat) : Int) == (2 : Int)) (
          ∃ b42 : Addr, x40.a = some b42 ∧ 0 ≤ (0 : Int) ∧ (0 : Int) < ((x40.len : Nat) : Int) ∧
          ∃ x43 : Int, H.rd h37 (Addr.add (Addr.add b42 (((0 : Int)).toNat * 1)) 0) (Value.int .i64 x43) ∧
          In64 (p0_n - (1 : Int)) ∧
          SemCall Go.Proofs.Try.prog 17 (List.toArray [(Value.int .i64 x43), (Value.int .i64 (0 : Int)), (Value.int .i64 (p0_n - (1 : Int)))]) h37 fun v44 h45 =>
          ∃ x46 : Bool, v44 = (Value.bool x46) ∧
          (∃ h47, Gh h45 h47 ∧ R41 x46 h47)) (
          (∃ h48, Gh h37 h48 ∧ R41 false h48))) ∧
      ∀ (_ : F) (x49 : Bool) (h50 : H), R41 x49 h50 →
      f6_J6 p0_n post x6 r13 r15 r17 r19 r21 x28_looks x29_from x30_to x31_i R38 x40 x49 h50) ∧
    ∀ (_ : F) (x164_looks : SV) (x165_from : SV) (x166_to : SV) (h167 : H), R38 x164_looks x165_from x166_to h167 →
    In64 (x31_i + (1 : Int)) ∧
    ∃ m26, m26 < n25 ∧ (∃ h168, Gh h167 h168 ∧ I24 m26 x164_looks x165_from x166_to (x31_i + (1 : Int)) h168)) (
    (∃ h169, Gh h37 h169 ∧ R23 x28_looks x29_from x30_to h169))

def f6_L8 (p0_n : Int) (p1_steps : SV) (post : Value → H → Prop) (x6 : Option Addr) (r13 : Nat) (r15 : Nat) (r17 : Nat) (r19 : Nat) (r21 : Nat) (R23 : SV → SV → SV → H → Prop) (I24 : Nat → SV → SV → SV → Int → H → Prop) (n25 : Nat) (x28_looks : SV) (x29_from : SV) (x30_to : SV) (x31_i : Int) (h32 : H) : Prop :=
  ∃ R33 : Bool → H → Prop, (
    VIf (decide (x31_i < ((p1_steps.len : Nat) : Int))) (
      (∃ h34, Gh h32 h34 ∧ R33 (decide (x31_i < (300 : Int))) h34)) (
      (∃ h35, Gh h32 h35 ∧ R33 false h35))) ∧
  ∀ (_ : F) (x36 : Bool) (h37 : H), R33 x36 h37 →
  f6_J7 p0_n p1_steps post x6 r13 r15 r17 r19 r21 R23 I24 n25 x28_looks x29_from x30_to x31_i x36 h37

def f6_J9 (x170_looks : SV) (x179_x : Int) (x187_y : Int) (I191 : Nat → Bool → Bool → Int → H → Prop) (n192 : Nat) (x196_more : Bool) (x197_q : Int) (x210_less : Bool) (h211 : H) : Prop :=
  ∃ R212 : Bool → H → Prop, (
    VIf x196_more (
      (∃ h213, Gh h211 h213 ∧ R212 true h213)) (
      ∃ b214 : Addr, x170_looks.a = some b214 ∧ 0 ≤ x179_x ∧ x179_x < ((x170_looks.len : Nat) : Int) ∧
      ∃ x215 : SV, H.rd h211 (Addr.add (Addr.add b214 ((x179_x).toNat * 1)) 0) (Value.slice x215.a x215.len x215.cap) ∧
      ∃ b216 : Addr, x215.a = some b216 ∧ 0 ≤ x197_q ∧ x197_q < ((x215.len : Nat) : Int) ∧
      ∃ x217 : Int, H.rd h211 (Addr.add (Addr.add b216 ((x197_q).toNat * 1)) 0) (Value.int .i64 x217) ∧
      ∃ b218 : Addr, x170_looks.a = some b218 ∧ 0 ≤ x187_y ∧ x187_y < ((x170_looks.len : Nat) : Int) ∧
      ∃ x219 : SV, H.rd h211 (Addr.add (Addr.add b218 ((x187_y).toNat * 1)) 0) (Value.slice x219.a x219.len x219.cap) ∧
      ∃ b220 : Addr, x219.a = some b220 ∧ 0 ≤ x197_q ∧ x197_q < ((x219.len : Nat) : Int) ∧
      ∃ x221 : Int, H.rd h211 (Addr.add (Addr.add b220 ((x197_q).toNat * 1)) 0) (Value.int .i64 x221) ∧
      (∃ h222, Gh h211 h222 ∧ R212 (decide (x217 > x221)) h222))) ∧
  ∀ (_ : F) (x223_more : Bool) (h224 : H), R212 x223_more h224 →
  In64 (x197_q + (1 : Int)) ∧
  ∃ m193, m193 < n192 ∧ (∃ h225, Gh h224 h225 ∧ I191 m193 x210_less x223_more (x197_q + (1 : Int)) h225)

def f6_L10 (p0_n : Int) (x170_looks : SV) (x179_x : Int) (x187_y : Int) (R190 : Bool → Bool → H → Prop) (I191 : Nat → Bool → Bool → Int → H → Prop) (n192 : Nat) (x195_less : Bool) (x196_more : Bool) (x197_q : Int) (h198 : H) : Prop :=
  VIf (decide (x197_q < p0_n)) (
    ∃ R199 : Bool → H → Prop, (
      VIf x195_less (
        (∃ h200, Gh h198 h200 ∧ R199 true h200)) (
        ∃ b201 : Addr, x170_looks.a = some b201 ∧ 0 ≤ x179_x ∧ x179_x < ((x170_looks.len : Nat) : Int) ∧
        ∃ x202 : SV, H.rd h198 (Addr.add (Addr.add b201 ((x179_x).toNat * 1)) 0) (Value.slice x202.a x202.len x202.cap) ∧
        ∃ b203 : Addr, x202.a = some b203 ∧ 0 ≤ x197_q ∧ x197_q < ((x202.len : Nat) : Int) ∧
        ∃ x204 : Int, H.rd h198 (Addr.add (Addr.add b203 ((x197_q).toNat * 1)) 0) (Value.int .i64 x204) ∧
        ∃ b205 : Addr, x170_looks.a = some b205 ∧ 0 ≤ x187_y ∧ x187_y < ((x170_looks.len : Nat) : Int) ∧
        ∃ x206 : SV, H.rd h198 (Addr.add (Addr.add b205 ((x187_y).toNat * 1)) 0) (Value.slice x206.a x206.len x206.cap) ∧
        ∃ b207 : Addr, x206.a = some b207 ∧ 0 ≤ x197_q ∧ x197_q < ((x206.len : Nat) : Int) ∧
        ∃ x208 : Int, H.rd h198 (Addr.add (Addr.add b207 ((x197_q).toNat * 1)) 0) (Value.int .i64 x208) ∧
        (∃ h209, Gh h198 h209 ∧ R199 (decide (x204 < x208)) h209))) ∧
    ∀ (_ : F) (x210_less : Bool) (h211 : H), R199 x210_less h211 →
    f6_J9 x170_looks x179_x x187_y I191 n192 x196_more x197_q x210_less h211) (
    (∃ h226, Gh h198 h226 ∧ R190 x195_less x196_more h226))

def f6_J11 (post : Value → H → Prop) (x171_from : SV) (x172_to : SV) (x179_x : Int) (x187_y : Int) (R189 : H → Prop) (x227_less : Bool) (x228_more : Bool) (h229 : H) : Prop :=
  ∃ R230 : Bool → H → Prop, (
    VIf x227_less (
      VIf x228_more (
        (∃ h231, Gh h229 h231 ∧ R230 true h231)) (
        ∃ b232 : Addr, x172_to.a = some b232 ∧ 0 ≤ x179_x ∧ x179_x < ((x172_to.len : Nat) : Int) ∧
        ∃ x233 : Int, H.rd h229 (Addr.add (Addr.add b232 ((x179_x).toNat * 1)) 0) (Value.int .i64 x233) ∧
        ∃ b234 : Addr, x171_from.a = some b234 ∧ 0 ≤ x187_y ∧ x187_y < ((x171_from.len : Nat) : Int) ∧
        ∃ x235 : Int, H.rd h229 (Addr.add (Addr.add b234 ((x187_y).toNat * 1)) 0) (Value.int .i64 x235) ∧
        VIf (decide (x233 < x235)) (
          (∃ h236, Gh h229 h236 ∧ R230 x228_more h236)) (
          (∃ h237, Gh h229 h237 ∧ R230 false h237)))) (
      ∃ b238 : Addr, x172_to.a = some b238 ∧ 0 ≤ x179_x ∧ x179_x < ((x172_to.len : Nat) : Int) ∧
      ∃ x239 : Int, H.rd h229 (Addr.add (Addr.add b238 ((x179_x).toNat * 1)) 0) (Value.int .i64 x239) ∧
      ∃ b240 : Addr, x171_from.a = some b240 ∧ 0 ≤ x187_y ∧ x187_y < ((x171_from.len : Nat) : Int) ∧
      ∃ x241 : Int, H.rd h229 (Addr.add (Addr.add b240 ((x187_y).toNat * 1)) 0) (Value.int .i64 x241) ∧
      VIf (decide (x239 < x241)) (
        (∃ h242, Gh h229 h242 ∧ R230 x228_more h242)) (
        (∃ h243, Gh h229 h243 ∧ R230 false h243)))) ∧
  ∀ (_ : F) (x244 : Bool) (h245 : H), R230 x244 h245 →
  VIf x244 (
    VRet h245 (Value.bool false) post) (
    (∃ h246, Gh h245 h246 ∧ R189 h246))

def f6_L12 (p0_n : Int) (post : Value → H → Prop) (x170_looks : SV) (x171_from : SV) (x172_to : SV) (x179_x : Int) (R182 : H → Prop) (I183 : Nat → Int → H → Prop) (n184 : Nat) (x187_y : Int) (h188 : H) : Prop :=
  VIf (decide (x187_y < ((x170_looks.len : Nat) : Int))) (
    ∃ R189 : H → Prop, (
      ∃ R190 : Bool → Bool → H → Prop, (
        ∃ I191 : Nat → Bool → Bool → Int → H → Prop, (∃ n192, (∃ h194, Gh h188 h194 ∧ I191 n192 false false (0 : Int) h194)) ∧
        ∀ (n192 : Nat) (_ : F) (x195_less : Bool) (x196_more : Bool) (x197_q : Int) (h198 : H), I191 n192 x195_less x196_more x197_q h198 →
        f6_L10 p0_n x170_looks x179_x x187_y R190 I191 n192 x195_less x196_more x197_q h198) ∧
      ∀ (_ : F) (x227_less : Bool) (x228_more : Bool) (h229 : H), R190 x227_less x228_more h229 →
      f6_J11 post x171_from x172_to x179_x x187_y R189 x227_less x228_more h229) ∧
    ∀ (_ : F) (h247 : H), R189 h247 →
    In64 (x187_y + (1 : Int)) ∧
    ∃ m185, m185 < n184 ∧ (∃ h248, Gh h247 h248 ∧ I183 m185 (x187_y + (1 : Int)) h248)) (
    (∃ h249, Gh h188 h249 ∧ R182 h249))

def f6_L13 (p0_n : Int) (post : Value → H → Prop) (x170_looks : SV) (x171_from : SV) (x172_to : SV) (R174 : H → Prop) (I175 : Nat → Int → H → Prop) (n176 : Nat) (x179_x : Int) (h180 : H) : Prop :=
  VIf (decide (x179_x < ((x170_looks.len : Nat) : Int))) (
    ∃ R181 : H → Prop, (
      ∃ R182 : H → Prop, (
        ∃ I183 : Nat → Int → H → Prop, (∃ n184, (∃ h186, Gh h180 h186 ∧ I183 n184 (0 : Int) h186)) ∧
        ∀ (n184 : Nat) (_ : F) (x187_y : Int) (h188 : H), I183 n184 x187_y h188 →
        f6_L12 p0_n post x170_looks x171_from x172_to x179_x R182 I183 n184 x187_y h188) ∧
      ∀ (_ : F) (h250 : H), R182 h250 →
      (∃ h251, Gh h250 h251 ∧ R181 h251)) ∧
    ∀ (_ : F) (h252 : H), R181 h252 →
    In64 (x179_x + (1 : Int)) ∧
    ∃ m177, m177 < n176 ∧ (∃ h253, Gh h252 h253 ∧ I175 m177 (x179_x + (1 : Int)) h253)) (
    (∃ h254, Gh h180 h254 ∧ R174 h254))

def f6_sem (p0_n : Int) (p1_steps : SV) (h0 : H) (post : Value → H → Prop) : Prop :=
  SemCall Go.Proofs.Try.prog 21 (List.toArray []) h0 fun v1 h2 =>
  ∃ x3 : Bool, v1 = (Value.bool x3) ∧
  VIf (!x3) (
    VRet h2 (Value.bool false) post) (
    SemCall Go.Proofs.Try.prog 22 (List.toArray [(Value.int .i64 p0_n)]) h2 fun v4 h5 =>
    ∃ x6 : Option Addr, ∃ x7 : Option (TypeId × Value), v4 = (Value.tuple (List.toArray [(Value.pointer x6), (errV x7)])) ∧
    isIfaceV (errV x7) = true ∧
    VIf (!(isNilV (errV x7))) (
      ∃ R8 : Bool → H → Prop, (
        VIf (decide (p0_n < (1 : Int))) (
          (∃ h9, Gh h5 h9 ∧ R8 true h9)) (
          (∃ h10, Gh h5 h10 ∧ R8 (decide (p0_n > (4 : Int))) h10))) ∧
      ∀ (_ : F) (x11 : Bool) (h12 : H), R8 x11 h12 →
      VRet h12 (Value.bool x11) post) (
      0 ≤ p0_n ∧ p0_n ≤ p0_n ∧ ((8 : Nat) : Int) * p0_n ≤ 140737488355328 ∧ p0_n ≤ 1000000000 ∧
      H.new h5 (repl (p0_n).toNat [(Value.int .i64 (0 : Int))]) fun r13 h14 =>
      0 ≤ p0_n ∧ p0_n ≤ p0_n ∧ ((8 : Nat) : Int) * p0_n ≤ 140737488355328 ∧ p0_n ≤ 1000000000 ∧
      H.new h14 (repl (p0_n).toNat [(Value.int .i64 (0 : Int))]) fun r15 h16 =>
      0 ≤ p0_n ∧ p0_n ≤ p0_n ∧ ((1 : Nat) : Int) * p0_n ≤ 140737488355328 ∧ p0_n ≤ 1000000000 ∧
      H.new h16 (repl (p0_n).toNat [(Value.bool false)]) fun r17 h18 =>
      0 ≤ p0_n ∧ p0_n ≤ p0_n ∧ ((8 : Nat) : Int) * p0_n ≤ 140737488355328 ∧ p0_n ≤ 1000000000 ∧
      H.new h18 (repl (p0_n).toNat [(Value.int .i64 (0 : Int))]) fun r19 h20 =>
      0 ≤ p0_n ∧ p0_n ≤ p0_n ∧ ((24 : Nat) : Int) * p0_n ≤ 140737488355328 ∧ p0_n ≤ 1000000000 ∧
      H.new h20 (repl (p0_n).toNat [(Value.slice none 0 0)]) fun r21 h22 =>
      ∃ R23 : SV → SV → SV → H → Prop, (
        ∃ I24 : Nat → SV → SV → SV → Int → H → Prop, (∃ n25, (∃ h27, Gh h22 h27 ∧ I24 n25 (SV.mk none 0 0) (SV.mk none 0 0) (SV.mk none 0 0) (0 : Int) h27)) ∧
        ∀ (n25 : Nat) (_ : F) (x28_looks : SV) (x29_from : SV) (x30_to : SV) (x31_i : Int) (h32 : H), I24 n25 x28_looks x29_from x30_to x31_i h32 →
        f6_L8 p0_n p1_steps post x6 r13 r15 r17 r19 r21 R23 I24 n25 x28_looks x29_from x30_to x31_i h32) ∧
      ∀ (_ : F) (x170_looks : SV) (x171_from : SV) (x172_to : SV) (h173 : H), R23 x170_looks x171_from x172_to h173 →
      ∃ R174 : H → Prop, (
        ∃ I175 : Nat → Int → H → Prop, (∃ n176, (∃ h178, Gh h173 h178 ∧ I175 n176 (0 : Int) h178)) ∧
        ∀ (n176 : Nat) (_ : F) (x179_x : Int) (h180 : H), I175 n176 x179_x h180 →
        f6_L13 p0_n post x170_looks x171_from x172_to R174 I175 n176 x179_x h180) ∧
      ∀ (_ : F) (h255 : H), R174 h255 →
      VRet h255 (Value.bool true) post))

def f6_hint : Hint := (.node .leaf (.node .leaf (.node .leaf (.node .leaf (.node (.node .leaf (.node (.node (.join [(4, .bool)] .leaf) .leaf) .leaf)) (.node .leaf (.node .leaf (.node .leaf (.node .leaf (.node .leaf (.node .leaf (.node .leaf (.node (.node .leaf (.join [(13, .sl), (14, .sl), (15, .sl)] (.node (.loop [(13, .sl), (14, .sl), (15, .sl), (16, .int)] (.node (.node (.join [(62, .bool)] .leaf) .leaf) (.node (.join [(13, .sl), (14, .sl), (15, .sl)] (.node (.node .leaf (.node (.node (.join [(79, .bool)] .leaf) (.join [] .leaf)) (.node (.node (.join [(133, .bool)] .leaf) .leaf) (.node .leaf (.node .leaf (.node (.node (.join [(149, .bool)] .leaf) .leaf) (.node .leaf (.node (.node (.join [(172, .bool)] .leaf) .leaf) (.node (.node .leaf (.join [] (.node (.loop [(23, .int)] (.node .leaf (.node (.node (.node (.join [(200, .bool)] .leaf) .leaf) .leaf) .leaf))) .leaf))) .leaf))))))))) .leaf)) .leaf))) .leaf))) (.node (.node .leaf (.join [] (.node (.loop [(24, .int)] (.node .leaf (.node (.join [] (.node (.node .leaf (.join [] (.node (.loop [(25, .int)] (.node .leaf (.node (.join [] (.node (.node .leaf (.node .leaf (.node (.node .leaf (.join [(26, .bool), (27, .bool)] (.node (.loop [(26, .bool), (27, .bool), (28, .int)] (.node .leaf (.node (.node (.node (.join [(26, .bool)] .leaf) (.join [(27, .bool)] .leaf)) .leaf) .leaf))) .leaf))) (.node (.join [(286, .bool)] .leaf) .leaf)))) .leaf)) .leaf))) .leaf))) .leaf)) .leaf))) .leaf))) .leaf))))))))))))))

theorem f6_eq (p0_n : Int) (p1_steps : SV) (h0 : H) (post : Value → H → Prop) : exec Try.prog (bodyOf Try.f6) f6_hint (retQ Try.prog Try.f6 post) (F0 [(Value.int .i64 p0_n), (Value.slice p1_steps.a p1_steps.len p1_steps.cap)]) h0 = f6_sem p0_n p1_steps h0 post := by kernel_rfl

theorem f6_call (p0_n : Int) (p1_steps : SV) (h0 : H) (post : Value → H → Prop) (hx : f6_sem p0_n p1_steps h0 post) : SemCall Try.prog 6 (List.toArray [(Value.int .i64 p0_n), (Value.slice p1_steps.a p1_steps.len p1_steps.cap)]) h0 post :=
  sem_of_exec (g := f6_hint) mixed Try.func6 (bodyOf_eq (by kernel_rfl)) (by kernel_rfl) ((f6_eq p0_n p1_steps h0 post).mpr hx)

/- latchgarth/latchgarthlaw3.SnapGoes -/
def f7_J1 (p2_p : Int) (x18_mine : Int) (x27 : SV) (R28 : Int → H → Prop) (x48_was : Int) (h49 : H) : Prop :=
  ∃ R50 : Bool → H → Prop, (
    VIf (x48_was == (0 : Int)) (
      ∃ b51 : Addr, x27.a = some b51 ∧ 0 ≤ (0 : Int) ∧ (0 : Int) < ((x27.len : Nat) : Int) ∧
      ∃ x52 : Int, H.rd h49 (Addr.add (Addr.add b51 (((0 : Int)).toNat * 1)) 0) (Value.int .i64 x52) ∧
      (∃ h53, Gh h49 h53 ∧ R50 (x52 == p2_p) h53)) (
      (∃ h54, Gh h49 h54 ∧ R50 false h54))) ∧
  ∀ (_ : F) (x55 : Bool) (h56 : H), R50 x55 h56 →
  VIf x55 (
    (∃ h57, Gh h56 h57 ∧ R28 (0 : Int) h57)) (
    (∃ h58, Gh h56 h58 ∧ R28 x18_mine h58))

def f7_J2 (p0_n : Int) (post : Value → H → Prop) (I14 : Nat → Int → Int → H → Prop) (n15 : Nat) (x19_i : Int) (x60_mine : Int) (x67 : Bool) (x75 : Bool) (h76 : H) : Prop :=
  VIf x75 (
    In64 (x60_mine + (1 : Int)) ∧
    ∃ R77 : Bool → H → Prop, (
      In64 (p0_n + (2 : Int)) ∧
      In64 (p0_n * (p0_n + (2 : Int))) ∧
      In64 ((p0_n * (p0_n + (2 : Int))) + (1 : Int)) ∧
      VIf (decide ((x60_mine + (1 : Int)) > ((p0_n * (p0_n + (2 : Int))) + (1 : Int)))) (
        (∃ h78, Gh h76 h78 ∧ R77 true h78)) (
        In64 (p0_n + (2 : Int)) ∧
        In64 (p0_n * (p0_n + (2 : Int))) ∧
        In64 ((p0_n * (p0_n + (2 : Int))) + (1 : Int)) ∧
        VIf ((x60_mine + (1 : Int)) == ((p0_n * (p0_n + (2 : Int))) + (1 : Int))) (
          (∃ h79, Gh h76 h79 ∧ R77 (!x67) h79)) (
          (∃ h80, Gh h76 h80 ∧ R77 false h80)))) ∧
    ∀ (_ : F) (x81 : Bool) (h82 : H), R77 x81 h82 →
    VIf x81 (
      VRet h82 (Value.bool false) post) (
      In64 (x19_i + (1 : Int)) ∧
      ∃ m16, m16 < n15 ∧ (∃ h83, Gh h82 h83 ∧ I14 m16 (x60_mine + (1 : Int)) (x19_i + (1 : Int)) h83))) (
    In64 (x19_i + (1 : Int)) ∧
    ∃ m16, m16 < n15 ∧ (∃ h84, Gh h76 h84 ∧ I14 m16 x60_mine (x19_i + (1 : Int)) h84))

def f7_J3 (p0_n : Int) (p2_p : Int) (post : Value → H → Prop) (x6 : Option Addr) (I14 : Nat → Int → Int → H → Prop) (n15 : Nat) (x19_i : Int) (x27 : SV) (x60_mine : Int) (h61 : H) : Prop :=
  VIf (((x27.len : Nat) : Int) != (1 : Int)) (
    In64 (x19_i + (1 : Int)) ∧
    ∃ m16, m16 < n15 ∧ (∃ h62, Gh h61 h62 ∧ I14 m16 x60_mine (x19_i + (1 : Int)) h62)) (
    ∃ b63 : Addr, x27.a = some b63 ∧ 0 ≤ (0 : Int) ∧ (0 : Int) < ((x27.len : Nat) : Int) ∧
    ∃ x64 : Int, H.rd h61 (Addr.add (Addr.add b63 (((0 : Int)).toNat * 1)) 0) (Value.int .i64 x64) ∧
    SemCall Go.Proofs.Try.prog 25 (List.toArray [(Value.pointer x6), (Value.int .i64 x64)]) h61 fun v65 h66 =>
    ∃ x67 : Bool, ∃ x68 : SV, ∃ x69 : Option (TypeId × Value), v65 = (Value.tuple (List.toArray [(Value.bool x67), (Value.slice x68.a x68.len x68.cap), (errV x69)])) ∧
    ∃ R70 : Bool → H → Prop, (
      isIfaceV (errV x69) = true ∧
      VIf (isNilV (errV x69)) (
        ∃ b71 : Addr, x27.a = some b71 ∧ 0 ≤ (0 : Int) ∧ (0 : Int) < ((x27.len : Nat) : Int) ∧
        ∃ x72 : Int, H.rd h66 (Addr.add (Addr.add b71 (((0 : Int)).toNat * 1)) 0) (Value.int .i64 x72) ∧
        (∃ h73, Gh h66 h73 ∧ R70 (x72 == p2_p) h73)) (
        (∃ h74, Gh h66 h74 ∧ R70 false h74))) ∧
    ∀ (_ : F) (x75 : Bool) (h76 : H), R70 x75 h76 →
    f7_J2 p0_n post I14 n15 x19_i x60_mine x67 x75 h76)

def f7_J4 (p0_n : Int) (p1_steps : SV) (p2_p : Int) (post : Value → H → Prop) (x6 : Option Addr) (R13 : H → Prop) (I14 : Nat → Int → Int → H → Prop) (n15 : Nat) (x18_mine : Int) (x19_i : Int) (x24 : Bool) (h25 : H) : Prop :=
  VIf x24 (
    ∃ b26 : Addr, p1_steps.a = some b26 ∧ 0 ≤ x19_i ∧ x19_i < ((p1_steps.len : Nat) : Int) ∧
    ∃ x27 : SV, H.rd h25 (Addr.add (Addr.add b26 ((x19_i).toNat * 1)) 0) (Value.slice x27.a x27.len x27.cap) ∧
    ∃ R28 : Int → H → Prop, (
      VIf (((x27.len : Nat) : Int) == (2 : Int)) (
        ∃ b29 : Addr, x27.a = some b29 ∧ 0 ≤ (1 : Int) ∧ (1 : Int) < ((x27.len : Nat) : Int) ∧
        ∃ x30 : Int, H.rd h25 (Addr.add (Addr.add b29 (((1 : Int)).toNat * 1)) 0) (Value.int .i64 x30) ∧
        ∃ R31 : Int → H → Prop, (
          VIf (decide (x30 ≥ (0 : Int))) (
            ∃ b32 : Addr, x27.a = some b32 ∧ 0 ≤ (0 : Int) ∧ (0 : Int) < ((x27.len : Nat) : Int) ∧
            ∃ x33 : Int, H.rd h25 (Addr.add (Addr.add b32 (((0 : Int)).toNat * 1)) 0) (Value.int .i64 x33) ∧
            ∃ b34 : Addr, x27.a = some b34 ∧ 0 ≤ (1 : Int) ∧ (1 : Int) < ((x27.len : Nat) : Int) ∧
            ∃ x35 : Int, H.rd h25 (Addr.add (Addr.add b34 (((1 : Int)).toNat * 1)) 0) (Value.int .i64 x35) ∧
            SemCall Go.Proofs.Try.prog 23 (List.toArray [(Value.pointer x6), (Value.int .i64 x33), (Value.int .i64 x35)]) h25 fun v36 h37 =>
            ∃ x38 : Option (TypeId × Value), v36 = (errV x38) ∧
            isIfaceV (errV x38) = true ∧
            VIf (!(isNilV (errV x38))) (
              (∃ h39, Gh h37 h39 ∧ R31 (1 : Int) h39)) (
              (∃ h40, Gh h37 h40 ∧ R31 (0 : Int) h40))) (
            ∃ b41 : Addr, x27.a = some b41 ∧ 0 ≤ (0 : Int) ∧ (0 : Int) < ((x27.len : Nat) : Int) ∧
            ∃ x42 : Int, H.rd h25 (Addr.add (Addr.add b41 (((0 : Int)).toNat * 1)) 0) (Value.int .i64 x42) ∧
            SemCall Go.Proofs.Try.prog 24 (List.toArray [(Value.pointer x6), (Value.int .i64 x42)]) h25 fun v43 h44 =>
            ∃ x45 : Option (TypeId × Value), v43 = (errV x45) ∧
            isIfaceV (errV x45) = true ∧
            VIf (!(isNilV (errV x45))) (
              (∃ h46, Gh h44 h46 ∧ R31 (1 : Int) h46)) (
              (∃ h47, Gh h44 h47 ∧ R31 (0 : Int) h47)))) ∧
        ∀ (_ : F) (x48_was : Int) (h49 : H), R31 x48_was h49 →
        f7_J1 p2_p x18_mine x27 R28 x48_was h49) (
        (∃ h59, Gh h25 h59 ∧ R28 x18_mine h59))) ∧
    ∀ (_ : F) (x60_mine : Int) (h61 : H), R28 x60_mine h61 →
    f7_J3 p0_n p2_p post x6 I14 n15 x19_i x27 x60_mine h61) (
    (∃ h85, Gh h25 h85 ∧ R13 h85))

def f7_L5 (p0_n : Int) (p1_steps : SV) (p2_p : Int) (post : Value → H → Prop) (x6 : Option Addr) (R13 : H → Prop) (I14 : Nat → Int → Int → H → Prop) (n15 : Nat) (x18_mine : Int) (x19_i : Int) (h20 : H) : Prop :=
  ∃ R21 : Bool → H → Prop, (
    VIf (decide (x19_i < ((p1_steps.len : Nat) : Int))) (
      (∃ h22, Gh h20 h22 ∧ R21 (decide (x19_i < (300 : Int))) h22)) (
      (∃ h23, Gh h20 h23 ∧ R21 false h23))) ∧
  ∀ (_ : F) (x24 : Bool) (h25 : H), R21 x24 h25 →
  f7_J4 p0_n p1_steps p2_p post x6 R13 I14 n15 x18_mine x19_i x24 h25

def f7_sem (p0_n : Int) (p1_steps : SV) (p2_p : Int) (h0 : H) (post : Value → H → Prop) : Prop :=
  SemCall Go.Proofs.Try.prog 21 (List.toArray []) h0 fun v1 h2 =>
  ∃ x3 : Bool, v1 = (Value.bool x3) ∧
  VIf (!x3) (
    VRet h2 (Value.bool false) post) (
    SemCall Go.Proofs.Try.prog 22 (List.toArray [(Value.int .i64 p0_n)]) h2 fun v4 h5 =>
    ∃ x6 : Option Addr, ∃ x7 : Option (TypeId × Value), v4 = (Value.tuple (List.toArray [(Value.pointer x6), (errV x7)])) ∧
    isIfaceV (errV x7) = true ∧
    VIf (!(isNilV (errV x7))) (
      ∃ R8 : Bool → H → Prop, (
        VIf (decide (p0_n < (1 : Int))) (
          (∃ h9, Gh h5 h9 ∧ R8 true h9)) (
          (∃ h10, Gh h5 h10 ∧ R8 (decide (p0_n > (4 : Int))) h10))) ∧
      ∀ (_ : F) (x11 : Bool) (h12 : H), R8 x11 h12 →
      VRet h12 (Value.bool x11) post) (
      ∃ R13 : H → Prop, (
        ∃ I14 : Nat → Int → Int → H → Prop, (∃ n15, (∃ h17, Gh h5 h17 ∧ I14 n15 (0 : Int) (0 : Int) h17)) ∧
        ∀ (n15 : Nat) (_ : F) (x18_mine : Int) (x19_i : Int) (h20 : H), I14 n15 x18_mine x19_i h20 →
        f7_L5 p0_n p1_steps p2_p post x6 R13 I14 n15 x18_mine x19_i h20) ∧
      ∀ (_ : F) (h86 : H), R13 h86 →
      VRet h86 (Value.bool true) post))

def f7_hint : Hint := (.node .leaf (.node .leaf (.node .leaf (.node .leaf (.node (.node .leaf (.node (.node (.join [(6, .bool)] .leaf) .leaf) .leaf)) (.node .leaf (.node (.node .leaf (.join [] (.node (.loop [(10, .int), (11, .int)] (.node (.node (.join [(40, .bool)] .leaf) .leaf) (.node (.node (.node .leaf (.node (.node .leaf (.join [(10, .int)] (.node (.node .leaf (.node (.node .leaf (.join [(13, .int)] (.node (.node (.tail 7) .leaf) .leaf))) (.node (.join [(77, .bool)] .leaf) .leaf))) .leaf))) (.node .leaf (.node .leaf (.node (.join [(98, .bool)] .leaf) (.node (.node .leaf (.node (.join [(120, .bool)] .leaf) .leaf)) .leaf)))))) .leaf) .leaf))) .leaf))) .leaf)))))))

theorem f7_eq (p0_n : Int) (p1_steps : SV) (p2_p : Int) (h0 : H) (post : Value → H → Prop) : exec Try.prog (bodyOf Try.f7) f7_hint (retQ Try.prog Try.f7 post) (F0 [(Value.int .i64 p0_n), (Value.slice p1_steps.a p1_steps.len p1_steps.cap), (Value.int .i64 p2_p)]) h0 = f7_sem p0_n p1_steps p2_p h0 post := by kernel_rfl

theorem f7_call (p0_n : Int) (p1_steps : SV) (p2_p : Int) (h0 : H) (post : Value → H → Prop) (hx : f7_sem p0_n p1_steps p2_p h0 post) : SemCall Try.prog 7 (List.toArray [(Value.int .i64 p0_n), (Value.slice p1_steps.a p1_steps.len p1_steps.cap), (Value.int .i64 p2_p)]) h0 post :=
  sem_of_exec (g := f7_hint) mixed Try.func7 (bodyOf_eq (by kernel_rfl)) (by kernel_rfl) ((f7_eq p0_n p1_steps p2_p h0 post).mpr hx)

/- latchgarth/latchgarthlaw3.ringFact -/
def f8_J1 (post : Value → H → Prop) (x3 : Option Addr) (x11 : Bool) (h12 : H) : Prop :=
  VIf x11 (
    VRet h12 (Value.bool false) post) (
    SemCall Go.Proofs.Try.prog 12 (List.toArray [(Value.pointer x3)]) h12 fun v13 h14 =>
    ∃ x15 : Bool, ∃ x16 : Bool, ∃ x17 : Option (TypeId × Value), v13 = (Value.tuple (List.toArray [(Value.bool x15), (Value.bool x16), (errV x17)])) ∧
    SemCall Go.Proofs.Try.prog 12 (List.toArray [(Value.pointer x3)]) h14 fun v18 h19 =>
    ∃ x20 : Bool, ∃ x21 : Bool, ∃ x22 : Option (TypeId × Value), v18 = (Value.tuple (List.toArray [(Value.bool x20), (Value.bool x21), (errV x22)])) ∧
    SemCall Go.Proofs.Try.prog 12 (List.toArray [(Value.pointer x3)]) h19 fun v23 h24 =>
    ∃ x25 : Bool, ∃ x26 : Bool, ∃ x27 : Option (TypeId × Value), v23 = (Value.tuple (List.toArray [(Value.bool x25), (Value.bool x26), (errV x27)])) ∧
    ∃ R28 : Bool → H → Prop, (
      VIf (!x15) (
        VIf (!x20) (
          VIf x25 (
            VIf x26 (
              isIfaceV (errV x27) = true ∧
              VIf (isNilV (errV x27)) (
                SemCall Go.Proofs.Try.prog 10 (List.toArray [(Value.pointer x3)]) h24 fun v29 h30 =>
                ∃ x31 : Option (TypeId × Value), v29 = (errV x31) ∧
                isIfaceV (errV x31) = true ∧
                VIf (isNilV (errV x31)) (
                SemCall Go.Proofs.Try.prog 27 (List.toArray [(Value.pointer x3)]) h30 fun v32 h33 =>
                ∃ x34 : SV, v32 = (Value.slice x34.a x34.len x34.cap) ∧
                H.new h33 [(Value.int .i64 (4 : Int))] fun r35 h36 =>
                SemCall Go.Proofs.Try.prog 26 (List.toArray [(Value.slice x34.a x34.len x34.cap), (Value.slice (some (Addr.mk r35 0 none)) 1 1)]) h36 fun v37 h38 =>
                ∃ x39 : Bool, v37 = (Value.bool x39) ∧
                (∃ h40, Gh h38 h40 ∧ R28 x39 h40)) (
                (∃ h41, Gh h30 h41 ∧ R28 false h41))) (
                (∃ h42, Gh h24 h42 ∧ R28 false h42))) (
              (∃ h43, Gh h24 h43 ∧ R28 false h43))) (
            (∃ h44, Gh h24 h44 ∧ R28 false h44))) (
          (∃ h45, Gh h24 h45 ∧ R28 false h45))) (
        (∃ h46, Gh h24 h46 ∧ R28 false h46))) ∧
    ∀ (_ : F) (x47 : Bool) (h48 : H), R28 x47 h48 →
    VRet h48 (Value.bool x47) post)

def f8_sem (h0 : H) (post : Value → H → Prop) : Prop :=
  SemCall Go.Proofs.Try.prog 9 (List.toArray [(Value.int .i64 (1 : Int))]) h0 fun v1 h2 =>
  ∃ x3 : Option Addr, ∃ x4 : Option (TypeId × Value), v1 = (Value.tuple (List.toArray [(Value.pointer x3), (errV x4)])) ∧
  ∃ R5 : Bool → H → Prop, (
    isIfaceV (errV x4) = true ∧
    VIf (!(isNilV (errV x4))) (
      (∃ h6, Gh h2 h6 ∧ R5 true h6)) (
      SemCall Go.Proofs.Try.prog 11 (List.toArray [(Value.pointer x3), (Value.int .i64 (4 : Int))]) h2 fun v7 h8 =>
      ∃ x9 : Option (TypeId × Value), v7 = (errV x9) ∧
      isIfaceV (errV x9) = true ∧
      (∃ h10, Gh h8 h10 ∧ R5 (!(isNilV (errV x9))) h10))) ∧
  ∀ (_ : F) (x11 : Bool) (h12 : H), R5 x11 h12 →
  f8_J1 post x3 x11 h12

def f8_hint : Hint := (.node .leaf (.node .leaf (.node (.node (.join [(22, .bool)] .leaf) .leaf) (.node .leaf (.node .leaf (.node .leaf (.node (.join [(0, .bool)] .leaf) .leaf)))))))

theorem f8_eq (h0 : H) (post : Value → H → Prop) : exec Try.prog (bodyOf Try.f8) f8_hint (retQ Try.prog Try.f8 post) (F0 []) h0 = f8_sem h0 post := by kernel_rfl

theorem f8_call (h0 : H) (post : Value → H → Prop) (hx : f8_sem h0 post) : SemCall Try.prog 8 (List.toArray []) h0 post :=
  sem_of_exec (g := f8_hint) mixed Try.func8 (bodyOf_eq (by kernel_rfl)) (by kernel_rfl) ((f8_eq h0 post).mpr hx)

/- latchgarth/ring.New -/
def f9_sem (p0_size : Int) (h0 : H) (post : Value → H → Prop) : Prop :=
  SemCall Go.Proofs.Try.prog 28 (List.toArray [(Value.int .i64 p0_size), (Value.int .i64 (1 : Int)), (Value.int .i64 (8 : Int))]) h0 fun v1 h2 =>
  ∃ x3 : Bool, v1 = (Value.bool x3) ∧
  VIf (!x3) (
    VRet h2 (Value.tuple (List.toArray [(Value.pointer none), (Value.iface 54 (Value.int .i64 (1 : Int)))])) post) (
    0 ≤ p0_size ∧ p0_size ≤ p0_size ∧ ((8 : Nat) : Int) * p0_size ≤ 140737488355328 ∧ p0_size ≤ 1000000000 ∧
    H.new h2 (repl (p0_size).toNat [(Value.int .i64 (0 : Int))]) fun r4 h5 =>
    H.new h5 [(Value.slice (some (Addr.mk r4 0 none)) ((p0_size).toNat) ((p0_size).toNat)), (Value.int .i64 (0 : Int)), (Value.int .i64 (0 : Int)), (Value.int .i64 (0 : Int)), (Value.int .i64 (0 : Int)), (Value.int .i64 (0 : Int)), (Value.int .i64 (0 : Int))] fun r6 h7 =>
    VRet h7 (Value.tuple (List.toArray [(Value.pointer (some (Addr.mk r6 0 none))), Value.nilIface])) post)

def f9_hint : Hint := .leaf

theorem f9_eq (p0_size : Int) (h0 : H) (post : Value → H → Prop) : exec Try.prog (bodyOf Try.f9) f9_hint (retQ Try.prog Try.f9 post) (F0 [(Value.int .i64 p0_size)]) h0 = f9_sem p0_size h0 post := by kernel_rfl

theorem f9_call (p0_size : Int) (h0 : H) (post : Value → H → Prop) (hx : f9_sem p0_size h0 post) : SemCall Try.prog 9 (List.toArray [(Value.int .i64 p0_size)]) h0 post :=
  sem_of_exec (g := f9_hint) mixed Try.func9 (bodyOf_eq (by kernel_rfl)) (by kernel_rfl) ((f9_eq p0_size h0 post).mpr hx)

/- (*latchgarth/ring.Ring).Get -/
def f10_sem (p0_r : Option Addr) (h0 : H) (post : Value → H → Prop) : Prop :=
  ∃ a1 : Addr, p0_r = some a1 ∧
  ∃ x2 : Int, H.rd h0 (Addr.add (Addr.add (Addr.add a1 5) 0) 0) (Value.int .i64 x2) ∧
  VIf (x2 != (0 : Int)) (
    VRet h0 (Value.iface 54 (Value.int .i64 (7 : Int))) post) (
    ∃ a3 : Addr, p0_r = some a3 ∧
    ([(Value.int .i64 (4 : Int)), (Value.int .i64 (0 : Int))]).length = 2 ∧ (Program.underlying Go.Proofs.Try.prog 56).isSome = true ∧
    H.wr h0 (Addr.add a3 5) ([(Value.int .i64 (4 : Int)), (Value.int .i64 (0 : Int))]) fun h4 =>
    VRet h4 Value.nilIface post)

def f10_hint : Hint := .leaf

theorem f10_eq (p0_r : Option Addr) (h0 : H) (post : Value → H → Prop) : exec Try.prog (bodyOf Try.f10) f10_hint (retQ Try.prog Try.f10 post) (F0 [(Value.pointer p0_r)]) h0 = f10_sem p0_r h0 post := by kernel_rfl

theorem f10_call (p0_r : Option Addr) (h0 : H) (post : Value → H → Prop) (hx : f10_sem p0_r h0 post) : SemCall Try.prog 10 (List.toArray [(Value.pointer p0_r)]) h0 post :=
  sem_of_exec (g := f10_hint) mixed Try.func10 (bodyOf_eq (by kernel_rfl)) (by kernel_rfl) ((f10_eq p0_r h0 post).mpr hx)

/- (*latchgarth/ring.Ring).Put -/
def f11_sem (p0_r : Option Addr) (p1_value : Int) (h0 : H) (post : Value → H → Prop) : Prop :=
  SemCall Go.Proofs.Try.prog 28 (List.toArray [(Value.int .i64 p1_value), (Value.int .i64 (0 : Int)), (Value.int .i64 (1000 : Int))]) h0 fun v1 h2 =>
  ∃ x3 : Bool, v1 = (Value.bool x3) ∧
  VIf (!x3) (
    VRet h2 (Value.iface 54 (Value.int .i64 (1 : Int))) post) (
    ∃ a4 : Addr, p0_r = some a4 ∧
    ∃ x5 : Int, H.rd h2 (Addr.add (Addr.add (Addr.add a4 3) 0) 0) (Value.int .i64 x5) ∧
    VIf (x5 != (0 : Int)) (
      VRet h2 (Value.iface 54 (Value.int .i64 (7 : Int))) post) (
      ∃ a6 : Addr, p0_r = some a6 ∧
      ([(Value.int .i64 (1 : Int)), (Value.int .i64 p1_value)]).length = 2 ∧ (Program.underlying Go.Proofs.Try.prog 56).isSome = true ∧
      H.wr h2 (Addr.add a6 3) ([(Value.int .i64 (1 : Int)), (Value.int .i64 p1_value)]) fun h7 =>
      VRet h7 Value.nilIface post))

def f11_hint : Hint := .leaf

theorem f11_eq (p0_r : Option Addr) (p1_value : Int) (h0 : H) (post : Value → H → Prop) : exec Try.prog (bodyOf Try.f11) f11_hint (retQ Try.prog Try.f11 post) (F0 [(Value.pointer p0_r), (Value.int .i64 p1_value)]) h0 = f11_sem p0_r p1_value h0 post := by kernel_rfl

theorem f11_call (p0_r : Option Addr) (p1_value : Int) (h0 : H) (post : Value → H → Prop) (hx : f11_sem p0_r p1_value h0 post) : SemCall Try.prog 11 (List.toArray [(Value.pointer p0_r), (Value.int .i64 p1_value)]) h0 post :=
  sem_of_exec (g := f11_hint) mixed Try.func11 (bodyOf_eq (by kernel_rfl)) (by kernel_rfl) ((f11_eq p0_r p1_value h0 post).mpr hx)

/- (*latchgarth/ring.Ring).StepPut -/
def f12_sem (p0_r : Option Addr) (h0 : H) (post : Value → H → Prop) : Prop :=
  ∃ a1 : Addr, p0_r = some a1 ∧
  ∃ x2 : Int, H.rd h0 (Addr.add (Addr.add (Addr.add a1 3) 0) 0) (Value.int .i64 x2) ∧
  VIf (x2 == (0 : Int)) (
    VRet h0 (Value.tuple (List.toArray [(Value.bool false), (Value.bool false), (Value.iface 54 (Value.int .i64 (7 : Int)))])) post) (
    ∃ R3 : H → Prop, (
      VIf (x2 == (1 : Int)) (
        ∃ a4 : Addr, p0_r = some a4 ∧
        ∃ x5 : Int, H.rd h0 (Addr.add (Addr.add a4 2) 0) (Value.int .i64 x5) ∧
        ∃ a6 : Addr, p0_r = some a6 ∧
        ∃ x7 : Int, H.rd h0 (Addr.add (Addr.add a6 1) 0) (Value.int .i64 x7) ∧
        In64 (x5 - x7) ∧
        ∃ a8 : Addr, p0_r = some a8 ∧
        ∃ x9 : SV, H.rd h0 (Addr.add (Addr.add a8 0) 0) (Value.slice x9.a x9.len x9.cap) ∧
        VIf ((x5 - x7) == ((x9.len : Nat) : Int)) (
          ∃ a10 : Addr, p0_r = some a10 ∧
          ([(Value.int .i64 (0 : Int)), (Value.int .i64 (0 : Int))]).length = 2 ∧ (Program.underlying Go.Proofs.Try.prog 56).isSome = true ∧
          H.wr h0 (Addr.add a10 3) ([(Value.int .i64 (0 : Int)), (Value.int .i64 (0 : Int))]) fun h11 =>
          VRet h11 (Value.tuple (List.toArray [(Value.bool true), (Value.bool false), Value.nilIface])) post) (
          (∃ h12, Gh h0 h12 ∧ R3 h12))) (
        VIf (x2 == (2 : Int)) (
          ∃ a13 : Addr, p0_r = some a13 ∧
          ∃ x14 : SV, H.rd h0 (Addr.add (Addr.add a13 0) 0) (Value.slice x14.a x14.len x14.cap) ∧
          ∃ a15 : Addr, p0_r = some a15 ∧
          ∃ x16 : Int, H.rd h0 (Addr.add (Addr.add a15 2) 0) (Value.int .i64 x16) ∧
          ∃ a17 : Addr, p0_r = some a17 ∧
          ∃ x18 : SV, H.rd h0 (Addr.add (Addr.add a17 0) 0) (Value.slice x18.a x18.len x18.cap) ∧
          ((x18.len : Nat) : Int) ≠ 0 ∧
          ∃ a19 : Addr, p0_r = some a19 ∧
          ∃ x20 : Int, H.rd h0 (Addr.add (Addr.add (Addr.add a19 3) 1) 0) (Value.int .i64 x20) ∧
          ∃ b21 : Addr, x14.a = some b21 ∧ 0 ≤ (Int.tmod x16 ((x18.len : Nat) : Int)) ∧ (Int.tmod x16 ((x18.len : Nat) : Int)) < ((x14.len : Nat) : Int) ∧
          H.wr h0 (Addr.add b21 (((Int.tmod x16 ((x18.len : Nat) : Int))).toNat * 1)) ([(Value.int .i64 x20)]) fun h22 =>
          (∃ h23, Gh h22 h23 ∧ R3 h23)) (
          VIf (x2 == (3 : Int)) (
            ∃ a24 : Addr, p0_r = some a24 ∧
            ∃ x25 : Int, H.rd h0 (Addr.add (Addr.add a24 2) 0) (Value.int .i64 x25) ∧
            In64 (x25 + (1 : Int)) ∧
            ∃ a26 : Addr, p0_r = some a26 ∧
            H.wr h0 (Addr.add a26 2) ([(Value.int .i64 (x25 + (1 : Int)))]) fun h27 =>
            ∃ a28 : Addr, p0_r = some a28 ∧
            ([(Value.int .i64 (0 : Int)), (Value.int .i64 (0 : Int))]).length = 2 ∧ (Program.underlying Go.Proofs.Try.prog 56).isSome = true ∧
            H.wr h27 (Addr.add a28 3) ([(Value.int .i64 (0 : Int)), (Value.int .i64 (0 : Int))]) fun h29 =>
            VRet h29 (Value.tuple (List.toArray [(Value.bool true), (Value.bool true), Value.nilIface])) post) (
            (∃ h30, Gh h0 h30 ∧ R3 h30))))) ∧
    ∀ (_ : F) (h31 : H), R3 h31 →
    ∃ a32 : Addr, p0_r = some a32 ∧
    ∃ x33 : Int, H.rd h31 (Addr.add (Addr.add (Addr.add a32 3) 0) 0) (Value.int .i64 x33) ∧
    In64 (x33 + (1 : Int)) ∧
    ∃ a34 : Addr, p0_r = some a34 ∧
    H.wr h31 (Addr.add (Addr.add a34 3) 0) ([(Value.int .i64 (x33 + (1 : Int)))]) fun h35 =>
    VRet h35 (Value.tuple (List.toArray [(Value.bool false), (Value.bool false), Value.nilIface])) post)

def f12_hint : Hint := (.node .leaf (.node (.node .leaf (.node (.node .leaf (.node .leaf (.node .leaf (.join [] (.node .leaf (.node .leaf (.node (.tail 20) .leaf))))))) .leaf)) .leaf))

theorem f12_eq (p0_r : Option Addr) (h0 : H) (post : Value → H → Prop) : exec Try.prog (bodyOf Try.f12) f12_hint (retQ Try.prog Try.f12 post) (F0 [(Value.pointer p0_r)]) h0 = f12_sem p0_r h0 post := by kernel_rfl

theorem f12_call (p0_r : Option Addr) (h0 : H) (post : Value → H → Prop) (hx : f12_sem p0_r h0 post) : SemCall Try.prog 12 (List.toArray [(Value.pointer p0_r)]) h0 post :=
  sem_of_exec (g := f12_hint) mixed Try.func12 (bodyOf_eq (by kernel_rfl)) (by kernel_rfl) ((f12_eq p0_r h0 post).mpr hx)

/- (*latchgarth/ring.Ring).StepGet -/
def f13_sem (p0_r : Option Addr) (h0 : H) (post : Value → H → Prop) : Prop :=
  ∃ a1 : Addr, p0_r = some a1 ∧
  ∃ x2 : Int, H.rd h0 (Addr.add (Addr.add (Addr.add a1 5) 0) 0) (Value.int .i64 x2) ∧
  VIf (x2 == (0 : Int)) (
    VRet h0 (Value.tuple (List.toArray [(Value.bool false), (Value.int .i64 (0 : Int)), (Value.iface 54 (Value.int .i64 (7 : Int)))])) post) (
    ∃ R3 : H → Prop, (
      VIf (x2 == (4 : Int)) (
        ∃ a4 : Addr, p0_r = some a4 ∧
        ∃ x5 : Int, H.rd h0 (Addr.add (Addr.add a4 2) 0) (Value.int .i64 x5) ∧
        ∃ a6 : Addr, p0_r = some a6 ∧
        ∃ x7 : Int, H.rd h0 (Addr.add (Addr.add a6 1) 0) (Value.int .i64 x7) ∧
        VIf (x5 == x7) (
          ∃ a8 : Addr, p0_r = some a8 ∧
          ([(Value.int .i64 (0 : Int)), (Value.int .i64 (0 : Int))]).length = 2 ∧ (Program.underlying Go.Proofs.Try.prog 56).isSome = true ∧
          H.wr h0 (Addr.add a8 5) ([(Value.int .i64 (0 : Int)), (Value.int .i64 (0 : Int))]) fun h9 =>
          VRet h9 (Value.tuple (List.toArray [(Value.bool true), (Value.int .i64 (-1 : Int)), Value.nilIface])) post) (
          (∃ h10, Gh h0 h10 ∧ R3 h10))) (
        VIf (x2 == (5 : Int)) (
          ∃ a11 : Addr, p0_r = some a11 ∧
          ∃ x12 : SV, H.rd h0 (Addr.add (Addr.add a11 0) 0) (Value.slice x12.a x12.len x12.cap) ∧
          ∃ a13 : Addr, p0_r = some a13 ∧
          ∃ x14 : Int, H.rd h0 (Addr.add (Addr.add a13 1) 0) (Value.int .i64 x14) ∧
          ∃ a15 : Addr, p0_r = some a15 ∧
          ∃ x16 : SV, H.rd h0 (Addr.add (Addr.add a15 0) 0) (Value.slice x16.a x16.len x16.cap) ∧
          ((x16.len : Nat) : Int) ≠ 0 ∧
          ∃ b17 : Addr, x12.a = some b17 ∧ 0 ≤ (Int.tmod x14 ((x16.len : Nat) : Int)) ∧ (Int.tmod x14 ((x16.len : Nat) : Int)) < ((x12.len : Nat) : Int) ∧
          ∃ x18 : Int, H.rd h0 (Addr.add (Addr.add b17 (((Int.tmod x14 ((x16.len : Nat) : Int))).toNat * 1)) 0) (Value.int .i64 x18) ∧
          ∃ a19 : Addr, p0_r = some a19 ∧
          H.wr h0 (Addr.add (Addr.add a19 5) 1) ([(Value.int .i64 x18)]) fun h20 =>
          (∃ h21, Gh h20 h21 ∧ R3 h21)) (
          VIf (x2 == (6 : Int)) (
            ∃ a22 : Addr, p0_r = some a22 ∧
            ∃ x23 : Int, H.rd h0 (Addr.add (Addr.add (Addr.add a22 5) 1) 0) (Value.int .i64 x23) ∧
            ∃ a24 : Addr, p0_r = some a24 ∧
            ∃ x25 : Int, H.rd h0 (Addr.add (Addr.add a24 1) 0) (Value.int .i64 x25) ∧
            In64 (x25 + (1 : Int)) ∧
            ∃ a26 : Addr, p0_r = some a26 ∧
            H.wr h0 (Addr.add a26 1) ([(Value.int .i64 (x25 + (1 : Int)))]) fun h27 =>
            ∃ a28 : Addr, p0_r = some a28 ∧
            ([(Value.int .i64 (0 : Int)), (Value.int .i64 (0 : Int))]).length = 2 ∧ (Program.underlying Go.Proofs.Try.prog 56).isSome = true ∧
            H.wr h27 (Addr.add a28 5) ([(Value.int .i64 (0 : Int)), (Value.int .i64 (0 : Int))]) fun h29 =>
            VRet h29 (Value.tuple (List.toArray [(Value.bool true), (Value.int .i64 x23), Value.nilIface])) post) (
            (∃ h30, Gh h0 h30 ∧ R3 h30))))) ∧
    ∀ (_ : F) (h31 : H), R3 h31 →
    ∃ a32 : Addr, p0_r = some a32 ∧
    ∃ x33 : Int, H.rd h31 (Addr.add (Addr.add (Addr.add a32 5) 0) 0) (Value.int .i64 x33) ∧
    In64 (x33 + (1 : Int)) ∧
    ∃ a34 : Addr, p0_r = some a34 ∧
    H.wr h31 (Addr.add (Addr.add a34 5) 0) ([(Value.int .i64 (x33 + (1 : Int)))]) fun h35 =>
    VRet h35 (Value.tuple (List.toArray [(Value.bool false), (Value.int .i64 (0 : Int)), Value.nilIface])) post)

def f13_hint : Hint := (.node .leaf (.node (.node .leaf (.node (.node .leaf (.node .leaf (.node .leaf (.join [] (.node .leaf (.node .leaf (.node (.tail 20) .leaf))))))) .leaf)) .leaf))

theorem f13_eq (p0_r : Option Addr) (h0 : H) (post : Value → H → Prop) : exec Try.prog (bodyOf Try.f13) f13_hint (retQ Try.prog Try.f13 post) (F0 [(Value.pointer p0_r)]) h0 = f13_sem p0_r h0 post := by kernel_rfl

theorem f13_call (p0_r : Option Addr) (h0 : H) (post : Value → H → Prop) (hx : f13_sem p0_r h0 post) : SemCall Try.prog 13 (List.toArray [(Value.pointer p0_r)]) h0 post :=
  sem_of_exec (g := f13_hint) mixed Try.func13 (bodyOf_eq (by kernel_rfl)) (by kernel_rfl) ((f13_eq p0_r h0 post).mpr hx)

/- latchgarth/latchgarthlaw3.univFact -/
def f14_sem (h0 : H) (post : Value → H → Prop) : Prop :=
  SemCall Go.Proofs.Try.prog 15 (List.toArray [(Value.int .i64 (1 : Int))]) h0 fun v1 h2 =>
  ∃ x3 : Option Addr, ∃ x4 : Option (TypeId × Value), v1 = (Value.tuple (List.toArray [(Value.pointer x3), (errV x4)])) ∧
  isIfaceV (errV x4) = true ∧
  VIf (!(isNilV (errV x4))) (
    VRet h2 (Value.bool false) post) (
    SemCall Go.Proofs.Try.prog 16 (List.toArray [(Value.pointer x3), (Value.int .i64 (0 : Int)), (Value.int .i64 (7 : Int))]) h2 fun v5 h6 =>
    ∃ x7 : Option (TypeId × Value), v5 = (errV x7) ∧
    SemCall Go.Proofs.Try.prog 18 (List.toArray [(Value.pointer x3), (Value.int .i64 (0 : Int))]) h6 fun v8 h9 =>
    ∃ x10 : Bool, ∃ x11 : Int, ∃ x12 : Option (TypeId × Value), v8 = (Value.tuple (List.toArray [(Value.bool x10), (Value.int .i64 x11), (errV x12)])) ∧
    SemCall Go.Proofs.Try.prog 18 (List.toArray [(Value.pointer x3), (Value.int .i64 (0 : Int))]) h9 fun v13 h14 =>
    ∃ x15 : Bool, ∃ x16 : Int, ∃ x17 : Option (TypeId × Value), v13 = (Value.tuple (List.toArray [(Value.bool x15), (Value.int .i64 x16), (errV x17)])) ∧
    ∃ R18 : Bool → H → Prop, (
      isIfaceV (errV x7) = true ∧
      VIf (isNilV (errV x7)) (
        isIfaceV (errV x12) = true ∧
        VIf (isNilV (errV x12)) (
          isIfaceV (errV x17) = true ∧
          VIf (isNilV (errV x17)) (
            VIf (!x10) (
              VIf x15 (
                VIf (x16 == (0 : Int)) (
                SemCall Go.Proofs.Try.prog 19 (List.toArray [(Value.pointer x3)]) h14 fun v19 h20 =>
                ∃ x21 : SV, v19 = (Value.slice x21.a x21.len x21.cap) ∧
                H.new h20 [(Value.int .i64 (0 : Int))] fun r22 h23 =>
                SemCall Go.Proofs.Try.prog 26 (List.toArray [(Value.slice x21.a x21.len x21.cap), (Value.slice (some (Addr.mk r22 0 none)) 1 1)]) h23 fun v24 h25 =>
                ∃ x26 : Bool, v24 = (Value.bool x26) ∧
                (∃ h27, Gh h25 h27 ∧ R18 x26 h27)) (
                (∃ h28, Gh h14 h28 ∧ R18 false h28))) (
                (∃ h29, Gh h14 h29 ∧ R18 false h29))) (
              (∃ h30, Gh h14 h30 ∧ R18 false h30))) (
            (∃ h31, Gh h14 h31 ∧ R18 false h31))) (
          (∃ h32, Gh h14 h32 ∧ R18 false h32))) (
        (∃ h33, Gh h14 h33 ∧ R18 false h33))) ∧
    ∀ (_ : F) (x34 : Bool) (h35 : H), R18 x34 h35 →
    VRet h35 (Value.bool x34) post)

def f14_hint : Hint := (.node .leaf (.node .leaf (.node .leaf (.node .leaf (.node .leaf (.node .leaf (.node (.join [(0, .bool)] .leaf) .leaf)))))))

theorem f14_eq (h0 : H) (post : Value → H → Prop) : exec Try.prog (bodyOf Try.f14) f14_hint (retQ Try.prog Try.f14 post) (F0 []) h0 = f14_sem h0 post := by kernel_rfl

theorem f14_call (h0 : H) (post : Value → H → Prop) (hx : f14_sem h0 post) : SemCall Try.prog 14 (List.toArray []) h0 post :=
  sem_of_exec (g := f14_hint) mixed Try.func14 (bodyOf_eq (by kernel_rfl)) (by kernel_rfl) ((f14_eq h0 post).mpr hx)

/- latchgarth/univ.New -/
def f15_sem (p0_n : Int) (h0 : H) (post : Value → H → Prop) : Prop :=
  SemCall Go.Proofs.Try.prog 29 (List.toArray [(Value.int .i64 p0_n)]) h0 fun v1 h2 =>
  ∃ x3 : Option (TypeId × Value), v1 = (errV x3) ∧
  isIfaceV (errV x3) = true ∧
  VIf (!(isNilV (errV x3))) (
    VRet h2 (Value.tuple (List.toArray [(Value.pointer none), (errV x3)])) post) (
    (
      0 ≤ (41 : Int) ∧ (41 : Int) ≤ (41 : Int) ∧ ((8 : Nat) : Int) * (41 : Int) ≤ 140737488355328 ∧ (41 : Int) ≤ 1000000000 ∧
      H.new h2 (repl ((41 : Int)).toNat [(Value.int .i64 (0 : Int))]) fun r4 h5 =>
      0 ≤ p0_n ∧ p0_n ≤ p0_n ∧ ((32 : Nat) : Int) * p0_n ≤ 140737488355328 ∧ p0_n ≤ 1000000000 ∧
      H.new h5 (repl (p0_n).toNat [(Value.int .i64 (0 : Int)), (Value.int .i64 (0 : Int)), (Value.int .i64 (0 : Int)), (Value.int .i64 (0 : Int))]) fun r6 h7 =>
      H.new h7 [(Value.slice (some (Addr.mk r4 0 none)) (((41 : Int)).toNat) (((41 : Int)).toNat)), (Value.slice none 0 0), (Value.slice (some (Addr.mk r6 0 none)) ((p0_n).toNat) ((p0_n).toNat))] fun r8 h9 =>
      VRet h9 (Value.tuple (List.toArray [(Value.pointer (some (Addr.mk r8 0 none))), Value.nilIface])) post) ∧
    (
      0 ≤ p0_n ∧ p0_n ≤ p0_n ∧ ((32 : Nat) : Int) * p0_n ≤ 140737488355328 ∧ p0_n ≤ 1000000000 ∧
      H.new h2 (repl (p0_n).toNat [(Value.int .i64 (0 : Int)), (Value.int .i64 (0 : Int)), (Value.int .i64 (0 : Int)), (Value.int .i64 (0 : Int))]) fun r10 h11 =>
      0 ≤ (41 : Int) ∧ (41 : Int) ≤ (41 : Int) ∧ ((8 : Nat) : Int) * (41 : Int) ≤ 140737488355328 ∧ (41 : Int) ≤ 1000000000 ∧
      H.new h11 (repl ((41 : Int)).toNat [(Value.int .i64 (0 : Int))]) fun r12 h13 =>
      H.new h13 [(Value.slice (some (Addr.mk r12 0 none)) (((41 : Int)).toNat) (((41 : Int)).toNat)), (Value.slice none 0 0), (Value.slice (some (Addr.mk r10 0 none)) ((p0_n).toNat) ((p0_n).toNat))] fun r14 h15 =>
      VRet h15 (Value.tuple (List.toArray [(Value.pointer (some (Addr.mk r14 0 none))), Value.nilIface])) post))

def f15_hint : Hint := (.node .leaf (.node .leaf (.node .any .leaf)))

theorem f15_eq (p0_n : Int) (h0 : H) (post : Value → H → Prop) : exec Try.prog (bodyOf Try.f15) f15_hint (retQ Try.prog Try.f15 post) (F0 [(Value.int .i64 p0_n)]) h0 = f15_sem p0_n h0 post := by kernel_rfl

theorem f15_call (p0_n : Int) (h0 : H) (post : Value → H → Prop) (hx : f15_sem p0_n h0 post) : SemCall Try.prog 15 (List.toArray [(Value.int .i64 p0_n)]) h0 post :=
  sem_of_exec (g := f15_hint) mixed Try.func15 (bodyOf_eq (by kernel_rfl)) (by kernel_rfl) ((f15_eq p0_n h0 post).mpr hx)

/- (*latchgarth/univ.Row).Begin -/
def f16_J1 (p0_r : Option Addr) (p1_p : Int) (p2_add : Int) (post : Value → H → Prop) (x12 : Bool) (h13 : H) : Prop :=
  VIf x12 (
    VRet h13 (Value.iface 54 (Value.int .i64 (1 : Int))) post) (
    ∃ a14 : Addr, p0_r = some a14 ∧
    ∃ x15 : SV, H.rd h13 (Addr.add (Addr.add a14 2) 0) (Value.slice x15.a x15.len x15.cap) ∧
    ∃ b16 : Addr, x15.a = some b16 ∧ 0 ≤ p1_p ∧ p1_p < ((x15.len : Nat) : Int) ∧
    ∃ x17 : Int, H.rd h13 (Addr.add (Addr.add (Addr.add b16 ((p1_p).toNat * 4)) 0) 0) (Value.int .i64 x17) ∧
    VIf (x17 != (0 : Int)) (
      VRet h13 (Value.iface 54 (Value.int .i64 (7 : Int))) post) (
      ∃ a18 : Addr, p0_r = some a18 ∧
      ∃ x19 : SV, H.rd h13 (Addr.add (Addr.add a18 1) 0) (Value.slice x19.a x19.len x19.cap) ∧
      VIf (((x19.len : Nat) : Int) == (40 : Int)) (
        VRet h13 (Value.iface 54 (Value.int .i64 (4 : Int))) post) (
        ∃ a20 : Addr, p0_r = some a20 ∧
        ∃ x21 : SV, H.rd h13 (Addr.add (Addr.add a20 1) 0) (Value.slice x21.a x21.len x21.cap) ∧
        H.new h13 [(Value.int .i64 p1_p), (Value.int .i64 p2_add)] fun r22 h23 =>
        appVC Go.Proofs.Try.prog 60 (Value.slice x21.a x21.len x21.cap) (Value.slice (some (Addr.mk r22 0 none)) 1 1) h23 fun x24 h25 =>
        ∃ a26 : Addr, p0_r = some a26 ∧
        H.wr h25 (Addr.add a26 1) ([(Value.slice x24.a x24.len x24.cap)]) fun h27 =>
        ∃ a28 : Addr, p0_r = some a28 ∧
        ∃ x29 : SV, H.rd h27 (Addr.add (Addr.add a28 2) 0) (Value.slice x29.a x29.len x29.cap) ∧
        ∃ a30 : Addr, p0_r = some a30 ∧
        ∃ x31 : SV, H.rd h27 (Addr.add (Addr.add a30 1) 0) (Value.slice x31.a x31.len x31.cap) ∧
        ∃ b32 : Addr, x29.a = some b32 ∧ 0 ≤ p1_p ∧ p1_p < ((x29.len : Nat) : Int) ∧
        ([(Value.int .i64 (1 : Int)), (Value.int .i64 ((x31.len : Nat) : Int)), (Value.int .i64 (0 : Int)), (Value.int .i64 (0 : Int))]).length = 4 ∧ (Program.underlying Go.Proofs.Try.prog 64).isSome = true ∧
        H.wr h27 (Addr.add b32 ((p1_p).toNat * 4)) ([(Value.int .i64 (1 : Int)), (Value.int .i64 ((x31.len : Nat) : Int)), (Value.int .i64 (0 : Int)), (Value.int .i64 (0 : Int))]) fun h33 =>
        VRet h33 Value.nilIface post)))

def f16_sem (p0_r : Option Addr) (p1_p : Int) (p2_add : Int) (h0 : H) (post : Value → H → Prop) : Prop :=
  ∃ R1 : Bool → H → Prop, (
    ∃ a2 : Addr, p0_r = some a2 ∧
    ∃ x3 : SV, H.rd h0 (Addr.add (Addr.add a2 2) 0) (Value.slice x3.a x3.len x3.cap) ∧
    In64 (((x3.len : Nat) : Int) - (1 : Int)) ∧
    SemCall Go.Proofs.Try.prog 28 (List.toArray [(Value.int .i64 p1_p), (Value.int .i64 (0 : Int)), (Value.int .i64 (((x3.len : Nat) : Int) - (1 : Int)))]) h0 fun v4 h5 =>
    ∃ x6 : Bool, v4 = (Value.bool x6) ∧
    VIf (!x6) (
      (∃ h7, Gh h5 h7 ∧ R1 true h7)) (
      SemCall Go.Proofs.Try.prog 28 (List.toArray [(Value.int .i64 p2_add), (Value.int .i64 (0 : Int)), (Value.int .i64 (1000 : Int))]) h5 fun v8 h9 =>
      ∃ x10 : Bool, v8 = (Value.bool x10) ∧
      (∃ h11, Gh h9 h11 ∧ R1 (!x10) h11))) ∧
  ∀ (_ : F) (x12 : Bool) (h13 : H), R1 x12 h13 →
  f16_J1 p0_r p1_p p2_add post x12 h13

def f16_hint : Hint := (.node .leaf (.node (.node (.join [(20, .bool)] .leaf) .leaf) (.node .leaf (.node .leaf (.node .leaf (.node (.tail 12) .leaf))))))

theorem f16_eq (p0_r : Option Addr) (p1_p : Int) (p2_add : Int) (h0 : H) (post : Value → H → Prop) : exec Try.prog (bodyOf Try.f16) f16_hint (retQ Try.prog Try.f16 post) (F0 [(Value.pointer p0_r), (Value.int .i64 p1_p), (Value.int .i64 p2_add)]) h0 = f16_sem p0_r p1_p p2_add h0 post := by kernel_rfl

theorem f16_call (p0_r : Option Addr) (p1_p : Int) (p2_add : Int) (h0 : H) (post : Value → H → Prop) (hx : f16_sem p0_r p1_p p2_add h0 post) : SemCall Try.prog 16 (List.toArray [(Value.pointer p0_r), (Value.int .i64 p1_p), (Value.int .i64 p2_add)]) h0 post :=
  sem_of_exec (g := f16_hint) mixed Try.func16 (bodyOf_eq (by kernel_rfl)) (by kernel_rfl) ((f16_eq p0_r p1_p p2_add h0 post).mpr hx)

/- latchgarth/latchgarthlaw3.in -/
def f17_sem (p0_n : Int) (p1_low : Int) (p2_high : Int) (h0 : H) (post : Value → H → Prop) : Prop :=
  ∃ R1 : Bool → H → Prop, (
    VIf (decide (p0_n ≥ p1_low)) (
      (∃ h2, Gh h0 h2 ∧ R1 (decide (p0_n ≤ p2_high)) h2)) (
      (∃ h3, Gh h0 h3 ∧ R1 false h3))) ∧
  ∀ (_ : F) (x4 : Bool) (h5 : H), R1 x4 h5 →
  VRet h5 (Value.bool x4) post

def f17_hint : Hint := (.node .leaf (.node (.join [(6, .bool)] .leaf) .leaf))

theorem f17_eq (p0_n : Int) (p1_low : Int) (p2_high : Int) (h0 : H) (post : Value → H → Prop) : exec Try.prog (bodyOf Try.f17) f17_hint (retQ Try.prog Try.f17 post) (F0 [(Value.int .i64 p0_n), (Value.int .i64 p1_low), (Value.int .i64 p2_high)]) h0 = f17_sem p0_n p1_low p2_high h0 post := by kernel_rfl

theorem f17_call (p0_n : Int) (p1_low : Int) (p2_high : Int) (h0 : H) (post : Value → H → Prop) (hx : f17_sem p0_n p1_low p2_high h0 post) : SemCall Try.prog 17 (List.toArray [(Value.int .i64 p0_n), (Value.int .i64 p1_low), (Value.int .i64 p2_high)]) h0 post :=
  sem_of_exec (g := f17_hint) mixed Try.func17 (bodyOf_eq (by kernel_rfl)) (by kernel_rfl) ((f17_eq p0_n p1_low p2_high h0 post).mpr hx)

/- (*latchgarth/univ.Row).Step -/
def f18_sem (p0_r : Option Addr) (p1_p : Int) (h0 : H) (post : Value → H → Prop) : Prop :=
  ∃ a1 : Addr, p0_r = some a1 ∧
  ∃ x2 : SV, H.rd h0 (Addr.add (Addr.add a1 2) 0) (Value.slice x2.a x2.len x2.cap) ∧
  In64 (((x2.len : Nat) : Int) - (1 : Int)) ∧
  SemCall Go.Proofs.Try.prog 28 (List.toArray [(Value.int .i64 p1_p), (Value.int .i64 (0 : Int)), (Value.int .i64 (((x2.len : Nat) : Int) - (1 : Int)))]) h0 fun v3 h4 =>
  ∃ x5 : Bool, v3 = (Value.bool x5) ∧
  VIf (!x5) (
    VRet h4 (Value.tuple (List.toArray [(Value.bool false), (Value.int .i64 (0 : Int)), (Value.iface 54 (Value.int .i64 (1 : Int)))])) post) (
    ∃ a6 : Addr, p0_r = some a6 ∧
    ∃ x7 : SV, H.rd h4 (Addr.add (Addr.add a6 2) 0) (Value.slice x7.a x7.len x7.cap) ∧
    ∃ b8 : Addr, x7.a = some b8 ∧ 0 ≤ p1_p ∧ p1_p < ((x7.len : Nat) : Int) ∧
    ∃ a9 : Addr, (some (Addr.add b8 ((p1_p).toNat * 4))) = some a9 ∧
    ∃ x10 : Int, H.rd h4 (Addr.add (Addr.add a9 0) 0) (Value.int .i64 x10) ∧
    VIf (x10 == (0 : Int)) (
      VRet h4 (Value.tuple (List.toArray [(Value.bool false), (Value.int .i64 (0 : Int)), (Value.iface 54 (Value.int .i64 (7 : Int)))])) post) (
      VIf (x10 == (1 : Int)) (
        ∃ a11 : Addr, p0_r = some a11 ∧
        ∃ x12 : SV, H.rd h4 (Addr.add (Addr.add a11 0) 0) (Value.slice x12.a x12.len x12.cap) ∧
        ∃ a13 : Addr, (some (Addr.add b8 ((p1_p).toNat * 4))) = some a13 ∧
        ∃ x14 : Int, H.rd h4 (Addr.add (Addr.add a13 2) 0) (Value.int .i64 x14) ∧
        ∃ b15 : Addr, x12.a = some b15 ∧ 0 ≤ x14 ∧ x14 < ((x12.len : Nat) : Int) ∧
        ∃ a16 : Addr, (some (Addr.add b8 ((p1_p).toNat * 4))) = some a16 ∧
        ∃ x17 : Int, H.rd h4 (Addr.add (Addr.add a16 1) 0) (Value.int .i64 x17) ∧
        SemCall Go.Proofs.Try.prog 30 (List.toArray [(Value.pointer (some (Addr.add b15 ((x14).toNat * 1)))), (Value.int .i64 (0 : Int)), (Value.int .i64 x17)]) h4 fun v18 h19 =>
        ∃ x20 : Bool, v18 = (Value.bool x20) ∧
        ∃ a21 : Addr, (some (Addr.add b8 ((p1_p).toNat * 4))) = some a21 ∧
        H.wr h19 (Addr.add a21 0) ([(Value.int .i64 (2 : Int))]) fun h22 =>
        VRet h22 (Value.tuple (List.toArray [(Value.bool false), (Value.int .i64 (0 : Int)), Value.nilIface])) post) (
        VIf (x10 == (2 : Int)) (
          ∃ a23 : Addr, p0_r = some a23 ∧
          ∃ x24 : SV, H.rd h4 (Addr.add (Addr.add a23 0) 0) (Value.slice x24.a x24.len x24.cap) ∧
          ∃ a25 : Addr, (some (Addr.add b8 ((p1_p).toNat * 4))) = some a25 ∧
          ∃ x26 : Int, H.rd h4 (Addr.add (Addr.add a25 2) 0) (Value.int .i64 x26) ∧
          ∃ b27 : Addr, x24.a = some b27 ∧ 0 ≤ x26 ∧ x26 < ((x24.len : Nat) : Int) ∧
          ∃ x28 : Int, H.rd h4 (Addr.add (Addr.add b27 ((x26).toNat * 1)) 0) (Value.int .i64 x28) ∧
          ∃ a29 : Addr, (some (Addr.add b8 ((p1_p).toNat * 4))) = some a29 ∧
          ∃ x30 : Int, H.rd h4 (Addr.add (Addr.add a29 1) 0) (Value.int .i64 x30) ∧
          VIf (x28 == x30) (
            ∃ a31 : Addr, (some (Addr.add b8 ((p1_p).toNat * 4))) = some a31 ∧
            ∃ x32 : Int, H.rd h4 (Addr.add (Addr.add a31 3) 0) (Value.int .i64 x32) ∧
            ∃ a33 : Addr, (some (Addr.add b8 ((p1_p).toNat * 4))) = some a33 ∧
            ([(Value.int .i64 (0 : Int)), (Value.int .i64 (0 : Int)), (Value.int .i64 (0 : Int)), (Value.int .i64 (0 : Int))]).length = 4 ∧ (Program.underlying Go.Proofs.Try.prog 64).isSome = true ∧
            H.wr h4 a33 ([(Value.int .i64 (0 : Int)), (Value.int .i64 (0 : Int)), (Value.int .i64 (0 : Int)), (Value.int .i64 (0 : Int))]) fun h34 =>
            VRet h34 (Value.tuple (List.toArray [(Value.bool true), (Value.int .i64 x32), Value.nilIface])) post) (
            ∃ a35 : Addr, (some (Addr.add b8 ((p1_p).toNat * 4))) = some a35 ∧
            ∃ x36 : Int, H.rd h4 (Addr.add (Addr.add a35 3) 0) (Value.int .i64 x36) ∧
            ∃ a37 : Addr, p0_r = some a37 ∧
            ∃ x38 : SV, H.rd h4 (Addr.add (Addr.add a37 1) 0) (Value.slice x38.a x38.len x38.cap) ∧
            In64 (x28 - (1 : Int)) ∧
            ∃ b39 : Addr, x38.a = some b39 ∧ 0 ≤ (x28 - (1 : Int)) ∧ (x28 - (1 : Int)) < ((x38.len : Nat) : Int) ∧
            ∃ x40 : Int, H.rd h4 (Addr.add (Addr.add (Addr.add b39 (((x28 - (1 : Int))).toNat * 2)) 1) 0) (Value.int .i64 x40) ∧
            In64 (x36 + x40) ∧
            ∃ a41 : Addr, (some (Addr.add b8 ((p1_p).toNat * 4))) = some a41 ∧
            H.wr h4 (Addr.add a41 3) ([(Value.int .i64 (x36 + x40))]) fun h42 =>
            ∃ a43 : Addr, (some (Addr.add b8 ((p1_p).toNat * 4))) = some a43 ∧
            ∃ x44 : Int, H.rd h42 (Addr.add (Addr.add a43 2) 0) (Value.int .i64 x44) ∧
            In64 (x44 + (1 : Int)) ∧
            ∃ a45 : Addr, (some (Addr.add b8 ((p1_p).toNat * 4))) = some a45 ∧
            H.wr h42 (Addr.add a45 2) ([(Value.int .i64 (x44 + (1 : Int)))]) fun h46 =>
            ∃ a47 : Addr, (some (Addr.add b8 ((p1_p).toNat * 4))) = some a47 ∧
            H.wr h46 (Addr.add a47 0) ([(Value.int .i64 (1 : Int))]) fun h48 =>
            VRet h48 (Value.tuple (List.toArray [(Value.bool false), (Value.int .i64 (0 : Int)), Value.nilIface])) post)) (
          VRet h4 (Value.tuple (List.toArray [(Value.bool false), (Value.int .i64 (0 : Int)), Value.nilIface])) post))))

def f18_hint : Hint := (.node .leaf (.node .leaf (.node .leaf (.node (.node .leaf (.node (.node .leaf (.node .leaf (.node .leaf (.node (.node (.tail 13) .leaf) (.node .leaf (.node (.node .leaf (.node .leaf (.node (.tail 16) .leaf))) .leaf)))))) .leaf)) .leaf))))

theorem f18_eq (p0_r : Option Addr) (p1_p : Int) (h0 : H) (post : Value → H → Prop) : exec Try.prog (bodyOf Try.f18) f18_hint (retQ Try.prog Try.f18 post) (F0 [(Value.pointer p0_r), (Value.int .i64 p1_p)]) h0 = f18_sem p0_r p1_p h0 post := by kernel_rfl

theorem f18_call (p0_r : Option Addr) (p1_p : Int) (h0 : H) (post : Value → H → Prop) (hx : f18_sem p0_r p1_p h0 post) : SemCall Try.prog 18 (List.toArray [(Value.pointer p0_r), (Value.int .i64 p1_p)]) h0 post :=
  sem_of_exec (g := f18_hint) mixed Try.func18 (bodyOf_eq (by kernel_rfl)) (by kernel_rfl) ((f18_eq p0_r p1_p h0 post).mpr hx)

/- (*latchgarth/univ.Row).Order -/
def f19_L1 (x2 : SV) (R3 : SV → H → Prop) (I4 : Nat → SV → Int → H → Prop) (n5 : Nat) (x8_out : SV) (x9 : Int) (h10 : H) : Prop :=
  VIf (decide (x9 < ((x2.len : Nat) : Int))) (
    ∃ b11 : Addr, x2.a = some b11 ∧ 0 ≤ x9 ∧ x9 < ((x2.len : Nat) : Int) ∧
    ∃ x12 : Int, H.rd h10 (Addr.add (Addr.add b11 ((x9).toNat * 1)) 0) (Value.int .i64 x12) ∧
    VIf (x12 == (0 : Int)) (
      (∃ h13, Gh h10 h13 ∧ R3 x8_out h13)) (
      In64 (x12 - (1 : Int)) ∧
      H.new h10 [(Value.int .i64 (x12 - (1 : Int)))] fun r14 h15 =>
      appVC Go.Proofs.Try.prog 22 (Value.slice x8_out.a x8_out.len x8_out.cap) (Value.slice (some (Addr.mk r14 0 none)) 1 1) h15 fun x16 h17 =>
      In64 (x9 + (1 : Int)) ∧
      ∃ m6, m6 < n5 ∧ (∃ h18, Gh h17 h18 ∧ I4 m6 x16 (x9 + (1 : Int)) h18))) (
    (∃ h19, Gh h10 h19 ∧ R3 x8_out h19))

def f19_sem (p0_r : Option Addr) (h0 : H) (post : Value → H → Prop) : Prop :=
  ∃ a1 : Addr, p0_r = some a1 ∧
  ∃ x2 : SV, H.rd h0 (Addr.add (Addr.add a1 0) 0) (Value.slice x2.a x2.len x2.cap) ∧
  ∃ R3 : SV → H → Prop, (
    ∃ I4 : Nat → SV → Int → H → Prop, (∃ n5, (∃ h7, Gh h0 h7 ∧ I4 n5 (SV.mk none 0 0) (0 : Int) h7)) ∧
    ∀ (n5 : Nat) (_ : F) (x8_out : SV) (x9 : Int) (h10 : H), I4 n5 x8_out x9 h10 →
    f19_L1 x2 R3 I4 n5 x8_out x9 h10) ∧
  ∀ (_ : F) (x20_out : SV) (h21 : H), R3 x20_out h21 →
  SemCall Go.Proofs.Try.prog 31 (List.toArray [(Value.slice x20_out.a x20_out.len x20_out.cap)]) h21 fun v22 h23 =>
  ∃ x24 : SV, v22 = (Value.slice x24.a x24.len x24.cap) ∧
  VRet h23 (Value.slice x24.a x24.len x24.cap) post

def f19_hint : Hint := (.node .leaf (.node .leaf (.node (.node .leaf (.join [(3, .sl)] (.node (.loop [(3, .sl), (11, .int)] .leaf) .leaf))) .leaf)))

theorem f19_eq (p0_r : Option Addr) (h0 : H) (post : Value → H → Prop) : exec Try.prog (bodyOf Try.f19) f19_hint (retQ Try.prog Try.f19 post) (F0 [(Value.pointer p0_r)]) h0 = f19_sem p0_r h0 post := by kernel_rfl

theorem f19_call (p0_r : Option Addr) (h0 : H) (post : Value → H → Prop) (hx : f19_sem p0_r h0 post) : SemCall Try.prog 19 (List.toArray [(Value.pointer p0_r)]) h0 post :=
  sem_of_exec (g := f19_hint) mixed Try.func19 (bodyOf_eq (by kernel_rfl)) (by kernel_rfl) ((f19_eq p0_r h0 post).mpr hx)

/- (*latchgarth/univ.Row).At -/
def f20_sem (p0_r : Option Addr) (p1_p : Int) (h0 : H) (post : Value → H → Prop) : Prop :=
  ∃ a1 : Addr, p0_r = some a1 ∧
  ∃ x2 : SV, H.rd h0 (Addr.add (Addr.add a1 2) 0) (Value.slice x2.a x2.len x2.cap) ∧
  In64 (((x2.len : Nat) : Int) - (1 : Int)) ∧
  SemCall Go.Proofs.Try.prog 28 (List.toArray [(Value.int .i64 p1_p), (Value.int .i64 (0 : Int)), (Value.int .i64 (((x2.len : Nat) : Int) - (1 : Int)))]) h0 fun v3 h4 =>
  ∃ x5 : Bool, v3 = (Value.bool x5) ∧
  VIf (!x5) (
    VRet h4 (Value.int .i64 (0 : Int)) post) (
    ∃ a6 : Addr, p0_r = some a6 ∧
    ∃ x7 : SV, H.rd h4 (Addr.add (Addr.add a6 2) 0) (Value.slice x7.a x7.len x7.cap) ∧
    ∃ b8 : Addr, x7.a = some b8 ∧ 0 ≤ p1_p ∧ p1_p < ((x7.len : Nat) : Int) ∧
    ∃ x9 : Int, H.rd h4 (Addr.add (Addr.add (Addr.add b8 ((p1_p).toNat * 4)) 0) 0) (Value.int .i64 x9) ∧
    VRet h4 (Value.int .i64 x9) post)

def f20_hint : Hint := .leaf

theorem f20_eq (p0_r : Option Addr) (p1_p : Int) (h0 : H) (post : Value → H → Prop) : exec Try.prog (bodyOf Try.f20) f20_hint (retQ Try.prog Try.f20 post) (F0 [(Value.pointer p0_r), (Value.int .i64 p1_p)]) h0 = f20_sem p0_r p1_p h0 post := by kernel_rfl

theorem f20_call (p0_r : Option Addr) (p1_p : Int) (h0 : H) (post : Value → H → Prop) (hx : f20_sem p0_r p1_p h0 post) : SemCall Try.prog 20 (List.toArray [(Value.pointer p0_r), (Value.int .i64 p1_p)]) h0 post :=
  sem_of_exec (g := f20_hint) mixed Try.func20 (bodyOf_eq (by kernel_rfl)) (by kernel_rfl) ((f20_eq p0_r p1_p h0 post).mpr hx)

/- latchgarth/latchgarthlaw3.snapFact -/
def f21_L1 (post : Value → H → Prop) (x3 : Option Addr) (R13 : H → Prop) (I14 : Nat → Int → H → Prop) (n15 : Nat) (x18_i : Int) (h19 : H) : Prop :=
  VIf (decide (x18_i < (3 : Int))) (
    SemCall Go.Proofs.Try.prog 25 (List.toArray [(Value.pointer x3), (Value.int .i64 (0 : Int))]) h19 fun v20 h21 =>
    ∃ x22 : Bool, ∃ x23 : SV, ∃ x24 : Option (TypeId × Value), v20 = (Value.tuple (List.toArray [(Value.bool x22), (Value.slice x23.a x23.len x23.cap), (errV x24)])) ∧
    isIfaceV (errV x24) = true ∧
    VIf (!(isNilV (errV x24))) (
      VRet h21 (Value.bool false) post) (
      In64 (x18_i + (1 : Int)) ∧
      ∃ m16, m16 < n15 ∧ (∃ h25, Gh h21 h25 ∧ I14 m16 (x18_i + (1 : Int)) h25))) (
    (∃ h26, Gh h19 h26 ∧ R13 h26))

def f21_J2 (post : Value → H → Prop) (x3 : Option Addr) (h27 : H) : Prop :=
  SemCall Go.Proofs.Try.prog 24 (List.toArray [(Value.pointer x3), (Value.int .i64 (0 : Int))]) h27 fun v28 h29 =>
  ∃ x30 : Option (TypeId × Value), v28 = (errV x30) ∧
  isIfaceV (errV x30) = true ∧
  VIf (!(isNilV (errV x30))) (
    VRet h29 (Value.bool false) post) (
    SemCall Go.Proofs.Try.prog 25 (List.toArray [(Value.pointer x3), (Value.int .i64 (0 : Int))]) h29 fun v31 h32 =>
    ∃ x33 : Bool, ∃ x34 : SV, ∃ x35 : Option (TypeId × Value), v31 = (Value.tuple (List.toArray [(Value.bool x33), (Value.slice x34.a x34.len x34.cap), (errV x35)])) ∧
    SemCall Go.Proofs.Try.prog 25 (List.toArray [(Value.pointer x3), (Value.int .i64 (0 : Int))]) h32 fun v36 h37 =>
    ∃ x38 : Bool, ∃ x39 : SV, ∃ x40 : Option (TypeId × Value), v36 = (Value.tuple (List.toArray [(Value.bool x38), (Value.slice x39.a x39.len x39.cap), (errV x40)])) ∧
    ∃ R41 : Bool → H → Prop, (
      isIfaceV (errV x35) = true ∧
      VIf (isNilV (errV x35)) (
        isIfaceV (errV x40) = true ∧
        VIf (isNilV (errV x40)) (
          VIf x38 (
            H.new h37 [(Value.int .i64 (5 : Int))] fun r42 h43 =>
            SemCall Go.Proofs.Try.prog 26 (List.toArray [(Value.slice x39.a x39.len x39.cap), (Value.slice (some (Addr.mk r42 0 none)) 1 1)]) h43 fun v44 h45 =>
            ∃ x46 : Bool, v44 = (Value.bool x46) ∧
            (∃ h47, Gh h45 h47 ∧ R41 x46 h47)) (
            (∃ h48, Gh h37 h48 ∧ R41 false h48))) (
          (∃ h49, Gh h37 h49 ∧ R41 false h49))) (
        (∃ h50, Gh h37 h50 ∧ R41 false h50))) ∧
    ∀ (_ : F) (x51 : Bool) (h52 : H), R41 x51 h52 →
    VRet h52 (Value.bool x51) post)

def f21_sem (h0 : H) (post : Value → H → Prop) : Prop :=
  SemCall Go.Proofs.Try.prog 22 (List.toArray [(Value.int .i64 (1 : Int))]) h0 fun v1 h2 =>
  ∃ x3 : Option Addr, ∃ x4 : Option (TypeId × Value), v1 = (Value.tuple (List.toArray [(Value.pointer x3), (errV x4)])) ∧
  ∃ R5 : Bool → H → Prop, (
    isIfaceV (errV x4) = true ∧
    VIf (!(isNilV (errV x4))) (
      (∃ h6, Gh h2 h6 ∧ R5 true h6)) (
      SemCall Go.Proofs.Try.prog 23 (List.toArray [(Value.pointer x3), (Value.int .i64 (0 : Int)), (Value.int .i64 (5 : Int))]) h2 fun v7 h8 =>
      ∃ x9 : Option (TypeId × Value), v7 = (errV x9) ∧
      isIfaceV (errV x9) = true ∧
      (∃ h10, Gh h8 h10 ∧ R5 (!(isNilV (errV x9))) h10))) ∧
  ∀ (_ : F) (x11 : Bool) (h12 : H), R5 x11 h12 →
  VIf x11 (
    VRet h12 (Value.bool false) post) (
    ∃ R13 : H → Prop, (
      ∃ I14 : Nat → Int → H → Prop, (∃ n15, (∃ h17, Gh h12 h17 ∧ I14 n15 (0 : Int) h17)) ∧
      ∀ (n15 : Nat) (_ : F) (x18_i : Int) (h19 : H), I14 n15 x18_i h19 →
      f21_L1 post x3 R13 I14 n15 x18_i h19) ∧
    ∀ (_ : F) (h27 : H), R13 h27 →
    f21_J2 post x3 h27)

def f21_hint : Hint := (.node .leaf (.node .leaf (.node (.node (.join [(23, .bool)] .leaf) .leaf) (.node (.node .leaf (.join [] (.node (.loop [(3, .int)] .leaf) .leaf))) (.node .leaf (.node .leaf (.node .leaf (.node (.join [(0, .bool)] .leaf) .leaf))))))))

theorem f21_eq (h0 : H) (post : Value → H → Prop) : exec Try.prog (bodyOf Try.f21) f21_hint (retQ Try.prog Try.f21 post) (F0 []) h0 = f21_sem h0 post := by kernel_rfl

theorem f21_call (h0 : H) (post : Value → H → Prop) (hx : f21_sem h0 post) : SemCall Try.prog 21 (List.toArray []) h0 post :=
  sem_of_exec (g := f21_hint) mixed Try.func21 (bodyOf_eq (by kernel_rfl)) (by kernel_rfl) ((f21_eq h0 post).mpr hx)

/- latchgarth/snap.New -/
def f22_L1 (p0_n : Int) (x19_b : Option Addr) (x22 : SV) (R23 : H → Prop) (I24 : Nat → Int → H → Prop) (n25 : Nat) (x28 : Int) (h29 : H) : Prop :=
  VIf (decide (x28 < ((x22.len : Nat) : Int))) (
    ∃ R30 : H → Prop, (
      ∃ a31 : Addr, x19_b = some a31 ∧
      (
        ∃ x32 : SV, H.rd h29 (Addr.add (Addr.add a31 0) 0) (Value.slice x32.a x32.len x32.cap) ∧
        0 ≤ p0_n ∧ p0_n ≤ p0_n ∧ ((8 : Nat) : Int) * p0_n ≤ 140737488355328 ∧ p0_n ≤ 1000000000 ∧
        H.new h29 (repl (p0_n).toNat [(Value.int .i64 (0 : Int))]) fun r33 h34 =>
        ∃ b35 : Addr, x32.a = some b35 ∧ 0 ≤ x28 ∧ x28 < ((x32.len : Nat) : Int) ∧
        H.wr h34 (Addr.add (Addr.add b35 ((x28).toNat * 3)) 2) ([(Value.slice (some (Addr.mk r33 0 none)) ((p0_n).toNat) ((p0_n).toNat))]) fun h36 =>
        (∃ h37, Gh h36 h37 ∧ R30 h37)) ∧
      (
        0 ≤ p0_n ∧ p0_n ≤ p0_n ∧ ((8 : Nat) : Int) * p0_n ≤ 140737488355328 ∧ p0_n ≤ 1000000000 ∧
        H.new h29 (repl (p0_n).toNat [(Value.int .i64 (0 : Int))]) fun r38 h39 =>
        ∃ x40 : SV, H.rd h39 (Addr.add (Addr.add a31 0) 0) (Value.slice x40.a x40.len x40.cap) ∧
        ∃ b41 : Addr, x40.a = some b41 ∧ 0 ≤ x28 ∧ x28 < ((x40.len : Nat) : Int) ∧
        H.wr h39 (Addr.add (Addr.add b41 ((x28).toNat * 3)) 2) ([(Value.slice (some (Addr.mk r38 0 none)) ((p0_n).toNat) ((p0_n).toNat))]) fun h42 =>
        (∃ h43, Gh h42 h43 ∧ R30 h43))) ∧
    ∀ (_ : F) (h44 : H), R30 h44 →
    In64 (x28 + (1 : Int)) ∧
    ∃ m26, m26 < n25 ∧ (∃ h45, Gh h44 h45 ∧ I24 m26 (x28 + (1 : Int)) h45)) (
    (∃ h46, Gh h29 h46 ∧ R23 h46))

def f22_sem (p0_n : Int) (h0 : H) (post : Value → H → Prop) : Prop :=
  SemCall Go.Proofs.Try.prog 29 (List.toArray [(Value.int .i64 p0_n)]) h0 fun v1 h2 =>
  ∃ x3 : Option (TypeId × Value), v1 = (errV x3) ∧
  isIfaceV (errV x3) = true ∧
  VIf (!(isNilV (errV x3))) (
    VRet h2 (Value.tuple (List.toArray [(Value.pointer none), (errV x3)])) post) (
    ∃ R4 : Option Addr → H → Prop, (
      (
        0 ≤ p0_n ∧ p0_n ≤ p0_n ∧ ((40 : Nat) : Int) * p0_n ≤ 140737488355328 ∧ p0_n ≤ 1000000000 ∧
        H.new h2 (repl (p0_n).toNat [(Value.int .i64 (0 : Int)), (Value.int .i64 (0 : Int)), (Value.slice none 0 0)]) fun r5 h6 =>
        0 ≤ p0_n ∧ p0_n ≤ p0_n ∧ ((104 : Nat) : Int) * p0_n ≤ 140737488355328 ∧ p0_n ≤ 1000000000 ∧
        H.new h6 (repl (p0_n).toNat [(Value.int .i64 (0 : Int)), (Value.int .i64 (0 : Int)), (Value.bool false), (Value.int .i64 (0 : Int)), (Value.slice none 0 0), (Value.slice none 0 0), (Value.slice none 0 0)]) fun r7 h8 =>
        H.new h8 [(Value.slice (some (Addr.mk r5 0 none)) ((p0_n).toNat) ((p0_n).toNat)), (Value.slice (some (Addr.mk r7 0 none)) ((p0_n).toNat) ((p0_n).toNat))] fun r9 h10 =>
        (∃ h11, Gh h10 h11 ∧ R4 (some (Addr.mk r9 0 none)) h11)) ∧
      (
        0 ≤ p0_n ∧ p0_n ≤ p0_n ∧ ((104 : Nat) : Int) * p0_n ≤ 140737488355328 ∧ p0_n ≤ 1000000000 ∧
        H.new h2 (repl (p0_n).toNat [(Value.int .i64 (0 : Int)), (Value.int .i64 (0 : Int)), (Value.bool false), (Value.int .i64 (0 : Int)), (Value.slice none 0 0), (Value.slice none 0 0), (Value.slice none 0 0)]) fun r12 h13 =>
        0 ≤ p0_n ∧ p0_n ≤ p0_n ∧ ((40 : Nat) : Int) * p0_n ≤ 140737488355328 ∧ p0_n ≤ 1000000000 ∧
        H.new h13 (repl (p0_n).toNat [(Value.int .i64 (0 : Int)), (Value.int .i64 (0 : Int)), (Value.slice none 0 0)]) fun r14 h15 =>
        H.new h15 [(Value.slice (some (Addr.mk r14 0 none)) ((p0_n).toNat) ((p0_n).toNat)), (Value.slice (some (Addr.mk r12 0 none)) ((p0_n).toNat) ((p0_n).toNat))] fun r16 h17 =>
        (∃ h18, Gh h17 h18 ∧ R4 (some (Addr.mk r16 0 none)) h18))) ∧
    ∀ (_ : F) (x19_b : Option Addr) (h20 : H), R4 x19_b h20 →
    ∃ a21 : Addr, x19_b = some a21 ∧
    ∃ x22 : SV, H.rd h20 (Addr.add (Addr.add a21 0) 0) (Value.slice x22.a x22.len x22.cap) ∧
    ∃ R23 : H → Prop, (
      ∃ I24 : Nat → Int → H → Prop, (∃ n25, (∃ h27, Gh h20 h27 ∧ I24 n25 (0 : Int) h27)) ∧
      ∀ (n25 : Nat) (_ : F) (x28 : Int) (h29 : H), I24 n25 x28 h29 →
      f22_L1 p0_n x19_b x22 R23 I24 n25 x28 h29) ∧
    ∀ (_ : F) (h47 : H), R23 h47 →
    VRet h47 (Value.tuple (List.toArray [(Value.pointer x19_b), Value.nilIface])) post)

def f22_hint : Hint := (.node .leaf (.node .leaf (.node (.join [(5, .ptr)] .any) (.node (.node .leaf (.join [] (.node (.loop [(23, .int)] (.node .leaf (.node .leaf (.node (.node (.node .leaf (.join [] .any)) .leaf) .leaf)))) .leaf))) .leaf))))

theorem f22_eq (p0_n : Int) (h0 : H) (post : Value → H → Prop) : exec Try.prog (bodyOf Try.f22) f22_hint (retQ Try.prog Try.f22 post) (F0 [(Value.int .i64 p0_n)]) h0 = f22_sem p0_n h0 post := by kernel_rfl

theorem f22_call (p0_n : Int) (h0 : H) (post : Value → H → Prop) (hx : f22_sem p0_n h0 post) : SemCall Try.prog 22 (List.toArray [(Value.int .i64 p0_n)]) h0 post :=
  sem_of_exec (g := f22_hint) mixed Try.func22 (bodyOf_eq (by kernel_rfl)) (by kernel_rfl) ((f22_eq p0_n h0 post).mpr hx)

/- (*latchgarth/snap.Board).Write -/
def f23_sem (p0_b : Option Addr) (p1_p : Int) (p2_value : Int) (h0 : H) (post : Value → H → Prop) : Prop :=
  SemCall Go.Proofs.Try.prog 32 (List.toArray [(Value.pointer p0_b), (Value.int .i64 p1_p), (Value.agg (List.toArray [(Value.int .i64 (0 : Int)), (Value.int .i64 (0 : Int)), (Value.bool true), (Value.int .i64 p2_value), (Value.slice none 0 0), (Value.slice none 0 0), (Value.slice none 0 0)]))]) h0 fun v1 h2 =>
  ∃ x3 : Option (TypeId × Value), v1 = (errV x3) ∧
  VRet h2 (errV x3) post

def f23_hint : Hint := .leaf

theorem f23_eq (p0_b : Option Addr) (p1_p : Int) (p2_value : Int) (h0 : H) (post : Value → H → Prop) : exec Try.prog (bodyOf Try.f23) f23_hint (retQ Try.prog Try.f23 post) (F0 [(Value.pointer p0_b), (Value.int .i64 p1_p), (Value.int .i64 p2_value)]) h0 = f23_sem p0_b p1_p p2_value h0 post := by kernel_rfl

theorem f23_call (p0_b : Option Addr) (p1_p : Int) (p2_value : Int) (h0 : H) (post : Value → H → Prop) (hx : f23_sem p0_b p1_p p2_value h0 post) : SemCall Try.prog 23 (List.toArray [(Value.pointer p0_b), (Value.int .i64 p1_p), (Value.int .i64 p2_value)]) h0 post :=
  sem_of_exec (g := f23_hint) mixed Try.func23 (bodyOf_eq (by kernel_rfl)) (by kernel_rfl) ((f23_eq p0_b p1_p p2_value h0 post).mpr hx)

/- (*latchgarth/snap.Board).Look -/
def f24_sem (p0_b : Option Addr) (p1_p : Int) (h0 : H) (post : Value → H → Prop) : Prop :=
  SemCall Go.Proofs.Try.prog 32 (List.toArray [(Value.pointer p0_b), (Value.int .i64 p1_p), (Value.agg (List.toArray [(Value.int .i64 (0 : Int)), (Value.int .i64 (0 : Int)), (Value.bool false), (Value.int .i64 (0 : Int)), (Value.slice none 0 0), (Value.slice none 0 0), (Value.slice none 0 0)]))]) h0 fun v1 h2 =>
  ∃ x3 : Option (TypeId × Value), v1 = (errV x3) ∧
  VRet h2 (errV x3) post

def f24_hint : Hint := .leaf

theorem f24_eq (p0_b : Option Addr) (p1_p : Int) (h0 : H) (post : Value → H → Prop) : exec Try.prog (bodyOf Try.f24) f24_hint (retQ Try.prog Try.f24 post) (F0 [(Value.pointer p0_b), (Value.int .i64 p1_p)]) h0 = f24_sem p0_b p1_p h0 post := by kernel_rfl

theorem f24_call (p0_b : Option Addr) (p1_p : Int) (h0 : H) (post : Value → H → Prop) (hx : f24_sem p0_b p1_p h0 post) : SemCall Try.prog 24 (List.toArray [(Value.pointer p0_b), (Value.int .i64 p1_p)]) h0 post :=
  sem_of_exec (g := f24_hint) mixed Try.func24 (bodyOf_eq (by kernel_rfl)) (by kernel_rfl) ((f24_eq p0_b p1_p h0 post).mpr hx)

/- (*latchgarth/snap.Board).Step -/
def f25_J1 (p0_b : Option Addr) (p1_p : Int) (post : Value → H → Prop) (b8 : Addr) (h134 : H) : Prop :=
  ∃ a135 : Addr, (some (Addr.add b8 ((p1_p).toNat * 7))) = some a135 ∧
  ∃ x136 : Int, H.rd h134 (Addr.add (Addr.add a135 1) 0) (Value.int .i64 x136) ∧
  In64 (x136 + (1 : Int)) ∧
  ∃ a137 : Addr, (some (Addr.add b8 ((p1_p).toNat * 7))) = some a137 ∧
  H.wr h134 (Addr.add a137 1) ([(Value.int .i64 (x136 + (1 : Int)))]) fun h138 =>
  ∃ a139 : Addr, (some (Addr.add b8 ((p1_p).toNat * 7))) = some a139 ∧
  ∃ x140 : Int, H.rd h138 (Addr.add (Addr.add a139 1) 0) (Value.int .i64 x140) ∧
  ∃ a141 : Addr, p0_b = some a141 ∧
  ∃ x142 : SV, H.rd h138 (Addr.add (Addr.add a141 0) 0) (Value.slice x142.a x142.len x142.cap) ∧
  VIf (x140 == ((x142.len : Nat) : Int)) (
    ∃ a143 : Addr, (some (Addr.add b8 ((p1_p).toNat * 7))) = some a143 ∧
    H.wr h138 (Addr.add a143 0) ([(Value.int .i64 (2 : Int))]) fun h144 =>
    ∃ a145 : Addr, (some (Addr.add b8 ((p1_p).toNat * 7))) = some a145 ∧
    H.wr h144 (Addr.add a145 1) ([(Value.int .i64 (0 : Int))]) fun h146 =>
    VRet h146 (Value.tuple (List.toArray [(Value.bool false), (Value.slice none 0 0), Value.nilIface])) post) (
    VRet h138 (Value.tuple (List.toArray [(Value.bool false), (Value.slice none 0 0), Value.nilIface])) post)

def f25_J2 (p0_b : Option Addr) (p1_p : Int) (post : Value → H → Prop) (b8 : Addr) (h270 : H) : Prop :=
  ∃ a271 : Addr, (some (Addr.add b8 ((p1_p).toNat * 7))) = some a271 ∧
  ∃ x272 : Int, H.rd h270 (Addr.add (Addr.add a271 1) 0) (Value.int .i64 x272) ∧
  In64 (x272 + (1 : Int)) ∧
  ∃ a273 : Addr, (some (Addr.add b8 ((p1_p).toNat * 7))) = some a273 ∧
  H.wr h270 (Addr.add a273 1) ([(Value.int .i64 (x272 + (1 : Int)))]) fun h274 =>
  ∃ a275 : Addr, (some (Addr.add b8 ((p1_p).toNat * 7))) = some a275 ∧
  ∃ x276 : Int, H.rd h274 (Addr.add (Addr.add a275 1) 0) (Value.int .i64 x276) ∧
  ∃ a277 : Addr, p0_b = some a277 ∧
  ∃ x278 : SV, H.rd h274 (Addr.add (Addr.add a277 0) 0) (Value.slice x278.a x278.len x278.cap) ∧
  VIf (x276 == ((x278.len : Nat) : Int)) (
    ∃ a279 : Addr, (some (Addr.add b8 ((p1_p).toNat * 7))) = some a279 ∧
    H.wr h274 (Addr.add a279 1) ([(Value.int .i64 (0 : Int))]) fun h280 =>
    SemCall Go.Proofs.Try.prog 33 (List.toArray [(Value.pointer (some (Addr.add b8 ((p1_p).toNat * 7))))]) h280 fun v281 h282 =>
    ∃ x283 : SV, ∃ x284 : Bool, v281 = (Value.tuple (List.toArray [(Value.slice x283.a x283.len x283.cap), (Value.bool x284)])) ∧
    VIf x284 (
      SemCall Go.Proofs.Try.prog 34 (List.toArray [(Value.pointer p0_b), (Value.int .i64 p1_p), (Value.slice x283.a x283.len x283.cap)]) h282 fun v285 h286 =>
      ∃ x287 : Bool, ∃ x288 : SV, ∃ x289 : Option (TypeId × Value), v285 = (Value.tuple (List.toArray [(Value.bool x287), (Value.slice x288.a x288.len x288.cap), (errV x289)])) ∧
      VRet h286 (Value.tuple (List.toArray [(Value.bool x287), (Value.slice x288.a x288.len x288.cap), (errV x289)])) post) (
      ∃ a290 : Addr, (some (Addr.add b8 ((p1_p).toNat * 7))) = some a290 ∧
      ∃ x291 : SV, H.rd h282 (Addr.add (Addr.add a290 5) 0) (Value.slice x291.a x291.len x291.cap) ∧
      ∃ a292 : Addr, (some (Addr.add b8 ((p1_p).toNat * 7))) = some a292 ∧
      H.wr h282 (Addr.add a292 4) ([(Value.slice x291.a x291.len x291.cap)]) fun h293 =>
      ∃ a294 : Addr, (some (Addr.add b8 ((p1_p).toNat * 7))) = some a294 ∧
      H.wr h293 (Addr.add a294 5) ([(Value.slice none 0 0)]) fun h295 =>
      VRet h295 (Value.tuple (List.toArray [(Value.bool false), (Value.slice none 0 0), Value.nilIface])) post)) (
    VRet h274 (Value.tuple (List.toArray [(Value.bool false), (Value.slice none 0 0), Value.nilIface])) post)

def f25_sem (p0_b : Option Addr) (p1_p : Int) (h0 : H) (post : Value → H → Prop) : Prop :=
  ∃ a1 : Addr, p0_b = some a1 ∧
  ∃ x2 : SV, H.rd h0 (Addr.add (Addr.add a1 1) 0) (Value.slice x2.a x2.len x2.cap) ∧
  In64 (((x2.len : Nat) : Int) - (1 : Int)) ∧
  SemCall Go.Proofs.Try.prog 28 (List.toArray [(Value.int .i64 p1_p), (Value.int .i64 (0 : Int)), (Value.int .i64 (((x2.len : Nat) : Int) - (1 : Int)))]) h0 fun v3 h4 =>
  ∃ x5 : Bool, v3 = (Value.bool x5) ∧
  VIf (!x5) (
    VRet h4 (Value.tuple (List.toArray [(Value.bool false), (Value.slice none 0 0), (Value.iface 54 (Value.int .i64 (1 : Int)))])) post) (
    ∃ a6 : Addr, p0_b = some a6 ∧
    ∃ x7 : SV, H.rd h4 (Addr.add (Addr.add a6 1) 0) (Value.slice x7.a x7.len x7.cap) ∧
    ∃ b8 : Addr, x7.a = some b8 ∧ 0 ≤ p1_p ∧ p1_p < ((x7.len : Nat) : Int) ∧
    ∃ a9 : Addr, (some (Addr.add b8 ((p1_p).toNat * 7))) = some a9 ∧
    ∃ x10 : Int, H.rd h4 (Addr.add (Addr.add a9 0) 0) (Value.int .i64 x10) ∧
    VIf (x10 == (0 : Int)) (
      VRet h4 (Value.tuple (List.toArray [(Value.bool false), (Value.slice none 0 0), (Value.iface 54 (Value.int .i64 (7 : Int)))])) post) (
      VIf (x10 == (1 : Int)) (
        ∃ R11 : H → Prop, (
          ∃ a12 : Addr, (some (Addr.add b8 ((p1_p).toNat * 7))) = some a12 ∧
          ∃ a13 : Addr, p0_b = some a13 ∧
          ∃ a14 : Addr, (some (Addr.add b8 ((p1_p).toNat * 7))) = some a14 ∧
          (
            ∃ x15 : SV, H.rd h4 (Addr.add (Addr.add a12 4) 0) (Value.slice x15.a x15.len x15.cap) ∧
            (
              ∃ x16 : SV, H.rd h4 (Addr.add (Addr.add a13 0) 0) (Value.slice x16.a x16.len x16.cap) ∧
              ∃ x17 : Int, H.rd h4 (Addr.add (Addr.add a14 1) 0) (Value.int .i64 x17) ∧
              ∃ b18 : Addr, x16.a = some b18 ∧ 0 ≤ x17 ∧ x17 < ((x16.len : Nat) : Int) ∧
              ∃ x19 : Int, H.rd h4 (Addr.add (Addr.add b18 ((x17).toNat * 3)) 0) (Value.int .i64 x19) ∧
              ∃ x20 : Int, H.rd h4 (Addr.add (Addr.add b18 ((x17).toNat * 3)) 1) (Value.int .i64 x20) ∧
              ∃ x21 : SV, H.rd h4 (Addr.add (Addr.add b18 ((x17).toNat * 3)) 2) (Value.slice x21.a x21.len x21.cap) ∧
              H.new h4 [(Value.int .i64 x19), (Value.int .i64 x20), (Value.slice x21.a x21.len x21.cap)] fun r22 h23 =>
              appVC Go.Proofs.Try.prog 71 (Value.slice x15.a x15.len x15.cap) (Value.slice (some (Addr.mk r22 0 none)) 1 1) h23 fun x24 h25 =>
              ∃ a26 : Addr, (some (Addr.add b8 ((p1_p).toNat * 7))) = some a26 ∧
              H.wr h25 (Addr.add a26 4) ([(Value.slice x24.a x24.len x24.cap)]) fun h27 =>
              (∃ h28, Gh h27 h28 ∧ R11 h28)) ∧
            (
              ∃ x29 : Int, H.rd h4 (Addr.add (Addr.add a14 1) 0) (Value.int .i64 x29) ∧
              ∃ x30 : SV, H.rd h4 (Addr.add (Addr.add a13 0) 0) (Value.slice x30.a x30.len x30.cap) ∧
              ∃ b31 : Addr, x30.a = some b31 ∧ 0 ≤ x29 ∧ x29 < ((x30.len : Nat) : Int) ∧
              ∃ x32 : Int, H.rd h4 (Addr.add (Addr.add b31 ((x29).toNat * 3)) 0) (Value.int .i64 x32) ∧
              ∃ x33 : Int, H.rd h4 (Addr.add (Addr.add b31 ((x29).toNat * 3)) 1) (Value.int .i64 x33) ∧
              ∃ x34 : SV, H.rd h4 (Addr.add (Addr.add b31 ((x29).toNat * 3)) 2) (Value.slice x34.a x34.len x34.cap) ∧
              H.new h4 [(Value.int .i64 x32), (Value.int .i64 x33), (Value.slice x34.a x34.len x34.cap)] fun r35 h36 =>
              appVC Go.Proofs.Try.prog 71 (Value.slice x15.a x15.len x15.cap) (Value.slice (some (Addr.mk r35 0 none)) 1 1) h36 fun x37 h38 =>
              ∃ a39 : Addr, (some (Addr.add b8 ((p1_p).toNat * 7))) = some a39 ∧
              H.wr h38 (Addr.add a39 4) ([(Value.slice x37.a x37.len x37.cap)]) fun h40 =>
              (∃ h41, Gh h40 h41 ∧ R11 h41))) ∧
          (
            (
              ∃ x42 : SV, H.rd h4 (Addr.add (Addr.add a13 0) 0) (Value.slice x42.a x42.len x42.cap) ∧
              (
                ∃ x43 : SV, H.rd h4 (Addr.add (Addr.add a12 4) 0) (Value.slice x43.a x43.len x43.cap) ∧
                ∃ x44 : Int, H.rd h4 (Addr.add (Addr.add a14 1) 0) (Value.int .i64 x44) ∧
                ∃ b45 : Addr, x42.a = some b45 ∧ 0 ≤ x44 ∧ x44 < ((x42.len : Nat) : Int) ∧
                ∃ x46 : Int, H.rd h4 (Addr.add (Addr.add b45 ((x44).toNat * 3)) 0) (Value.int .i64 x46) ∧
                ∃ x47 : Int, H.rd h4 (Addr.add (Addr.add b45 ((x44).toNat * 3)) 1) (Value.int .i64 x47) ∧
                ∃ x48 : SV, H.rd h4 (Addr.add (Addr.add b45 ((x44).toNat * 3)) 2) (Value.slice x48.a x48.len x48.cap) ∧
                H.new h4 [(Value.int .i64 x46), (Value.int .i64 x47), (Value.slice x48.a x48.len x48.cap)] fun r49 h50 =>
                appVC Go.Proofs.Try.prog 71 (Value.slice x43.a x43.len x43.cap) (Value.slice (some (Addr.mk r49 0 none)) 1 1) h50 fun x51 h52 =>
                ∃ a53 : Addr, (some (Addr.add b8 ((p1_p).toNat * 7))) = some a53 ∧
                H.wr h52 (Addr.add a53 4) ([(Value.slice x51.a x51.len x51.cap)]) fun h54 =>
                (∃ h55, Gh h54 h55 ∧ R11 h55)) ∧
              (
                ∃ x56 : Int, H.rd h4 (Addr.add (Addr.add a14 1) 0) (Value.int .i64 x56) ∧
                ∃ b57 : Addr, x42.a = some b57 ∧ 0 ≤ x56 ∧ x56 < ((x42.len : Nat) : Int) ∧
                (
                ∃ x58 : SV, H.rd h4 (Addr.add (Addr.add a12 4) 0) (Value.slice x58.a x58.len x58.cap) ∧
                ∃ x59 : Int, H.rd h4 (Addr.add (Addr.add b57 ((x56).toNat * 3)) 0) (Value.int .i64 x59) ∧
                ∃ x60 : Int, H.rd h4 (Addr.add (Addr.add b57 ((x56).toNat * 3)) 1) (Value.int .i64 x60) ∧
                ∃ x61 : SV, H.rd h4 (Addr.add (Addr.add b57 ((x56).toNat * 3)) 2) (Value.slice x61.a x61.len x61.cap) ∧
                H.new h4 [(Value.int .i64 x59), (Value.int .i64 x60), (Value.slice x61.a x61.len x61.cap)] fun r62 h63 =>
                appVC Go.Proofs.Try.prog 71 (Value.slice x58.a x58.len x58.cap) (Value.slice (some (Addr.mk r62 0 none)) 1 1) h63 fun x64 h65 =>
                ∃ a66 : Addr, (some (Addr.add b8 ((p1_p).toNat * 7))) = some a66 ∧
                H.wr h65 (Addr.add a66 4) ([(Value.slice x64.a x64.len x64.cap)]) fun h67 =>
                (∃ h68, Gh h67 h68 ∧ R11 h68)) ∧
                (
                ∃ x69 : Int, H.rd h4 (Addr.add (Addr.add b57 ((x56).toNat * 3)) 0) (Value.int .i64 x69) ∧
                ∃ x70 : Int, H.rd h4 (Addr.add (Addr.add b57 ((x56).toNat * 3)) 1) (Value.int .i64 x70) ∧
                ∃ x71 : SV, H.rd h4 (Addr.add (Addr.add b57 ((x56).toNat * 3)) 2) (Value.slice x71.a x71.len x71.cap) ∧
                (
                ∃ x72 : SV, H.rd h4 (Addr.add (Addr.add a12 4) 0) (Value.slice x72.a x72.len x72.cap) ∧
                H.new h4 [(Value.int .i64 x69), (Value.int .i64 x70), (Value.slice x71.a x71.len x71.cap)] fun r73 h74 =>
                appVC Go.Proofs.Try.prog 71 (Value.slice x72.a x72.len x72.cap) (Value.slice (some (Addr.mk r73 0 none)) 1 1) h74 fun x75 h76 =>
                ∃ a77 : Addr, (some (Addr.add b8 ((p1_p).toNat * 7))) = some a77 ∧
                H.wr h76 (Addr.add a77 4) ([(Value.slice x75.a x75.len x75.cap)]) fun h78 =>
                (∃ h79, Gh h78 h79 ∧ R11 h79)) ∧
                (
                H.new h4 [(Value.int .i64 x69), (Value.int .i64 x70), (Value.slice x71.a x71.len x71.cap)] fun r80 h81 =>
                ∃ x82 : SV, H.rd h81 (Addr.add (Addr.add a12 4) 0) (Value.slice x82.a x82.len x82.cap) ∧
                appVC Go.Proofs.Try.prog 71 (Value.slice x82.a x82.len x82.cap) (Value.slice (some (Addr.mk r80 0 none)) 1 1) h81 fun x83 h84 =>
                ∃ a85 : Addr, (some (Addr.add b8 ((p1_p).toNat * 7))) = some a85 ∧
                H.wr h84 (Addr.add a85 4) ([(Value.slice x83.a x83.len x83.cap)]) fun h86 =>
                (∃ h87, Gh h86 h87 ∧ R11 h87))))) ∧
            (
              ∃ x88 : Int, H.rd h4 (Addr.add (Addr.add a14 1) 0) (Value.int .i64 x88) ∧
              (
                ∃ x89 : SV, H.rd h4 (Addr.add (Addr.add a12 4) 0) (Value.slice x89.a x89.len x89.cap) ∧
                ∃ x90 : SV, H.rd h4 (Addr.add (Addr.add a13 0) 0) (Value.slice x90.a x90.len x90.cap) ∧
                ∃ b91 : Addr, x90.a = some b91 ∧ 0 ≤ x88 ∧ x88 < ((x90.len : Nat) : Int) ∧
                ∃ x92 : Int, H.rd h4 (Addr.add (Addr.add b91 ((x88).toNat * 3)) 0) (Value.int .i64 x92) ∧
                ∃ x93 : Int, H.rd h4 (Addr.add (Addr.add b91 ((x88).toNat * 3)) 1) (Value.int .i64 x93) ∧
                ∃ x94 : SV, H.rd h4 (Addr.add (Addr.add b91 ((x88).toNat * 3)) 2) (Value.slice x94.a x94.len x94.cap) ∧
                H.new h4 [(Value.int .i64 x92), (Value.int .i64 x93), (Value.slice x94.a x94.len x94.cap)] fun r95 h96 =>
                appVC Go.Proofs.Try.prog 71 (Value.slice x89.a x89.len x89.cap) (Value.slice (some (Addr.mk r95 0 none)) 1 1) h96 fun x97 h98 =>
                ∃ a99 : Addr, (some (Addr.add b8 ((p1_p).toNat * 7))) = some a99 ∧
                H.wr h98 (Addr.add a99 4) ([(Value.slice x97.a x97.len x97.cap)]) fun h100 =>
                (∃ h101, Gh h100 h101 ∧ R11 h101)) ∧
              (
                ∃ x102 : SV, H.rd h4 (Addr.add (Addr.add a13 0) 0) (Value.slice x102.a x102.len x102.cap) ∧
                ∃ b103 : Addr, x102.a = some b103 ∧ 0 ≤ x88 ∧ x88 < ((x102.len : Nat) : Int) ∧
                (
                ∃ x104 : SV, H.rd h4 (Addr.add (Addr.add a12 4) 0) (Value.slice x104.a x104.len x104.cap) ∧
                ∃ x105 : Int, H.rd h4 (Addr.add (Addr.add b103 ((x88).toNat * 3)) 0) (Value.int .i64 x105) ∧
                ∃ x106 : Int, H.rd h4 (Addr.add (Addr.add b103 ((x88).toNat * 3)) 1) (Value.int .i64 x106) ∧
                ∃ x107 : SV, H.rd h4 (Addr.add (Addr.add b103 ((x88).toNat * 3)) 2) (Value.slice x107.a x107.len x107.cap) ∧
                H.new h4 [(Value.int .i64 x105), (Value.int .i64 x106), (Value.slice x107.a x107.len x107.cap)] fun r108 h109 =>
                appVC Go.Proofs.Try.prog 71 (Value.slice x104.a x104.len x104.cap) (Value.slice (some (Addr.mk r108 0 none)) 1 1) h109 fun x110 h111 =>
                ∃ a112 : Addr, (some (Addr.add b8 ((p1_p).toNat * 7))) = some a112 ∧
                H.wr h111 (Addr.add a112 4) ([(Value.slice x110.a x110.len x110.cap)]) fun h113 =>
                (∃ h114, Gh h113 h114 ∧ R11 h114)) ∧
                (
                ∃ x115 : Int, H.rd h4 (Addr.add (Addr.add b103 ((x88).toNat * 3)) 0) (Value.int .i64 x115) ∧
                ∃ x116 : Int, H.rd h4 (Addr.add (Addr.add b103 ((x88).toNat * 3)) 1) (Value.int .i64 x116) ∧
                ∃ x117 : SV, H.rd h4 (Addr.add (Addr.add b103 ((x88).toNat * 3)) 2) (Value.slice x117.a x117.len x117.cap) ∧
                (
                ∃ x118 : SV, H.rd h4 (Addr.add (Addr.add a12 4) 0) (Value.slice x118.a x118.len x118.cap) ∧
                H.new h4 [(Value.int .i64 x115), (Value.int .i64 x116), (Value.slice x117.a x117.len x117.cap)] fun r119 h120 =>
                appVC Go.Proofs.Try.prog 71 (Value.slice x118.a x118.len x118.cap) (Value.slice (some (Addr.mk r119 0 none)) 1 1) h120 fun x121 h122 =>
                ∃ a123 : Addr, (some (Addr.add b8 ((p1_p).toNat * 7))) = some a123 ∧
                H.wr h122 (Addr.add a123 4) ([(Value.slice x121.a x121.len x121.cap)]) fun h124 =>
                (∃ h125, Gh h124 h125 ∧ R11 h125)) ∧
                (
                H.new h4 [(Value.int .i64 x115), (Value.int .i64 x116), (Value.slice x117.a x117.len x117.cap)] fun r126 h127 =>
                ∃ x128 : SV, H.rd h127 (Addr.add (Addr.add a12 4) 0) (Value.slice x128.a x128.len x128.cap) ∧
                appVC Go.Proofs.Try.prog 71 (Value.slice x128.a x128.len x128.cap) (Value.slice (some (Addr.mk r126 0 none)) 1 1) h127 fun x129 h130 =>
                ∃ a131 : Addr, (some (Addr.add b8 ((p1_p).toNat * 7))) = some a131 ∧
                H.wr h130 (Addr.add a131 4) ([(Value.slice x129.a x129.len x129.cap)]) fun h132 =>
                (∃ h133, Gh h132 h133 ∧ R11 h133))))))) ∧
        ∀ (_ : F) (h134 : H), R11 h134 →
        f25_J1 p0_b p1_p post b8 h134) (
        VIf (x10 == (2 : Int)) (
          ∃ R147 : H → Prop, (
            ∃ a148 : Addr, (some (Addr.add b8 ((p1_p).toNat * 7))) = some a148 ∧
            ∃ a149 : Addr, p0_b = some a149 ∧
            ∃ a150 : Addr, (some (Addr.add b8 ((p1_p).toNat * 7))) = some a150 ∧
            (
              ∃ x151 : SV, H.rd h4 (Addr.add (Addr.add a148 5) 0) (Value.slice x151.a x151.len x151.cap) ∧
              (
                ∃ x152 : SV, H.rd h4 (Addr.add (Addr.add a149 0) 0) (Value.slice x152.a x152.len x152.cap) ∧
                ∃ x153 : Int, H.rd h4 (Addr.add (Addr.add a150 1) 0) (Value.int .i64 x153) ∧
                ∃ b154 : Addr, x152.a = some b154 ∧ 0 ≤ x153 ∧ x153 < ((x152.len : Nat) : Int) ∧
                ∃ x155 : Int, H.rd h4 (Addr.add (Addr.add b154 ((x153).toNat * 3)) 0) (Value.int .i64 x155) ∧
                ∃ x156 : Int, H.rd h4 (Addr.add (Addr.add b154 ((x153).toNat * 3)) 1) (Value.int .i64 x156) ∧
                ∃ x157 : SV, H.rd h4 (Addr.add (Addr.add b154 ((x153).toNat * 3)) 2) (Value.slice x157.a x157.len x157.cap) ∧
                H.new h4 [(Value.int .i64 x155), (Value.int .i64 x156), (Value.slice x157.a x157.len x157.cap)] fun r158 h159 =>
                appVC Go.Proofs.Try.prog 71 (Value.slice x151.a x151.len x151.cap) (Value.slice (some (Addr.mk r158 0 none)) 1 1) h159 fun x160 h161 =>
                ∃ a162 : Addr, (some (Addr.add b8 ((p1_p).toNat * 7))) = some a162 ∧
                H.wr h161 (Addr.add a162 5) ([(Value.slice x160.a x160.len x160.cap)]) fun h163 =>
                (∃ h164, Gh h163 h164 ∧ R147 h164)) ∧
              (
                ∃ x165 : Int, H.rd h4 (Addr.add (Addr.add a150 1) 0) (Value.int .i64 x165) ∧
                ∃ x166 : SV, H.rd h4 (Addr.add (Addr.add a149 0) 0) (Value.slice x166.a x166.len x166.cap) ∧
                ∃ b167 : Addr, x166.a = some b167 ∧ 0 ≤ x165 ∧ x165 < ((x166.len : Nat) : Int) ∧
                ∃ x168 : Int, H.rd h4 (Addr.add (Addr.add b167 ((x165).toNat * 3)) 0) (Value.int .i64 x168) ∧
                ∃ x169 : Int, H.rd h4 (Addr.add (Addr.add b167 ((x165).toNat * 3)) 1) (Value.int .i64 x169) ∧
                ∃ x170 : SV, H.rd h4 (Addr.add (Addr.add b167 ((x165).toNat * 3)) 2) (Value.slice x170.a x170.len x170.cap) ∧
                H.new h4 [(Value.int .i64 x168), (Value.int .i64 x169), (Value.slice x170.a x170.len x170.cap)] fun r171 h172 =>
                appVC Go.Proofs.Try.prog 71 (Value.slice x151.a x151.len x151.cap) (Value.slice (some (Addr.mk r171 0 none)) 1 1) h172 fun x173 h174 =>
                ∃ a175 : Addr, (some (Addr.add b8 ((p1_p).toNat * 7))) = some a175 ∧
                H.wr h174 (Addr.add a175 5) ([(Value.slice x173.a x173.len x173.cap)]) fun h176 =>
                (∃ h177, Gh h176 h177 ∧ R147 h177))) ∧
            (
              (
                ∃ x178 : SV, H.rd h4 (Addr.add (Addr.add a149 0) 0) (Value.slice x178.a x178.len x178.cap) ∧
                (
                ∃ x179 : SV, H.rd h4 (Addr.add (Addr.add a148 5) 0) (Value.slice x179.a x179.len x179.cap) ∧
                ∃ x180 : Int, H.rd h4 (Addr.add (Addr.add a150 1) 0) (Value.int .i64 x180) ∧
                ∃ b181 : Addr, x178.a = some b181 ∧ 0 ≤ x180 ∧ x180 < ((x178.len : Nat) : Int) ∧
                ∃ x182 : Int, H.rd h4 (Addr.add (Addr.add b181 ((x180).toNat * 3)) 0) (Value.int .i64 x182) ∧
                ∃ x183 : Int, H.rd h4 (Addr.add (Addr.add b181 ((x180).toNat * 3)) 1) (Value.int .i64 x183) ∧
                ∃ x184 : SV, H.rd h4 (Addr.add (Addr.add b181 ((x180).toNat * 3)) 2) (Value.slice x184.a x184.len x184.cap) ∧
                H.new h4 [(Value.int .i64 x182), (Value.int .i64 x183), (Value.slice x184.a x184.len x184.cap)] fun r185 h186 =>
                appVC Go.Proofs.Try.prog 71 (Value.slice x179.a x179.len x179.cap) (Value.slice (some (Addr.mk r185 0 none)) 1 1) h186 fun x187 h188 =>
                ∃ a189 : Addr, (some (Addr.add b8 ((p1_p).toNat * 7))) = some a189 ∧
                H.wr h188 (Addr.add a189 5) ([(Value.slice x187.a x187.len x187.cap)]) fun h190 =>
                (∃ h191, Gh h190 h191 ∧ R147 h191)) ∧
                (
                ∃ x192 : Int, H.rd h4 (Addr.add (Addr.add a150 1) 0) (Value.int .i64 x192) ∧
                ∃ b193 : Addr, x178.a = some b193 ∧ 0 ≤ x192 ∧ x192 < ((x178.len : Nat) : Int) ∧
                (
                ∃ x194 : SV, H.rd h4 (Addr.add (Addr.add a148 5) 0) (Value.slice x194.a x194.len x194.cap) ∧
                ∃ x195 : Int, H.rd h4 (Addr.add (Addr.add b193 ((x192).toNat * 3)) 0) (Value.int .i64 x195) ∧
                ∃ x196 : Int, H.rd h4 (Addr.add (Addr.add b193 ((x192).toNat * 3)) 1) (Value.int .i64 x196) ∧
                ∃ x197 : SV, H.rd h4 (Addr.add (Addr.add b193 ((x192).toNat * 3)) 2) (Value.slice x197.a x197.len x197.cap) ∧
                H.new h4 [(Value.int .i64 x195), (Value.int .i64 x196), (Value.slice x197.a x197.len x197.cap)] fun r198 h199 =>
                appVC Go.Proofs.Try.prog 71 (Value.slice x194.a x194.len x194.cap) (Value.slice (some (Addr.mk r198 0 none)) 1 1) h199 fun x200 h201 =>
                ∃ a202 : Addr, (some (Addr.add b8 ((p1_p).toNat * 7))) = some a202 ∧
                H.wr h201 (Addr.add a202 5) ([(Value.slice x200.a x200.len x200.cap)]) fun h203 =>
                (∃ h204, Gh h203 h204 ∧ R147 h204)) ∧
                (
                ∃ x205 : Int, H.rd h4 (Addr.add (Addr.add b193 ((x192).toNat * 3)) 0) (Value.int .i64 x205) ∧
                ∃ x206 : Int, H.rd h4 (Addr.add (Addr.add b193 ((x192).toNat * 3)) 1) (Value.int .i64 x206) ∧
                ∃ x207 : SV, H.rd h4 (Addr.add (Addr.add b193 ((x192).toNat * 3)) 2) (Value.slice x207.a x207.len x207.cap) ∧
                (
                ∃ x208 : SV, H.rd h4 (Addr.add (Addr.add a148 5) 0) (Value.slice x208.a x208.len x208.cap) ∧
                H.new h4 [(Value.int .i64 x205), (Value.int .i64 x206), (Value.slice x207.a x207.len x207.cap)] fun r209 h210 =>
                appVC Go.Proofs.Try.prog 71 (Value.slice x208.a x208.len x208.cap) (Value.slice (some (Addr.mk r209 0 none)) 1 1) h210 fun x211 h212 =>
                ∃ a213 : Addr, (some (Addr.add b8 ((p1_p).toNat * 7))) = some a213 ∧
                H.wr h212 (Addr.add a213 5) ([(Value.slice x211.a x211.len x211.cap)]) fun h214 =>
                (∃ h215, Gh h214 h215 ∧ R147 h215)) ∧
                (
                H.new h4 [(Value.int .i64 x205), (Value.int .i64 x206), (Value.slice x207.a x207.len x207.cap)] fun r216 h217 =>
                ∃ x218 : SV, H.rd h217 (Addr.add (Addr.add a148 5) 0) (Value.slice x218.a x218.len x218.cap) ∧
                appVC Go.Proofs.Try.prog 71 (Value.slice x218.a x218.len x218.cap) (Value.slice (some (Addr.mk r216 0 none)) 1 1) h217 fun x219 h220 =>
                ∃ a221 : Addr, (some (Addr.add b8 ((p1_p).toNat * 7))) = some a221 ∧
                H.wr h220 (Addr.add a221 5) ([(Value.slice x219.a x219.len x219.cap)]) fun h222 =>
                (∃ h223, Gh h222 h223 ∧ R147 h223))))) ∧
              (
                ∃ x224 : Int, H.rd h4 (Addr.add (Addr.add a150 1) 0) (Value.int .i64 x224) ∧
                (
                ∃ x225 : SV, H.rd h4 (Addr.add (Addr.add a148 5) 0) (Value.slice x225.a x225.len x225.cap) ∧
                ∃ x226 : SV, H.rd h4 (Addr.add (Addr.add a149 0) 0) (Value.slice x226.a x226.len x226.cap) ∧
                ∃ b227 : Addr, x226.a = some b227 ∧ 0 ≤ x224 ∧ x224 < ((x226.len : Nat) : Int) ∧
                ∃ x228 : Int, H.rd h4 (Addr.add (Addr.add b227 ((x224).toNat * 3)) 0) (Value.int .i64 x228) ∧
                ∃ x229 : Int, H.rd h4 (Addr.add (Addr.add b227 ((x224).toNat * 3)) 1) (Value.int .i64 x229) ∧
                ∃ x230 : SV, H.rd h4 (Addr.add (Addr.add b227 ((x224).toNat * 3)) 2) (Value.slice x230.a x230.len x230.cap) ∧
                H.new h4 [(Value.int .i64 x228), (Value.int .i64 x229), (Value.slice x230.a x230.len x230.cap)] fun r231 h232 =>
                appVC Go.Proofs.Try.prog 71 (Value.slice x225.a x225.len x225.cap) (Value.slice (some (Addr.mk r231 0 none)) 1 1) h232 fun x233 h234 =>
                ∃ a235 : Addr, (some (Addr.add b8 ((p1_p).toNat * 7))) = some a235 ∧
                H.wr h234 (Addr.add a235 5) ([(Value.slice x233.a x233.len x233.cap)]) fun h236 =>
                (∃ h237, Gh h236 h237 ∧ R147 h237)) ∧
                (
                ∃ x238 : SV, H.rd h4 (Addr.add (Addr.add a149 0) 0) (Value.slice x238.a x238.len x238.cap) ∧
                ∃ b239 : Addr, x238.a = some b239 ∧ 0 ≤ x224 ∧ x224 < ((x238.len : Nat) : Int) ∧
                (
                ∃ x240 : SV, H.rd h4 (Addr.add (Addr.add a148 5) 0) (Value.slice x240.a x240.len x240.cap) ∧
                ∃ x241 : Int, H.rd h4 (Addr.add (Addr.add b239 ((x224).toNat * 3)) 0) (Value.int .i64 x241) ∧
                ∃ x242 : Int, H.rd h4 (Addr.add (Addr.add b239 ((x224).toNat * 3)) 1) (Value.int .i64 x242) ∧
                ∃ x243 : SV, H.rd h4 (Addr.add (Addr.add b239 ((x224).toNat * 3)) 2) (Value.slice x243.a x243.len x243.cap) ∧
                H.new h4 [(Value.int .i64 x241), (Value.int .i64 x242), (Value.slice x243.a x243.len x243.cap)] fun r244 h245 =>
                appVC Go.Proofs.Try.prog 71 (Value.slice x240.a x240.len x240.cap) (Value.slice (some (Addr.mk r244 0 none)) 1 1) h245 fun x246 h247 =>
                ∃ a248 : Addr, (some (Addr.add b8 ((p1_p).toNat * 7))) = some a248 ∧
                H.wr h247 (Addr.add a248 5) ([(Value.slice x246.a x246.len x246.cap)]) fun h249 =>
                (∃ h250, Gh h249 h250 ∧ R147 h250)) ∧
                (
                ∃ x251 : Int, H.rd h4 (Addr.add (Addr.add b239 ((x224).toNat * 3)) 0) (Value.int .i64 x251) ∧
                ∃ x252 : Int, H.rd h4 (Addr.add (Addr.add b239 ((x224).toNat * 3)) 1) (Value.int .i64 x252) ∧
                ∃ x253 : SV, H.rd h4 (Addr.add (Addr.add b239 ((x224).toNat * 3)) 2) (Value.slice x253.a x253.len x253.cap) ∧
                (
                ∃ x254 : SV, H.rd h4 (Addr.add (Addr.add a148 5) 0) (Value.slice x254.a x254.len x254.cap) ∧
                H.new h4 [(Value.int .i64 x251), (Value.int .i64 x252), (Value.slice x253.a x253.len x253.cap)] fun r255 h256 =>
                appVC Go.Proofs.Try.prog 71 (Value.slice x254.a x254.len x254.cap) (Value.slice (some (Addr.mk r255 0 none)) 1 1) h256 fun x257 h258 =>
                ∃ a259 : Addr, (some (Addr.add b8 ((p1_p).toNat * 7))) = some a259 ∧
                H.wr h258 (Addr.add a259 5) ([(Value.slice x257.a x257.len x257.cap)]) fun h260 =>
                (∃ h261, Gh h260 h261 ∧ R147 h261)) ∧
                (
                H.new h4 [(Value.int .i64 x251), (Value.int .i64 x252), (Value.slice x253.a x253.len x253.cap)] fun r262 h263 =>
                ∃ x264 : SV, H.rd h263 (Addr.add (Addr.add a148 5) 0) (Value.slice x264.a x264.len x264.cap) ∧
                appVC Go.Proofs.Try.prog 71 (Value.slice x264.a x264.len x264.cap) (Value.slice (some (Addr.mk r262 0 none)) 1 1) h263 fun x265 h266 =>
                ∃ a267 : Addr, (some (Addr.add b8 ((p1_p).toNat * 7))) = some a267 ∧
                H.wr h266 (Addr.add a267 5) ([(Value.slice x265.a x265.len x265.cap)]) fun h268 =>
                (∃ h269, Gh h268 h269 ∧ R147 h269))))))) ∧
          ∀ (_ : F) (h270 : H), R147 h270 →
          f25_J2 p0_b p1_p post b8 h270) (
          VIf (x10 == (3 : Int)) (
            ∃ a296 : Addr, p0_b = some a296 ∧
            ∃ x297 : SV, H.rd h4 (Addr.add (Addr.add a296 0) 0) (Value.slice x297.a x297.len x297.cap) ∧
            ∃ a298 : Addr, (some (Addr.add b8 ((p1_p).toNat * 7))) = some a298 ∧
            ∃ x299 : Int, H.rd h4 (Addr.add (Addr.add a298 3) 0) (Value.int .i64 x299) ∧
            ∃ a300 : Addr, p0_b = some a300 ∧
            ∃ x301 : SV, H.rd h4 (Addr.add (Addr.add a300 0) 0) (Value.slice x301.a x301.len x301.cap) ∧
            ∃ b302 : Addr, x301.a = some b302 ∧ 0 ≤ p1_p ∧ p1_p < ((x301.len : Nat) : Int) ∧
            ∃ x303 : Int, H.rd h4 (Addr.add (Addr.add (Addr.add b302 ((p1_p).toNat * 3)) 1) 0) (Value.int .i64 x303) ∧
            In64 (x303 + (1 : Int)) ∧
            ∃ a304 : Addr, (some (Addr.add b8 ((p1_p).toNat * 7))) = some a304 ∧
            ∃ x305 : SV, H.rd h4 (Addr.add (Addr.add a304 6) 0) (Value.slice x305.a x305.len x305.cap) ∧
            ∃ b306 : Addr, x297.a = some b306 ∧ 0 ≤ p1_p ∧ p1_p < ((x297.len : Nat) : Int) ∧
            ([(Value.int .i64 x299), (Value.int .i64 (x303 + (1 : Int))), (Value.slice x305.a x305.len x305.cap)]).length = 3 ∧ (Program.underlying Go.Proofs.Try.prog 76).isSome = true ∧
            H.wr h4 (Addr.add b306 ((p1_p).toNat * 3)) ([(Value.int .i64 x299), (Value.int .i64 (x303 + (1 : Int))), (Value.slice x305.a x305.len x305.cap)]) fun h307 =>
            ∃ a308 : Addr, (some (Addr.add b8 ((p1_p).toNat * 7))) = some a308 ∧
            ([(Value.int .i64 (0 : Int)), (Value.int .i64 (0 : Int)), (Value.bool false), (Value.int .i64 (0 : Int)), (Value.slice none 0 0), (Value.slice none 0 0), (Value.slice none 0 0)]).length = 7 ∧ (Program.underlying Go.Proofs.Try.prog 79).isSome = true ∧
            H.wr h307 a308 ([(Value.int .i64 (0 : Int)), (Value.int .i64 (0 : Int)), (Value.bool false), (Value.int .i64 (0 : Int)), (Value.slice none 0 0), (Value.slice none 0 0), (Value.slice none 0 0)]) fun h309 =>
            VRet h309 (Value.tuple (List.toArray [(Value.bool true), (Value.slice none 0 0), Value.nilIface])) post) (
            VRet h4 (Value.tuple (List.toArray [(Value.bool false), (Value.slice none 0 0), Value.nilIface])) post)))))

def f25_hint : Hint := (.node .leaf (.node .leaf (.node .leaf (.node (.node .leaf (.node (.node .leaf (.node .leaf (.node .leaf (.node (.node (.join [] .any) .leaf) (.node .leaf (.node (.node (.join [] .any) .leaf) (.node .leaf (.node (.node (.tail 24) .leaf) .leaf)))))))) .leaf)) .leaf))))

theorem f25_eq (p0_b : Option Addr) (p1_p : Int) (h0 : H) (post : Value → H → Prop) : exec Try.prog (bodyOf Try.f25) f25_hint (retQ Try.prog Try.f25 post) (F0 [(Value.pointer p0_b), (Value.int .i64 p1_p)]) h0 = f25_sem p0_b p1_p h0 post := by kernel_rfl

theorem f25_call (p0_b : Option Addr) (p1_p : Int) (h0 : H) (post : Value → H → Prop) (hx : f25_sem p0_b p1_p h0 post) : SemCall Try.prog 25 (List.toArray [(Value.pointer p0_b), (Value.int .i64 p1_p)]) h0 post :=
  sem_of_exec (g := f25_hint) mixed Try.func25 (bodyOf_eq (by kernel_rfl)) (by kernel_rfl) ((f25_eq p0_b p1_p h0 post).mpr hx)

/- latchgarth/latchgarthsame.Ints -/
def f26_L1 (p0_a : SV) (p1_b : SV) (post : Value → H → Prop) (R1 : H → Prop) (I2 : Nat → Int → H → Prop) (n3 : Nat) (x6_i : Int) (h7 : H) : Prop :=
  VIf (decide (x6_i < ((p0_a.len : Nat) : Int))) (
    ∃ b8 : Addr, p0_a.a = some b8 ∧ 0 ≤ x6_i ∧ x6_i < ((p0_a.len : Nat) : Int) ∧
    ∃ x9 : Int, H.rd h7 (Addr.add (Addr.add b8 ((x6_i).toNat * 1)) 0) (Value.int .i64 x9) ∧
    ∃ b10 : Addr, p1_b.a = some b10 ∧ 0 ≤ x6_i ∧ x6_i < ((p1_b.len : Nat) : Int) ∧
    ∃ x11 : Int, H.rd h7 (Addr.add (Addr.add b10 ((x6_i).toNat * 1)) 0) (Value.int .i64 x11) ∧
    VIf (x9 != x11) (
      VRet h7 (Value.bool false) post) (
      In64 (x6_i + (1 : Int)) ∧
      ∃ m4, m4 < n3 ∧ (∃ h12, Gh h7 h12 ∧ I2 m4 (x6_i + (1 : Int)) h12))) (
    (∃ h13, Gh h7 h13 ∧ R1 h13))

def f26_sem (p0_a : SV) (p1_b : SV) (h0 : H) (post : Value → H → Prop) : Prop :=
  VIf (((p0_a.len : Nat) : Int) != ((p1_b.len : Nat) : Int)) (
    VRet h0 (Value.bool false) post) (
    ∃ R1 : H → Prop, (
      ∃ I2 : Nat → Int → H → Prop, (∃ n3, (∃ h5, Gh h0 h5 ∧ I2 n3 (0 : Int) h5)) ∧
      ∀ (n3 : Nat) (_ : F) (x6_i : Int) (h7 : H), I2 n3 x6_i h7 →
      f26_L1 p0_a p1_b post R1 I2 n3 x6_i h7) ∧
    ∀ (_ : F) (h14 : H), R1 h14 →
    VRet h14 (Value.bool true) post)

def f26_hint : Hint := (.node .leaf (.node .leaf (.node (.node .leaf (.join [] (.node (.loop [(5, .int)] .leaf) .leaf))) .leaf)))

theorem f26_eq (p0_a : SV) (p1_b : SV) (h0 : H) (post : Value → H → Prop) : exec Try.prog (bodyOf Try.f26) f26_hint (retQ Try.prog Try.f26 post) (F0 [(Value.slice p0_a.a p0_a.len p0_a.cap), (Value.slice p1_b.a p1_b.len p1_b.cap)]) h0 = f26_sem p0_a p1_b h0 post := by kernel_rfl

theorem f26_call (p0_a : SV) (p1_b : SV) (h0 : H) (post : Value → H → Prop) (hx : f26_sem p0_a p1_b h0 post) : SemCall Try.prog 26 (List.toArray [(Value.slice p0_a.a p0_a.len p0_a.cap), (Value.slice p1_b.a p1_b.len p1_b.cap)]) h0 post :=
  sem_of_exec (g := f26_hint) mixed Try.func26 (bodyOf_eq (by kernel_rfl)) (by kernel_rfl) ((f26_eq p0_a p1_b h0 post).mpr hx)

/- (*latchgarth/ring.Ring).Places -/
def f27_sem (p0_r : Option Addr) (h0 : H) (post : Value → H → Prop) : Prop :=
  ∃ a1 : Addr, p0_r = some a1 ∧
  ∃ x2 : SV, H.rd h0 (Addr.add (Addr.add a1 0) 0) (Value.slice x2.a x2.len x2.cap) ∧
  SemCall Go.Proofs.Try.prog 31 (List.toArray [(Value.slice x2.a x2.len x2.cap)]) h0 fun v3 h4 =>
  ∃ x5 : SV, v3 = (Value.slice x5.a x5.len x5.cap) ∧
  VRet h4 (Value.slice x5.a x5.len x5.cap) post

def f27_hint : Hint := .leaf

theorem f27_eq (p0_r : Option Addr) (h0 : H) (post : Value → H → Prop) : exec Try.prog (bodyOf Try.f27) f27_hint (retQ Try.prog Try.f27 post) (F0 [(Value.pointer p0_r)]) h0 = f27_sem p0_r h0 post := by kernel_rfl

theorem f27_call (p0_r : Option Addr) (h0 : H) (post : Value → H → Prop) (hx : f27_sem p0_r h0 post) : SemCall Try.prog 27 (List.toArray [(Value.pointer p0_r)]) h0 post :=
  sem_of_exec (g := f27_hint) mixed Try.func27 (bodyOf_eq (by kernel_rfl)) (by kernel_rfl) ((f27_eq p0_r h0 post).mpr hx)

/- latchgarth/core.Within -/
def f28_sem (p0_n : Int) (p1_low : Int) (p2_high : Int) (h0 : H) (post : Value → H → Prop) : Prop :=
  ∃ R1 : Bool → H → Prop, (
    VIf (decide (p0_n ≥ p1_low)) (
      (∃ h2, Gh h0 h2 ∧ R1 (decide (p0_n ≤ p2_high)) h2)) (
      (∃ h3, Gh h0 h3 ∧ R1 false h3))) ∧
  ∀ (_ : F) (x4 : Bool) (h5 : H), R1 x4 h5 →
  VRet h5 (Value.bool x4) post

def f28_hint : Hint := (.node .leaf (.node (.join [(6, .bool)] .leaf) .leaf))

theorem f28_eq (p0_n : Int) (p1_low : Int) (p2_high : Int) (h0 : H) (post : Value → H → Prop) : exec Try.prog (bodyOf Try.f28) f28_hint (retQ Try.prog Try.f28 post) (F0 [(Value.int .i64 p0_n), (Value.int .i64 p1_low), (Value.int .i64 p2_high)]) h0 = f28_sem p0_n p1_low p2_high h0 post := by kernel_rfl

theorem f28_call (p0_n : Int) (p1_low : Int) (p2_high : Int) (h0 : H) (post : Value → H → Prop) (hx : f28_sem p0_n p1_low p2_high h0 post) : SemCall Try.prog 28 (List.toArray [(Value.int .i64 p0_n), (Value.int .i64 p1_low), (Value.int .i64 p2_high)]) h0 post :=
  sem_of_exec (g := f28_hint) mixed Try.func28 (bodyOf_eq (by kernel_rfl)) (by kernel_rfl) ((f28_eq p0_n p1_low p2_high h0 post).mpr hx)

/- latchgarth/core.Hands -/
def f29_sem (p0_n : Int) (h0 : H) (post : Value → H → Prop) : Prop :=
  SemCall Go.Proofs.Try.prog 28 (List.toArray [(Value.int .i64 p0_n), (Value.int .i64 (1 : Int)), (Value.int .i64 (4 : Int))]) h0 fun v1 h2 =>
  ∃ x3 : Bool, v1 = (Value.bool x3) ∧
  VIf (!x3) (
    VRet h2 (Value.iface 54 (Value.int .i64 (1 : Int))) post) (
    VRet h2 Value.nilIface post)

def f29_hint : Hint := .leaf

theorem f29_eq (p0_n : Int) (h0 : H) (post : Value → H → Prop) : exec Try.prog (bodyOf Try.f29) f29_hint (retQ Try.prog Try.f29 post) (F0 [(Value.int .i64 p0_n)]) h0 = f29_sem p0_n h0 post := by kernel_rfl

theorem f29_call (p0_n : Int) (h0 : H) (post : Value → H → Prop) (hx : f29_sem p0_n h0 post) : SemCall Try.prog 29 (List.toArray [(Value.int .i64 p0_n)]) h0 post :=
  sem_of_exec (g := f29_hint) mixed Try.func29 (bodyOf_eq (by kernel_rfl)) (by kernel_rfl) ((f29_eq p0_n h0 post).mpr hx)

/- latchgarth/core.Cas[int] -/
def f30_sem (p0_word : Option Addr) (p1_old : Int) (p2_new : Int) (h0 : H) (post : Value → H → Prop) : Prop :=
  ∃ a1 : Addr, p0_word = some a1 ∧
  ∃ x2 : Int, H.rd h0 (Addr.add a1 0) (Value.int .i64 x2) ∧
  VIf (x2 != p1_old) (
    VRet h0 (Value.bool false) post) (
    ∃ a3 : Addr, p0_word = some a3 ∧
    H.wr h0 a3 ([(Value.int .i64 p2_new)]) fun h4 =>
    VRet h4 (Value.bool true) post)

def f30_hint : Hint := .leaf

theorem f30_eq (p0_word : Option Addr) (p1_old : Int) (p2_new : Int) (h0 : H) (post : Value → H → Prop) : exec Try.prog (bodyOf Try.f30) f30_hint (retQ Try.prog Try.f30 post) (F0 [(Value.pointer p0_word), (Value.int .i64 p1_old), (Value.int .i64 p2_new)]) h0 = f30_sem p0_word p1_old p2_new h0 post := by kernel_rfl

theorem f30_call (p0_word : Option Addr) (p1_old : Int) (p2_new : Int) (h0 : H) (post : Value → H → Prop) (hx : f30_sem p0_word p1_old p2_new h0 post) : SemCall Try.prog 30 (List.toArray [(Value.pointer p0_word), (Value.int .i64 p1_old), (Value.int .i64 p2_new)]) h0 post :=
  sem_of_exec (g := f30_hint) mixed Try.func30 (bodyOf_eq (by kernel_rfl)) (by kernel_rfl) ((f30_eq p0_word p1_old p2_new h0 post).mpr hx)

/- slices.Clone[[]int,int] -/
def f31_sem (p0_s : SV) (h0 : H) (post : Value → H → Prop) : Prop :=
  VIf (Option.isNone p0_s.a) (
    VRet h0 (Value.slice none 0 0) post) (
    H.new h0 [] fun r1 h2 =>
    appVC Go.Proofs.Try.prog 22 (Value.slice (some (Addr.mk r1 0 none)) 0 0) (Value.slice p0_s.a p0_s.len p0_s.cap) h2 fun x3 h4 =>
    VRet h4 (Value.slice x3.a x3.len x3.cap) post)

def f31_hint : Hint := .leaf

theorem f31_eq (p0_s : SV) (h0 : H) (post : Value → H → Prop) : exec Try.prog (bodyOf Try.f31) f31_hint (retQ Try.prog Try.f31 post) (F0 [(Value.slice p0_s.a p0_s.len p0_s.cap)]) h0 = f31_sem p0_s h0 post := by kernel_rfl

theorem f31_call (p0_s : SV) (h0 : H) (post : Value → H → Prop) (hx : f31_sem p0_s h0 post) : SemCall Try.prog 31 (List.toArray [(Value.slice p0_s.a p0_s.len p0_s.cap)]) h0 post :=
  sem_of_exec (g := f31_hint) mixed Try.func31 (bodyOf_eq (by kernel_rfl)) (by kernel_rfl) ((f31_eq p0_s h0 post).mpr hx)

/- (*latchgarth/snap.Board).begin -/
def f32_J1 (p0_b : Option Addr) (p1_p : Int) (post : Value → H → Prop) (r1 : Nat) (x15 : Bool) (h16 : H) : Prop :=
  VIf x15 (
    VRet h16 (Value.iface 54 (Value.int .i64 (1 : Int))) post) (
    ∃ a17 : Addr, p0_b = some a17 ∧
    ∃ x18 : SV, H.rd h16 (Addr.add (Addr.add a17 1) 0) (Value.slice x18.a x18.len x18.cap) ∧
    ∃ b19 : Addr, x18.a = some b19 ∧ 0 ≤ p1_p ∧ p1_p < ((x18.len : Nat) : Int) ∧
    ∃ x20 : Int, H.rd h16 (Addr.add (Addr.add (Addr.add b19 ((p1_p).toNat * 7)) 0) 0) (Value.int .i64 x20) ∧
    VIf (x20 != (0 : Int)) (
      VRet h16 (Value.iface 54 (Value.int .i64 (7 : Int))) post) (
      H.wr h16 (Addr.add (Addr.mk r1 0 none) 0) ([(Value.int .i64 (1 : Int))]) fun h21 =>
      ∃ a22 : Addr, p0_b = some a22 ∧
      ∃ x23 : SV, H.rd h21 (Addr.add (Addr.add a22 1) 0) (Value.slice x23.a x23.len x23.cap) ∧
      0 ≤ ((x23.len : Nat) : Int) ∧ ((x23.len : Nat) : Int) ≤ ((x23.len : Nat) : Int) ∧ ((8 : Nat) : Int) * ((x23.len : Nat) : Int) ≤ 140737488355328 ∧ ((x23.len : Nat) : Int) ≤ 1000000000 ∧
      H.new h21 (repl (((x23.len : Nat) : Int)).toNat [(Value.int .i64 (0 : Int))]) fun r24 h25 =>
      H.wr h25 (Addr.add (Addr.mk r1 0 none) 6) ([(Value.slice (some (Addr.mk r24 0 none)) ((((x23.len : Nat) : Int)).toNat) ((((x23.len : Nat) : Int)).toNat))]) fun h26 =>
      ∃ a27 : Addr, p0_b = some a27 ∧
      ∃ x28 : SV, H.rd h26 (Addr.add (Addr.add a27 1) 0) (Value.slice x28.a x28.len x28.cap) ∧
      ∃ x29 : Int, H.rd h26 (Addr.add (Addr.mk r1 0 none) 0) (Value.int .i64 x29) ∧
      ∃ x30 : Int, H.rd h26 (Addr.add (Addr.mk r1 0 none) 1) (Value.int .i64 x30) ∧
      ∃ x31 : Bool, H.rd h26 (Addr.add (Addr.mk r1 0 none) 2) (Value.bool x31) ∧
      ∃ x32 : Int, H.rd h26 (Addr.add (Addr.mk r1 0 none) 3) (Value.int .i64 x32) ∧
      ∃ x33 : SV, H.rd h26 (Addr.add (Addr.mk r1 0 none) 4) (Value.slice x33.a x33.len x33.cap) ∧
      ∃ x34 : SV, H.rd h26 (Addr.add (Addr.mk r1 0 none) 5) (Value.slice x34.a x34.len x34.cap) ∧
      ∃ x35 : SV, H.rd h26 (Addr.add (Addr.mk r1 0 none) 6) (Value.slice x35.a x35.len x35.cap) ∧
      ∃ b36 : Addr, x28.a = some b36 ∧ 0 ≤ p1_p ∧ p1_p < ((x28.len : Nat) : Int) ∧
      ([(Value.int .i64 x29), (Value.int .i64 x30), (Value.bool x31), (Value.int .i64 x32), (Value.slice x33.a x33.len x33.cap), (Value.slice x34.a x34.len x34.cap), (Value.slice x35.a x35.len x35.cap)]).length = 7 ∧ (Program.underlying Go.Proofs.Try.prog 79).isSome = true ∧
      H.wr h26 (Addr.add b36 ((p1_p).toNat * 7)) ([(Value.int .i64 x29), (Value.int .i64 x30), (Value.bool x31), (Value.int .i64 x32), (Value.slice x33.a x33.len x33.cap), (Value.slice x34.a x34.len x34.cap), (Value.slice x35.a x35.len x35.cap)]) fun h37 =>
      VRet h37 Value.nilIface post))

def f32_sem (p0_b : Option Addr) (p1_p : Int) (p2_0_h : Int) (p2_1_h : Int) (p2_2_h : Bool) (p2_3_h : Int) (p2_4_h : SV) (p2_5_h : SV) (p2_6_h : SV) (h0 : H) (post : Value → H → Prop) : Prop :=
  H.new h0 [(Value.int .i64 p2_0_h), (Value.int .i64 p2_1_h), (Value.bool p2_2_h), (Value.int .i64 p2_3_h), (Value.slice p2_4_h.a p2_4_h.len p2_4_h.cap), (Value.slice p2_5_h.a p2_5_h.len p2_5_h.cap), (Value.slice p2_6_h.a p2_6_h.len p2_6_h.cap)] fun r1 h2 =>
  ∃ R3 : Bool → H → Prop, (
    ∃ a4 : Addr, p0_b = some a4 ∧
    ∃ x5 : SV, H.rd h2 (Addr.add (Addr.add a4 1) 0) (Value.slice x5.a x5.len x5.cap) ∧
    In64 (((x5.len : Nat) : Int) - (1 : Int)) ∧
    SemCall Go.Proofs.Try.prog 28 (List.toArray [(Value.int .i64 p1_p), (Value.int .i64 (0 : Int)), (Value.int .i64 (((x5.len : Nat) : Int) - (1 : Int)))]) h2 fun v6 h7 =>
    ∃ x8 : Bool, v6 = (Value.bool x8) ∧
    VIf (!x8) (
      (∃ h9, Gh h7 h9 ∧ R3 true h9)) (
      ∃ x10 : Int, H.rd h7 (Addr.add (Addr.add (Addr.mk r1 0 none) 3) 0) (Value.int .i64 x10) ∧
      SemCall Go.Proofs.Try.prog 28 (List.toArray [(Value.int .i64 x10), (Value.int .i64 (0 : Int)), (Value.int .i64 (1000 : Int))]) h7 fun v11 h12 =>
      ∃ x13 : Bool, v11 = (Value.bool x13) ∧
      (∃ h14, Gh h12 h14 ∧ R3 (!x13) h14))) ∧
  ∀ (_ : F) (x15 : Bool) (h16 : H), R3 x15 h16 →
  f32_J1 p0_b p1_p post r1 x15 h16

def f32_hint : Hint := (.node .leaf (.node (.node (.join [(21, .bool)] .leaf) .leaf) (.node .leaf (.node .leaf (.node .leaf (.node (.tail 7) .leaf))))))

theorem f32_eq (p0_b : Option Addr) (p1_p : Int) (p2_0_h : Int) (p2_1_h : Int) (p2_2_h : Bool) (p2_3_h : Int) (p2_4_h : SV) (p2_5_h : SV) (p2_6_h : SV) (h0 : H) (post : Value → H → Prop) : exec Try.prog (bodyOf Try.f32) f32_hint (retQ Try.prog Try.f32 post) (F0 [(Value.pointer p0_b), (Value.int .i64 p1_p), (Value.agg (List.toArray [(Value.int .i64 p2_0_h), (Value.int .i64 p2_1_h), (Value.bool p2_2_h), (Value.int .i64 p2_3_h), (Value.slice p2_4_h.a p2_4_h.len p2_4_h.cap), (Value.slice p2_5_h.a p2_5_h.len p2_5_h.cap), (Value.slice p2_6_h.a p2_6_h.len p2_6_h.cap)]))]) h0 = f32_sem p0_b p1_p p2_0_h p2_1_h p2_2_h p2_3_h p2_4_h p2_5_h p2_6_h h0 post := by kernel_rfl

theorem f32_call (p0_b : Option Addr) (p1_p : Int) (p2_0_h : Int) (p2_1_h : Int) (p2_2_h : Bool) (p2_3_h : Int) (p2_4_h : SV) (p2_5_h : SV) (p2_6_h : SV) (h0 : H) (post : Value → H → Prop) (hx : f32_sem p0_b p1_p p2_0_h p2_1_h p2_2_h p2_3_h p2_4_h p2_5_h p2_6_h h0 post) : SemCall Try.prog 32 (List.toArray [(Value.pointer p0_b), (Value.int .i64 p1_p), (Value.agg (List.toArray [(Value.int .i64 p2_0_h), (Value.int .i64 p2_1_h), (Value.bool p2_2_h), (Value.int .i64 p2_3_h), (Value.slice p2_4_h.a p2_4_h.len p2_4_h.cap), (Value.slice p2_5_h.a p2_5_h.len p2_5_h.cap), (Value.slice p2_6_h.a p2_6_h.len p2_6_h.cap)]))]) h0 post :=
  sem_of_exec (g := f32_hint) mixed Try.func32 (bodyOf_eq (by kernel_rfl)) (by kernel_rfl) ((f32_eq p0_b p1_p p2_0_h p2_1_h p2_2_h p2_3_h p2_4_h p2_5_h p2_6_h h0 post).mpr hx)

/- (*latchgarth/snap.hand).sees -/
def f33_L1 (p0_h : Option Addr) (post : Value → H → Prop) (x2 : SV) (R3 : SV → Bool → H → Prop) (I4 : Nat → SV → Bool → Int → H → Prop) (n5 : Nat) (x8_out : SV) (x9_same : Bool) (x10 : Int) (h11 : H) : Prop :=
  VIf (decide (x10 < ((x2.len : Nat) : Int))) (
    ∃ a12 : Addr, p0_h = some a12 ∧
    ∃ x13 : SV, H.rd h11 (Addr.add (Addr.add a12 5) 0) (Value.slice x13.a x13.len x13.cap) ∧
    ∃ b14 : Addr, x13.a = some b14 ∧ 0 ≤ x10 ∧ x10 < ((x13.len : Nat) : Int) ∧
    ∃ x15 : Int, H.rd h11 (Addr.add (Addr.add (Addr.add b14 ((x10).toNat * 3)) 0) 0) (Value.int .i64 x15) ∧
    H.new h11 [(Value.int .i64 x15)] fun r16 h17 =>
    appVC Go.Proofs.Try.prog 22 (Value.slice x8_out.a x8_out.len x8_out.cap) (Value.slice (some (Addr.mk r16 0 none)) 1 1) h17 fun x18 h19 =>
    ∃ a20 : Addr, p0_h = some a20 ∧
    ∃ x21 : SV, H.rd h19 (Addr.add (Addr.add a20 4) 0) (Value.slice x21.a x21.len x21.cap) ∧
    ∃ b22 : Addr, x21.a = some b22 ∧ 0 ≤ x10 ∧ x10 < ((x21.len : Nat) : Int) ∧
    ∃ x23 : Int, H.rd h19 (Addr.add (Addr.add (Addr.add b22 ((x10).toNat * 3)) 1) 0) (Value.int .i64 x23) ∧
    ∃ a24 : Addr, p0_h = some a24 ∧
    ∃ x25 : SV, H.rd h19 (Addr.add (Addr.add a24 5) 0) (Value.slice x25.a x25.len x25.cap) ∧
    ∃ b26 : Addr, x25.a = some b26 ∧ 0 ≤ x10 ∧ x10 < ((x25.len : Nat) : Int) ∧
    ∃ x27 : Int, H.rd h19 (Addr.add (Addr.add (Addr.add b26 ((x10).toNat * 3)) 1) 0) (Value.int .i64 x27) ∧
    VIf (x23 != x27) (
      ∃ a28 : Addr, p0_h = some a28 ∧
      ∃ x29 : SV, H.rd h19 (Addr.add (Addr.add a28 6) 0) (Value.slice x29.a x29.len x29.cap) ∧
      ∃ b30 : Addr, x29.a = some b30 ∧ 0 ≤ x10 ∧ x10 < ((x29.len : Nat) : Int) ∧
      ∃ x31 : Int, H.rd h19 (Addr.add (Addr.add b30 ((x10).toNat * 1)) 0) (Value.int .i64 x31) ∧
      In64 (x31 + (1 : Int)) ∧
      ∃ b32 : Addr, x29.a = some b32 ∧ 0 ≤ x10 ∧ x10 < ((x29.len : Nat) : Int) ∧
      H.wr h19 (Addr.add b32 ((x10).toNat * 1)) ([(Value.int .i64 (x31 + (1 : Int)))]) fun h33 =>
      ∃ a34 : Addr, p0_h = some a34 ∧
      ∃ x35 : SV, H.rd h33 (Addr.add (Addr.add a34 6) 0) (Value.slice x35.a x35.len x35.cap) ∧
      ∃ b36 : Addr, x35.a = some b36 ∧ 0 ≤ x10 ∧ x10 < ((x35.len : Nat) : Int) ∧
      ∃ x37 : Int, H.rd h33 (Addr.add (Addr.add b36 ((x10).toNat * 1)) 0) (Value.int .i64 x37) ∧
      VIf (x37 == (2 : Int)) (
        ∃ a38 : Addr, p0_h = some a38 ∧
        ∃ x39 : SV, H.rd h33 (Addr.add (Addr.add a38 5) 0) (Value.slice x39.a x39.len x39.cap) ∧
        ∃ b40 : Addr, x39.a = some b40 ∧ 0 ≤ x10 ∧ x10 < ((x39.len : Nat) : Int) ∧
        ∃ x41 : SV, H.rd h33 (Addr.add (Addr.add (Addr.add b40 ((x10).toNat * 3)) 2) 0) (Value.slice x41.a x41.len x41.cap) ∧
        VRet h33 (Value.tuple (List.toArray [(Value.slice x41.a x41.len x41.cap), (Value.bool true)])) post) (
        In64 (x10 + (1 : Int)) ∧
        ∃ m6, m6 < n5 ∧ (∃ h42, Gh h33 h42 ∧ I4 m6 x18 false (x10 + (1 : Int)) h42))) (
      In64 (x10 + (1 : Int)) ∧
      ∃ m6, m6 < n5 ∧ (∃ h43, Gh h19 h43 ∧ I4 m6 x18 x9_same (x10 + (1 : Int)) h43))) (
    (∃ h44, Gh h11 h44 ∧ R3 x8_out x9_same h44))

def f33_sem (p0_h : Option Addr) (h0 : H) (post : Value → H → Prop) : Prop :=
  ∃ a1 : Addr, p0_h = some a1 ∧
  ∃ x2 : SV, H.rd h0 (Addr.add (Addr.add a1 4) 0) (Value.slice x2.a x2.len x2.cap) ∧
  ∃ R3 : SV → Bool → H → Prop, (
    ∃ I4 : Nat → SV → Bool → Int → H → Prop, (∃ n5, (∃ h7, Gh h0 h7 ∧ I4 n5 (SV.mk none 0 0) true (0 : Int) h7)) ∧
    ∀ (n5 : Nat) (_ : F) (x8_out : SV) (x9_same : Bool) (x10 : Int) (h11 : H), I4 n5 x8_out x9_same x10 h11 →
    f33_L1 p0_h post x2 R3 I4 n5 x8_out x9_same x10 h11) ∧
  ∀ (_ : F) (x45_out : SV) (x46_same : Bool) (h47 : H), R3 x45_out x46_same h47 →
  VRet h47 (Value.tuple (List.toArray [(Value.slice x45_out.a x45_out.len x45_out.cap), (Value.bool x46_same)])) post

def f33_hint : Hint := (.node .leaf (.node .leaf (.node .leaf (.node (.node .leaf (.join [(4, .sl), (5, .bool)] (.node (.loop [(4, .sl), (5, .bool), (12, .int)] .leaf) .leaf))) .leaf))))

theorem f33_eq (p0_h : Option Addr) (h0 : H) (post : Value → H → Prop) : exec Try.prog (bodyOf Try.f33) f33_hint (retQ Try.prog Try.f33 post) (F0 [(Value.pointer p0_h)]) h0 = f33_sem p0_h h0 post := by kernel_rfl

theorem f33_call (p0_h : Option Addr) (h0 : H) (post : Value → H → Prop) (hx : f33_sem p0_h h0 post) : SemCall Try.prog 33 (List.toArray [(Value.pointer p0_h)]) h0 post :=
  sem_of_exec (g := f33_hint) mixed Try.func33 (bodyOf_eq (by kernel_rfl)) (by kernel_rfl) ((f33_eq p0_h h0 post).mpr hx)

/- (*latchgarth/snap.Board).saw -/
def f34_sem (p0_b : Option Addr) (p1_p : Int) (p2_seen : SV) (h0 : H) (post : Value → H → Prop) : Prop :=
  ∃ a1 : Addr, p0_b = some a1 ∧
  ∃ x2 : SV, H.rd h0 (Addr.add (Addr.add a1 1) 0) (Value.slice x2.a x2.len x2.cap) ∧
  ∃ b3 : Addr, x2.a = some b3 ∧ 0 ≤ p1_p ∧ p1_p < ((x2.len : Nat) : Int) ∧
  ∃ a4 : Addr, (some (Addr.add b3 ((p1_p).toNat * 7))) = some a4 ∧
  ∃ x5 : Bool, H.rd h0 (Addr.add (Addr.add a4 2) 0) (Value.bool x5) ∧
  VIf x5 (
    SemCall Go.Proofs.Try.prog 31 (List.toArray [(Value.slice p2_seen.a p2_seen.len p2_seen.cap)]) h0 fun v6 h7 =>
    ∃ x8 : SV, v6 = (Value.slice x8.a x8.len x8.cap) ∧
    ∃ a9 : Addr, (some (Addr.add b3 ((p1_p).toNat * 7))) = some a9 ∧
    H.wr h7 (Addr.add a9 0) ([(Value.int .i64 (3 : Int))]) fun h10 =>
    ∃ a11 : Addr, (some (Addr.add b3 ((p1_p).toNat * 7))) = some a11 ∧
    H.wr h10 (Addr.add a11 6) ([(Value.slice x8.a x8.len x8.cap)]) fun h12 =>
    VRet h12 (Value.tuple (List.toArray [(Value.bool false), (Value.slice none 0 0), Value.nilIface])) post) (
    ∃ a13 : Addr, (some (Addr.add b3 ((p1_p).toNat * 7))) = some a13 ∧
    ([(Value.int .i64 (0 : Int)), (Value.int .i64 (0 : Int)), (Value.bool false), (Value.int .i64 (0 : Int)), (Value.slice none 0 0), (Value.slice none 0 0), (Value.slice none 0 0)]).length = 7 ∧ (Program.underlying Go.Proofs.Try.prog 79).isSome = true ∧
    H.wr h0 a13 ([(Value.int .i64 (0 : Int)), (Value.int .i64 (0 : Int)), (Value.bool false), (Value.int .i64 (0 : Int)), (Value.slice none 0 0), (Value.slice none 0 0), (Value.slice none 0 0)]) fun h14 =>
    SemCall Go.Proofs.Try.prog 31 (List.toArray [(Value.slice p2_seen.a p2_seen.len p2_seen.cap)]) h14 fun v15 h16 =>
    ∃ x17 : SV, v15 = (Value.slice x17.a x17.len x17.cap) ∧
    VRet h16 (Value.tuple (List.toArray [(Value.bool true), (Value.slice x17.a x17.len x17.cap), Value.nilIface])) post)

def f34_hint : Hint := .leaf

theorem f34_eq (p0_b : Option Addr) (p1_p : Int) (p2_seen : SV) (h0 : H) (post : Value → H → Prop) : exec Try.prog (bodyOf Try.f34) f34_hint (retQ Try.prog Try.f34 post) (F0 [(Value.pointer p0_b), (Value.int .i64 p1_p), (Value.slice p2_seen.a p2_seen.len p2_seen.cap)]) h0 = f34_sem p0_b p1_p p2_seen h0 post := by kernel_rfl

theorem f34_call (p0_b : Option Addr) (p1_p : Int) (p2_seen : SV) (h0 : H) (post : Value → H → Prop) (hx : f34_sem p0_b p1_p p2_seen h0 post) : SemCall Try.prog 34 (List.toArray [(Value.pointer p0_b), (Value.int .i64 p1_p), (Value.slice p2_seen.a p2_seen.len p2_seen.cap)]) h0 post :=
  sem_of_exec (g := f34_hint) mixed Try.func34 (bodyOf_eq (by kernel_rfl)) (by kernel_rfl) ((f34_eq p0_b p1_p p2_seen h0 post).mpr hx)

end Go.Proofs.Ytnecppjgcbhnaaa
