import Derived.Test.YtkokdeenniejjaaEngG
import Derived.Test.YtkokdeenniejjaaRows
namespace Go.Proofs.Ytkokdeenniejjaa
open Go.Eng
theorem mixed : Try.prog.follows .mixedOrders = true := by kernel_rfl
/- latchgarth/latchgarthlaw4.PmemWas -/
def f3_J1 (p1_steps : SV) (x17 : SV) (x23_i : Int) (R28 : Bool → H → Prop) (I29 : Nat → Bool → Int → H → Prop) (n30 : Nat) (x33_was : Bool) (x34_k : Int) (x39 : Bool) (h40 : H) : Prop :=
  VIf x39 (
    ∃ R41 : Bool → H → Prop, (
      VIf x33_was (
        (∃ h42, Gh h40 h42 ∧ R41 true h42)) (
        ∃ b43 : Addr, p1_steps.a = some b43 ∧ 0 ≤ x34_k ∧ x34_k < ((p1_steps.len : Nat) : Int) ∧
        ∃ x44 : SV, H.rd h40 (Addr.add (Addr.add b43 ((x34_k).toNat * 1)) 0) (Value.slice x44.a x44.len x44.cap) ∧
        VIf (((x44.len : Nat) : Int) == (3 : Int)) (
          ∃ b45 : Addr, p1_steps.a = some b45 ∧ 0 ≤ x34_k ∧ x34_k < ((p1_steps.len : Nat) : Int) ∧
          ∃ x46 : SV, H.rd h40 (Addr.add (Addr.add b45 ((x34_k).toNat * 1)) 0) (Value.slice x46.a x46.len x46.cap) ∧
          ∃ b47 : Addr, x46.a = some b47 ∧ 0 ≤ (1 : Int) ∧ (1 : Int) < ((x46.len : Nat) : Int) ∧
          ∃ x48 : Int, H.rd h40 (Addr.add (Addr.add b47 (((1 : Int)).toNat * 1)) 0) (Value.int .i64 x48) ∧
          VIf (x48 == x23_i) (
            ∃ b49 : Addr, p1_steps.a = some b49 ∧ 0 ≤ x34_k ∧ x34_k < ((p1_steps.len : Nat) : Int) ∧
            ∃ x50 : SV, H.rd h40 (Addr.add (Addr.add b49 ((x34_k).toNat * 1)) 0) (Value.slice x50.a x50.len x50.cap) ∧
            ∃ b51 : Addr, x50.a = some b51 ∧ 0 ≤ (2 : Int) ∧ (2 : Int) < ((x50.len : Nat) : Int) ∧
            ∃ x52 : Int, H.rd h40 (Addr.add (Addr.add b51 (((2 : Int)).toNat * 1)) 0) (Value.int .i64 x52) ∧
            ∃ b53 : Addr, x17.a = some b53 ∧ 0 ≤ x23_i ∧ x23_i < ((x17.len : Nat) : Int) ∧
            ∃ x54 : Int, H.rd h40 (Addr.add (Addr.add b53 ((x23_i).toNat * 1)) 0) (Value.int .i64 x54) ∧
            (∃ h55, Gh h40 h55 ∧ R41 (x52 == x54) h55)) (
            (∃ h56, Gh h40 h56 ∧ R41 false h56))) (
          (∃ h57, Gh h40 h57 ∧ R41 false h57)))) ∧
    ∀ (_ : F) (x58_was : Bool) (h59 : H), R41 x58_was h59 →
    In64 (x34_k + (1 : Int)) ∧
    ∃ m31, m31 < n30 ∧ (∃ h60, Gh h59 h60 ∧ I29 m31 x58_was (x34_k + (1 : Int)) h60)) (
    (∃ h61, Gh h40 h61 ∧ R28 x33_was h61))

def f3_L2 (p1_steps : SV) (x17 : SV) (x23_i : Int) (R28 : Bool → H → Prop) (I29 : Nat → Bool → Int → H → Prop) (n30 : Nat) (x33_was : Bool) (x34_k : Int) (h35 : H) : Prop :=
  ∃ R36 : Bool → H → Prop, (
    VIf (decide (x34_k < ((p1_steps.len : Nat) : Int))) (
      (∃ h37, Gh h35 h37 ∧ R36 (decide (x34_k < (60 : Int))) h37)) (
      (∃ h38, Gh h35 h38 ∧ R36 false h38))) ∧
  ∀ (_ : F) (x39 : Bool) (h40 : H), R36 x39 h40 →
  f3_J1 p1_steps x17 x23_i R28 I29 n30 x33_was x34_k x39 h40

def f3_L3 (p0_n : Int) (p1_steps : SV) (post : Value → H → Prop) (x17 : SV) (R18 : H → Prop) (I19 : Nat → Int → H → Prop) (n20 : Nat) (x23_i : Int) (h24 : H) : Prop :=
  VIf (decide (x23_i < p0_n)) (
    ∃ R25 : H → Prop, (
      ∃ b26 : Addr, x17.a = some b26 ∧ 0 ≤ x23_i ∧ x23_i < ((x17.len : Nat) : Int) ∧
      ∃ x27 : Int, H.rd h24 (Addr.add (Addr.add b26 ((x23_i).toNat * 1)) 0) (Value.int .i64 x27) ∧
      ∃ R28 : Bool → H → Prop, (
        ∃ I29 : Nat → Bool → Int → H → Prop, (∃ n30, (∃ h32, Gh h24 h32 ∧ I29 n30 (x27 == (0 : Int)) (0 : Int) h32)) ∧
        ∀ (n30 : Nat) (_ : F) (x33_was : Bool) (x34_k : Int) (h35 : H), I29 n30 x33_was x34_k h35 →
        f3_L2 p1_steps x17 x23_i R28 I29 n30 x33_was x34_k h35) ∧
      ∀ (_ : F) (x62_was : Bool) (h63 : H), R28 x62_was h63 →
      VIf (!x62_was) (
        VRet h63 (Value.bool false) post) (
        (∃ h64, Gh h63 h64 ∧ R25 h64))) ∧
    ∀ (_ : F) (h65 : H), R25 h65 →
    In64 (x23_i + (1 : Int)) ∧
    ∃ m21, m21 < n20 ∧ (∃ h66, Gh h65 h66 ∧ I19 m21 (x23_i + (1 : Int)) h66)) (
    (∃ h67, Gh h24 h67 ∧ R18 h67))

def f3_L4 (p0_n : Int) (R69 : Int → H → Prop) (I70 : Nat → Int → Int → H → Prop) (n71 : Nat) (x74_all : Int) (x75_i : Int) (h76 : H) : Prop :=
  VIf (decide (x75_i < p0_n)) (
    In64 (x74_all * (2 : Int)) ∧
    In64 (x75_i + (1 : Int)) ∧
    ∃ m72, m72 < n71 ∧ (∃ h77, Gh h76 h77 ∧ I70 m72 (x74_all * (2 : Int)) (x75_i + (1 : Int)) h77)) (
    (∃ h78, Gh h76 h78 ∧ R69 x74_all h78))

def f3_J5 (post : Value → H → Prop) (x6 : Option Addr) (x17 : SV) (x79_all : Int) (h80 : H) : Prop :=
  ∃ R81 : Bool → H → Prop, (
    In64 (x79_all - (1 : Int)) ∧
    SemCall Go.Proofs.Try.prog 14 (List.toArray [(Value.pointer x6), (Value.int .i64 (x79_all - (1 : Int)))]) h80 fun v82 h83 =>
    ∃ x84 : Option (TypeId × Value), v82 = (errV x84) ∧
    isIfaceV (errV x84) = true ∧
    VIf (isNilV (errV x84)) (
      SemCall Go.Proofs.Try.prog 13 (List.toArray [(Value.pointer x6)]) h83 fun v85 h86 =>
      ∃ x87 : SV, v85 = (Value.slice x87.a x87.len x87.cap) ∧
      SemCall Go.Proofs.Try.prog 15 (List.toArray [(Value.slice x87.a x87.len x87.cap), (Value.slice x17.a x17.len x17.cap)]) h86 fun v88 h89 =>
      ∃ x90 : Bool, v88 = (Value.bool x90) ∧
      VIf x90 (
        SemCall Go.Proofs.Try.prog 14 (List.toArray [(Value.pointer x6), (Value.int .i64 (0 : Int))]) h89 fun v91 h92 =>
        ∃ x93 : Option (TypeId × Value), v91 = (errV x93) ∧
        isIfaceV (errV x93) = true ∧
        VIf (isNilV (errV x93)) (
          SemCall Go.Proofs.Try.prog 13 (List.toArray [(Value.pointer x6)]) h92 fun v94 h95 =>
          ∃ x96 : SV, v94 = (Value.slice x96.a x96.len x96.cap) ∧
          SemCall Go.Proofs.Try.prog 15 (List.toArray [(Value.slice x96.a x96.len x96.cap), (Value.slice x17.a x17.len x17.cap)]) h95 fun v97 h98 =>
          ∃ x99 : Bool, v97 = (Value.bool x99) ∧
          (∃ h100, Gh h98 h100 ∧ R81 x99 h100)) (
          (∃ h101, Gh h92 h101 ∧ R81 false h101))) (
        (∃ h102, Gh h89 h102 ∧ R81 false h102))) (
      (∃ h103, Gh h83 h103 ∧ R81 false h103))) ∧
  ∀ (_ : F) (x104 : Bool) (h105 : H), R81 x104 h105 →
  VRet h105 (Value.bool x104) post

def f3_sem (p0_n : Int) (p1_steps : SV) (h0 : H) (post : Value → H → Prop) : Prop :=
  SemCall Go.Proofs.Try.prog 10 (List.toArray []) h0 fun v1 h2 =>
  ∃ x3 : Bool, v1 = (Value.bool x3) ∧
  VIf (!x3) (
    VRet h2 (Value.bool false) post) (
    SemCall Go.Proofs.Try.prog 11 (List.toArray [(Value.int .i64 p0_n)]) h2 fun v4 h5 =>
    ∃ x6 : Option Addr, ∃ x7 : Option (TypeId × Value), v4 = (Value.tuple (List.toArray [(Value.pointer x6), (errV x7)])) ∧
    isIfaceV (errV x7) = true ∧
    VIf (!(isNilV (errV x7))) (
      ∃ R8 : Bool → H → Prop, (
        VIf (decide (p0_n < (1 : Int))) (
          (∃ h9, Gh h5 h9 ∧ R8 true h9)) (
          (∃ h10, Gh h5 h10 ∧ R8 (decide (p0_n > (8 : Int))) h10))) ∧
      ∀ (_ : F) (x11 : Bool) (h12 : H), R8 x11 h12 →
      VRet h12 (Value.bool x11) post) (
      SemCall Go.Proofs.Try.prog 12 (List.toArray [(Value.pointer x6), (Value.slice p1_steps.a p1_steps.len p1_steps.cap), (Value.int .i64 (-1 : Int))]) h5 fun v13 h14 =>
      v13 = (Value.tuple (List.toArray [])) ∧
      SemCall Go.Proofs.Try.prog 13 (List.toArray [(Value.pointer x6)]) h14 fun v15 h16 =>
      ∃ x17 : SV, v15 = (Value.slice x17.a x17.len x17.cap) ∧
      VIf (((x17.len : Nat) : Int) != p0_n) (
        VRet h16 (Value.bool false) post) (
        ∃ R18 : H → Prop, (
          ∃ I19 : Nat → Int → H → Prop, (∃ n20, (∃ h22, Gh h16 h22 ∧ I19 n20 (0 : Int) h22)) ∧
          ∀ (n20 : Nat) (_ : F) (x23_i : Int) (h24 : H), I19 n20 x23_i h24 →
          f3_L3 p0_n p1_steps post x17 R18 I19 n20 x23_i h24) ∧
        ∀ (_ : F) (h68 : H), R18 h68 →
        ∃ R69 : Int → H → Prop, (
          ∃ I70 : Nat → Int → Int → H → Prop, (∃ n71, (∃ h73, Gh h68 h73 ∧ I70 n71 (1 : Int) (0 : Int) h73)) ∧
          ∀ (n71 : Nat) (_ : F) (x74_all : Int) (x75_i : Int) (h76 : H), I70 n71 x74_all x75_i h76 →
          f3_L4 p0_n R69 I70 n71 x74_all x75_i h76) ∧
        ∀ (_ : F) (x79_all : Int) (h80 : H), R69 x79_all h80 →
        f3_J5 post x6 x17 x79_all h80)))

def f3_hint : Hint := (.node .leaf (.node .leaf (.node .leaf (.node .leaf (.node (.node .leaf (.node (.node (.join [(4, .bool)] .leaf) .leaf) .leaf)) (.node .leaf (.node .leaf (.node .leaf (.node (.node .leaf (.join [] (.node (.loop [(9, .int)] (.node .leaf (.node (.join [] (.node (.node .leaf (.node (.node .leaf (.join [(10, .bool)] (.node (.loop [(10, .bool), (11, .int)] (.node (.node (.join [(56, .bool)] .leaf) .leaf) (.node (.node (.join [(10, .bool)] .leaf) .leaf) .leaf))) .leaf))) .leaf)) .leaf)) .leaf))) .leaf))) (.node .leaf (.node (.node .leaf (.join [(12, .int)] (.node (.loop [(12, .int), (13, .int)] .leaf) .leaf))) (.node (.join [(4, .bool)] .leaf) .leaf))))))))))))

theorem f3_eq (p0_n : Int) (p1_steps : SV) (h0 : H) (post : Value → H → Prop) : exec Try.prog (bodyOf Try.f3) f3_hint (retQ Try.prog Try.f3 post) (F0 [(Value.int .i64 p0_n), (Value.slice p1_steps.a p1_steps.len p1_steps.cap)]) h0 = f3_sem p0_n p1_steps h0 post := by kernel_rfl

theorem f3_call (p0_n : Int) (p1_steps : SV) (h0 : H) (post : Value → H → Prop) (hx : f3_sem p0_n p1_steps h0 post) : SemCall Try.prog 3 (List.toArray [(Value.int .i64 p0_n), (Value.slice p1_steps.a p1_steps.len p1_steps.cap)]) h0 post :=
  sem_of_exec (g := f3_hint) mixed Try.func3 (bodyOf_eq (by kernel_rfl)) (by kernel_rfl) ((f3_eq p0_n p1_steps h0 post).mpr hx)

/- latchgarth/latchgarthlaw4.SemCounts -/
def f4_J1 (post : Value → H → Prop) (x17_took : Int) (x27 : SV) (R30 : Int → Int → H → Prop) (x33 : Int) (x38_gave : Int) (x43 : Bool) (h44 : H) : Prop :=
  VIf x43 (
    In64 (x17_took + (1 : Int)) ∧
    ∃ R45 : Bool → H → Prop, (
      VIf (((x27.len : Nat) : Int) == (0 : Int)) (
        (∃ h46, Gh h44 h46 ∧ R45 true h46)) (
        ∃ b47 : Addr, x27.a = some b47 ∧ 0 ≤ (0 : Int) ∧ (0 : Int) < ((x27.len : Nat) : Int) ∧
        ∃ x48 : Int, H.rd h44 (Addr.add (Addr.add b47 (((0 : Int)).toNat * 1)) 0) (Value.int .i64 x48) ∧
        (∃ h49, Gh h44 h49 ∧ R45 (x48 != x33) h49))) ∧
    ∀ (_ : F) (x50 : Bool) (h51 : H), R45 x50 h51 →
    VIf x50 (
      VRet h51 (Value.bool false) post) (
      (∃ h52, Gh h51 h52 ∧ R30 x38_gave (x17_took + (1 : Int)) h52))) (
    (∃ h53, Gh h44 h53 ∧ R30 x38_gave x17_took h53))

def f4_J2 (p0_count : Int) (post : Value → H → Prop) (x6 : Option Addr) (I12 : Nat → Int → Int → Int → H → Prop) (n13 : Nat) (x18_i : Int) (x67_gave : Int) (x68_took : Int) (h69 : H) : Prop :=
  ∃ R70 : Bool → H → Prop, (
    In64 (p0_count + x67_gave) ∧
    SemCall Go.Proofs.Try.prog 22 (List.toArray [(Value.pointer x6)]) h69 fun v71 h72 =>
    ∃ x73 : Int, v71 = (Value.int .i64 x73) ∧
    In64 (x73 + x68_took) ∧
    VIf ((p0_count + x67_gave) != (x73 + x68_took)) (
      (∃ h74, Gh h72 h74 ∧ R70 true h74)) (
      SemCall Go.Proofs.Try.prog 22 (List.toArray [(Value.pointer x6)]) h72 fun v75 h76 =>
      ∃ x77 : Int, v75 = (Value.int .i64 x77) ∧
      VIf (decide (x77 < (0 : Int))) (
        (∃ h78, Gh h76 h78 ∧ R70 true h78)) (
        SemCall Go.Proofs.Try.prog 19 (List.toArray [(Value.pointer x6)]) h76 fun v79 h80 =>
        ∃ x81 : SV, v79 = (Value.slice x81.a x81.len x81.cap) ∧
        VIf (decide (((x81.len : Nat) : Int) > (0 : Int))) (
          SemCall Go.Proofs.Try.prog 22 (List.toArray [(Value.pointer x6)]) h80 fun v82 h83 =>
          ∃ x84 : Int, v82 = (Value.int .i64 x84) ∧
          (∃ h85, Gh h83 h85 ∧ R70 (decide (x84 > (0 : Int))) h85)) (
          (∃ h86, Gh h80 h86 ∧ R70 false h86))))) ∧
  ∀ (_ : F) (x87 : Bool) (h88 : H), R70 x87 h88 →
  VIf x87 (
    VRet h88 (Value.bool false) post) (
    In64 (x18_i + (1 : Int)) ∧
    ∃ m14, m14 < n13 ∧ (∃ h89, Gh h88 h89 ∧ I12 m14 x67_gave x68_took (x18_i + (1 : Int)) h89))

def f4_J3 (p0_count : Int) (p1_steps : SV) (post : Value → H → Prop) (x6 : Option Addr) (R11 : H → Prop) (I12 : Nat → Int → Int → Int → H → Prop) (n13 : Nat) (x16_gave : Int) (x17_took : Int) (x18_i : Int) (x23 : Bool) (h24 : H) : Prop :=
  VIf x23 (
    SemCall Go.Proofs.Try.prog 19 (List.toArray [(Value.pointer x6)]) h24 fun v25 h26 =>
    ∃ x27 : SV, v25 = (Value.slice x27.a x27.len x27.cap) ∧
    ∃ b28 : Addr, p1_steps.a = some b28 ∧ 0 ≤ x18_i ∧ x18_i < ((p1_steps.len : Nat) : Int) ∧
    ∃ x29 : Int, H.rd h26 (Addr.add (Addr.add b28 ((x18_i).toNat * 1)) 0) (Value.int .i64 x29) ∧
    ∃ R30 : Int → Int → H → Prop, (
      VIf (x29 == (-1 : Int)) (
        SemCall Go.Proofs.Try.prog 20 (List.toArray [(Value.pointer x6)]) h26 fun v31 h32 =>
        ∃ x33 : Int, ∃ x34 : Option (TypeId × Value), v31 = (Value.tuple (List.toArray [(Value.int .i64 x33), (errV x34)])) ∧
        isIfaceV (errV x34) = true ∧
        ∃ R35 : Int → H → Prop, (
          VIf (isNilV (errV x34)) (
            In64 (x16_gave + (1 : Int)) ∧
            (∃ h36, Gh h32 h36 ∧ R35 (x16_gave + (1 : Int)) h36)) (
            (∃ h37, Gh h32 h37 ∧ R35 x16_gave h37))) ∧
        ∀ (_ : F) (x38_gave : Int) (h39 : H), R35 x38_gave h39 →
        ∃ R40 : Bool → H → Prop, (
          isIfaceV (errV x34) = true ∧
          VIf (isNilV (errV x34)) (
            (∃ h41, Gh h39 h41 ∧ R40 (decide (x33 ≥ (0 : Int))) h41)) (
            (∃ h42, Gh h39 h42 ∧ R40 false h42))) ∧
        ∀ (_ : F) (x43 : Bool) (h44 : H), R40 x43 h44 →
        f4_J1 post x17_took x27 R30 x33 x38_gave x43 h44) (
        ∃ b54 : Addr, p1_steps.a = some b54 ∧ 0 ≤ x18_i ∧ x18_i < ((p1_steps.len : Nat) : Int) ∧
        ∃ x55 : Int, H.rd h26 (Addr.add (Addr.add b54 ((x18_i).toNat * 1)) 0) (Value.int .i64 x55) ∧
        SemCall Go.Proofs.Try.prog 21 (List.toArray [(Value.pointer x6), (Value.int .i64 x55)]) h26 fun v56 h57 =>
        ∃ x58 : Bool, ∃ x59 : Option (TypeId × Value), v56 = (Value.tuple (List.toArray [(Value.bool x58), (errV x59)])) ∧
        ∃ R60 : Bool → H → Prop, (
          isIfaceV (errV x59) = true ∧
          VIf (isNilV (errV x59)) (
            (∃ h61, Gh h57 h61 ∧ R60 x58 h61)) (
            (∃ h62, Gh h57 h62 ∧ R60 false h62))) ∧
        ∀ (_ : F) (x63 : Bool) (h64 : H), R60 x63 h64 →
        VIf x63 (
          In64 (x17_took + (1 : Int)) ∧
          VIf (decide (((x27.len : Nat) : Int) > (0 : Int))) (
            VRet h64 (Value.bool false) post) (
            (∃ h65, Gh h64 h65 ∧ R30 x16_gave (x17_took + (1 : Int)) h65))) (
          (∃ h66, Gh h64 h66 ∧ R30 x16_gave x17_took h66)))) ∧
    ∀ (_ : F) (x67_gave : Int) (x68_took : Int) (h69 : H), R30 x67_gave x68_took h69 →
    f4_J2 p0_count post x6 I12 n13 x18_i x67_gave x68_took h69) (
    (∃ h90, Gh h24 h90 ∧ R11 h90))

def f4_L4 (p0_count : Int) (p1_steps : SV) (post : Value → H → Prop) (x6 : Option Addr) (R11 : H → Prop) (I12 : Nat → Int → Int → Int → H → Prop) (n13 : Nat) (x16_gave : Int) (x17_took : Int) (x18_i : Int) (h19 : H) : Prop :=
  ∃ R20 : Bool → H → Prop, (
    VIf (decide (x18_i < ((p1_steps.len : Nat) : Int))) (
      (∃ h21, Gh h19 h21 ∧ R20 (decide (x18_i < (100 : Int))) h21)) (
      (∃ h22, Gh h19 h22 ∧ R20 false h22))) ∧
  ∀ (_ : F) (x23 : Bool) (h24 : H), R20 x23 h24 →
  f4_J3 p0_count p1_steps post x6 R11 I12 n13 x16_gave x17_took x18_i x23 h24

def f4_sem (p0_count : Int) (p1_steps : SV) (h0 : H) (post : Value → H → Prop) : Prop :=
  SemCall Go.Proofs.Try.prog 16 (List.toArray []) h0 fun v1 h2 =>
  ∃ x3 : Bool, v1 = (Value.bool x3) ∧
  VIf (!x3) (
    VRet h2 (Value.bool false) post) (
    SemCall Go.Proofs.Try.prog 17 (List.toArray [(Value.int .i64 p0_count)]) h2 fun v4 h5 =>
    ∃ x6 : Option Addr, ∃ x7 : Option (TypeId × Value), v4 = (Value.tuple (List.toArray [(Value.pointer x6), (errV x7)])) ∧
    isIfaceV (errV x7) = true ∧
    VIf (!(isNilV (errV x7))) (
      SemCall Go.Proofs.Try.prog 18 (List.toArray [(Value.int .i64 p0_count), (Value.int .i64 (0 : Int)), (Value.int .i64 (1000 : Int))]) h5 fun v8 h9 =>
      ∃ x10 : Bool, v8 = (Value.bool x10) ∧
      VRet h9 (Value.bool (!x10)) post) (
      ∃ R11 : H → Prop, (
        ∃ I12 : Nat → Int → Int → Int → H → Prop, (∃ n13, (∃ h15, Gh h5 h15 ∧ I12 n13 (0 : Int) (0 : Int) (0 : Int) h15)) ∧
        ∀ (n13 : Nat) (_ : F) (x16_gave : Int) (x17_took : Int) (x18_i : Int) (h19 : H), I12 n13 x16_gave x17_took x18_i h19 →
        f4_L4 p0_count p1_steps post x6 R11 I12 n13 x16_gave x17_took x18_i h19) ∧
      ∀ (_ : F) (h91 : H), R11 h91 →
      VRet h91 (Value.bool true) post))

def f4_hint : Hint := (.node .leaf (.node .leaf (.node .leaf (.node .leaf (.node .leaf (.node .leaf (.node .leaf (.node (.node .leaf (.join [] (.node (.loop [(8, .int), (9, .int), (10, .int)] (.node (.node (.join [(36, .bool)] .leaf) .leaf) (.node (.node (.node .leaf (.node (.node .leaf (.join [(8, .int), (9, .int)] (.node (.node .leaf (.node (.node .leaf (.join [(8, .int)] .leaf)) (.node (.join [(60, .bool)] .leaf) (.node (.node .leaf (.node (.join [(72, .bool)] .leaf) .leaf)) .leaf)))) (.node .leaf (.node (.join [(86, .bool)] .leaf) .leaf))))) (.node (.join [(115, .bool)] .leaf) .leaf))) .leaf) .leaf))) .leaf))) .leaf))))))))

theorem f4_eq (p0_count : Int) (p1_steps : SV) (h0 : H) (post : Value → H → Prop) : exec Try.prog (bodyOf Try.f4) f4_hint (retQ Try.prog Try.f4 post) (F0 [(Value.int .i64 p0_count), (Value.slice p1_steps.a p1_steps.len p1_steps.cap)]) h0 = f4_sem p0_count p1_steps h0 post := by kernel_rfl

theorem f4_call (p0_count : Int) (p1_steps : SV) (h0 : H) (post : Value → H → Prop) (hx : f4_sem p0_count p1_steps h0 post) : SemCall Try.prog 4 (List.toArray [(Value.int .i64 p0_count), (Value.slice p1_steps.a p1_steps.len p1_steps.cap)]) h0 post :=
  sem_of_exec (g := f4_hint) mixed Try.func4 (bodyOf_eq (by kernel_rfl)) (by kernel_rfl) ((f4_eq p0_count p1_steps h0 post).mpr hx)

/- latchgarth/latchgarthlaw4.SemBack -/
def f5_J1 (p1_steps : SV) (x6 : Option Addr) (R11 : H → Prop) (I12 : Nat → Int → H → Prop) (n13 : Nat) (x16_i : Int) (x21 : Bool) (h22 : H) : Prop :=
  VIf x21 (
    ∃ b23 : Addr, p1_steps.a = some b23 ∧ 0 ≤ x16_i ∧ x16_i < ((p1_steps.len : Nat) : Int) ∧
    ∃ x24 : Int, H.rd h22 (Addr.add (Addr.add b23 ((x16_i).toNat * 1)) 0) (Value.int .i64 x24) ∧
    VIf (x24 == (-1 : Int)) (
      SemCall Go.Proofs.Try.prog 20 (List.toArray [(Value.pointer x6)]) h22 fun v25 h26 =>
      ∃ x27 : Int, ∃ x28 : Option (TypeId × Value), v25 = (Value.tuple (List.toArray [(Value.int .i64 x27), (errV x28)])) ∧
      In64 (x16_i + (1 : Int)) ∧
      ∃ m14, m14 < n13 ∧ (∃ h29, Gh h26 h29 ∧ I12 m14 (x16_i + (1 : Int)) h29)) (
      ∃ b30 : Addr, p1_steps.a = some b30 ∧ 0 ≤ x16_i ∧ x16_i < ((p1_steps.len : Nat) : Int) ∧
      ∃ x31 : Int, H.rd h22 (Addr.add (Addr.add b30 ((x16_i).toNat * 1)) 0) (Value.int .i64 x31) ∧
      SemCall Go.Proofs.Try.prog 21 (List.toArray [(Value.pointer x6), (Value.int .i64 x31)]) h22 fun v32 h33 =>
      ∃ x34 : Bool, ∃ x35 : Option (TypeId × Value), v32 = (Value.tuple (List.toArray [(Value.bool x34), (errV x35)])) ∧
      In64 (x16_i + (1 : Int)) ∧
      ∃ m14, m14 < n13 ∧ (∃ h36, Gh h33 h36 ∧ I12 m14 (x16_i + (1 : Int)) h36))) (
    (∃ h37, Gh h22 h37 ∧ R11 h37))

def f5_L2 (p1_steps : SV) (x6 : Option Addr) (R11 : H → Prop) (I12 : Nat → Int → H → Prop) (n13 : Nat) (x16_i : Int) (h17 : H) : Prop :=
  ∃ R18 : Bool → H → Prop, (
    VIf (decide (x16_i < ((p1_steps.len : Nat) : Int))) (
      (∃ h19, Gh h17 h19 ∧ R18 (decide (x16_i < (80 : Int))) h19)) (
      (∃ h20, Gh h17 h20 ∧ R18 false h20))) ∧
  ∀ (_ : F) (x21 : Bool) (h22 : H), R18 x21 h22 →
  f5_J1 p1_steps x6 R11 I12 n13 x16_i x21 h22

def f5_J3 (p2_who : Int) (post : Value → H → Prop) (x6 : Option Addr) (h38 : H) : Prop :=
  SemCall Go.Proofs.Try.prog 22 (List.toArray [(Value.pointer x6)]) h38 fun v39 h40 =>
  ∃ x41 : Int, v39 = (Value.int .i64 x41) ∧
  SemCall Go.Proofs.Try.prog 19 (List.toArray [(Value.pointer x6)]) h40 fun v42 h43 =>
  ∃ x44 : SV, v42 = (Value.slice x44.a x44.len x44.cap) ∧
  SemCall Go.Proofs.Try.prog 21 (List.toArray [(Value.pointer x6), (Value.int .i64 p2_who)]) h43 fun v45 h46 =>
  ∃ x47 : Bool, ∃ x48 : Option (TypeId × Value), v45 = (Value.tuple (List.toArray [(Value.bool x47), (errV x48)])) ∧
  isIfaceV (errV x48) = true ∧
  VIf (!(isNilV (errV x48))) (
    ∃ R49 : Bool → H → Prop, (
      SemCall Go.Proofs.Try.prog 22 (List.toArray [(Value.pointer x6)]) h46 fun v50 h51 =>
      ∃ x52 : Int, v50 = (Value.int .i64 x52) ∧
      VIf (x52 == x41) (
        SemCall Go.Proofs.Try.prog 19 (List.toArray [(Value.pointer x6)]) h51 fun v53 h54 =>
        ∃ x55 : SV, v53 = (Value.slice x55.a x55.len x55.cap) ∧
        SemCall Go.Proofs.Try.prog 15 (List.toArray [(Value.slice x55.a x55.len x55.cap), (Value.slice x44.a x44.len x44.cap)]) h54 fun v56 h57 =>
        ∃ x58 : Bool, v56 = (Value.bool x58) ∧
        (∃ h59, Gh h57 h59 ∧ R49 x58 h59)) (
        (∃ h60, Gh h51 h60 ∧ R49 false h60))) ∧
    ∀ (_ : F) (x61 : Bool) (h62 : H), R49 x61 h62 →
    VRet h62 (Value.bool x61) post) (
    VIf (!x47) (
      ∃ R63 : Bool → H → Prop, (
        VIf (x41 == (0 : Int)) (
          SemCall Go.Proofs.Try.prog 22 (List.toArray [(Value.pointer x6)]) h46 fun v64 h65 =>
          ∃ x66 : Int, v64 = (Value.int .i64 x66) ∧
          VIf (x66 == (0 : Int)) (
            SemCall Go.Proofs.Try.prog 19 (List.toArray [(Value.pointer x6)]) h65 fun v67 h68 =>
            ∃ x69 : SV, v67 = (Value.slice x69.a x69.len x69.cap) ∧
            In64 (((x44.len : Nat) : Int) + (1 : Int)) ∧
            (∃ h70, Gh h68 h70 ∧ R63 (((x69.len : Nat) : Int) == (((x44.len : Nat) : Int) + (1 : Int))) h70)) (
            (∃ h71, Gh h65 h71 ∧ R63 false h71))) (
          (∃ h72, Gh h46 h72 ∧ R63 false h72))) ∧
      ∀ (_ : F) (x73 : Bool) (h74 : H), R63 x73 h74 →
      VRet h74 (Value.bool x73) post) (
      SemCall Go.Proofs.Try.prog 20 (List.toArray [(Value.pointer x6)]) h46 fun v75 h76 =>
      ∃ x77 : Int, ∃ x78 : Option (TypeId × Value), v75 = (Value.tuple (List.toArray [(Value.int .i64 x77), (errV x78)])) ∧
      ∃ R79 : Bool → H → Prop, (
        isIfaceV (errV x78) = true ∧
        VIf (isNilV (errV x78)) (
          VIf (x77 == (-1 : Int)) (
            SemCall Go.Proofs.Try.prog 22 (List.toArray [(Value.pointer x6)]) h76 fun v80 h81 =>
            ∃ x82 : Int, v80 = (Value.int .i64 x82) ∧
            VIf (x82 == x41) (
              VIf (((x44.len : Nat) : Int) == (0 : Int)) (
                SemCall Go.Proofs.Try.prog 19 (List.toArray [(Value.pointer x6)]) h81 fun v83 h84 =>
                ∃ x85 : SV, v83 = (Value.slice x85.a x85.len x85.cap) ∧
                (∃ h86, Gh h84 h86 ∧ R79 (((x85.len : Nat) : Int) == (0 : Int)) h86)) (
                (∃ h87, Gh h81 h87 ∧ R79 false h87))) (
              (∃ h88, Gh h81 h88 ∧ R79 false h88))) (
            (∃ h89, Gh h76 h89 ∧ R79 false h89))) (
          (∃ h90, Gh h76 h90 ∧ R79 false h90))) ∧
      ∀ (_ : F) (x91 : Bool) (h92 : H), R79 x91 h92 →
      VRet h92 (Value.bool x91) post))

def f5_sem (p0_count : Int) (p1_steps : SV) (p2_who : Int) (h0 : H) (post : Value → H → Prop) : Prop :=
  SemCall Go.Proofs.Try.prog 16 (List.toArray []) h0 fun v1 h2 =>
  ∃ x3 : Bool, v1 = (Value.bool x3) ∧
  VIf (!x3) (
    VRet h2 (Value.bool false) post) (
    SemCall Go.Proofs.Try.prog 17 (List.toArray [(Value.int .i64 p0_count)]) h2 fun v4 h5 =>
    ∃ x6 : Option Addr, ∃ x7 : Option (TypeId × Value), v4 = (Value.tuple (List.toArray [(Value.pointer x6), (errV x7)])) ∧
    isIfaceV (errV x7) = true ∧
    VIf (!(isNilV (errV x7))) (
      SemCall Go.Proofs.Try.prog 18 (List.toArray [(Value.int .i64 p0_count), (Value.int .i64 (0 : Int)), (Value.int .i64 (1000 : Int))]) h5 fun v8 h9 =>
      ∃ x10 : Bool, v8 = (Value.bool x10) ∧
      VRet h9 (Value.bool (!x10)) post) (
      ∃ R11 : H → Prop, (
        ∃ I12 : Nat → Int → H → Prop, (∃ n13, (∃ h15, Gh h5 h15 ∧ I12 n13 (0 : Int) h15)) ∧
        ∀ (n13 : Nat) (_ : F) (x16_i : Int) (h17 : H), I12 n13 x16_i h17 →
        f5_L2 p1_steps x6 R11 I12 n13 x16_i h17) ∧
      ∀ (_ : F) (h38 : H), R11 h38 →
      f5_J3 p2_who post x6 h38))

def f5_hint : Hint := (.node .leaf (.node .leaf (.node .leaf (.node .leaf (.node .leaf (.node (.node .leaf (.join [] (.node (.loop [(10, .int)] (.node (.node (.join [(36, .bool)] .leaf) .leaf) .leaf)) .leaf))) (.node .leaf (.node .leaf (.node .leaf (.node (.node .leaf (.node (.node (.join [(6, .bool)] .leaf) .leaf) .leaf)) (.node (.node .leaf (.node (.node (.join [(6, .bool)] .leaf) .leaf) .leaf)) (.node .leaf (.node (.join [(6, .bool)] .leaf) .leaf)))))))))))))

theorem f5_eq (p0_count : Int) (p1_steps : SV) (p2_who : Int) (h0 : H) (post : Value → H → Prop) : exec Try.prog (bodyOf Try.f5) f5_hint (retQ Try.prog Try.f5 post) (F0 [(Value.int .i64 p0_count), (Value.slice p1_steps.a p1_steps.len p1_steps.cap), (Value.int .i64 p2_who)]) h0 = f5_sem p0_count p1_steps p2_who h0 post := by kernel_rfl

theorem f5_call (p0_count : Int) (p1_steps : SV) (p2_who : Int) (h0 : H) (post : Value → H → Prop) (hx : f5_sem p0_count p1_steps p2_who h0 post) : SemCall Try.prog 5 (List.toArray [(Value.int .i64 p0_count), (Value.slice p1_steps.a p1_steps.len p1_steps.cap), (Value.int .i64 p2_who)]) h0 post :=
  sem_of_exec (g := f5_hint) mixed Try.func5 (bodyOf_eq (by kernel_rfl)) (by kernel_rfl) ((f5_eq p0_count p1_steps p2_who h0 post).mpr hx)

/- latchgarth/latchgarthlaw4.PmemLasts -/
def f6_sem (p0_n : Int) (p1_steps : SV) (p2_i : Int) (p3_value : Int) (p4_more : SV) (h0 : H) (post : Value → H → Prop) : Prop :=
  SemCall Go.Proofs.Try.prog 10 (List.toArray []) h0 fun v1 h2 =>
  ∃ x3 : Bool, v1 = (Value.bool x3) ∧
  VIf (!x3) (
    VRet h2 (Value.bool false) post) (
    SemCall Go.Proofs.Try.prog 11 (List.toArray [(Value.int .i64 p0_n)]) h2 fun v4 h5 =>
    ∃ x6 : Option Addr, ∃ x7 : Option (TypeId × Value), v4 = (Value.tuple (List.toArray [(Value.pointer x6), (errV x7)])) ∧
    isIfaceV (errV x7) = true ∧
    VIf (!(isNilV (errV x7))) (
      ∃ R8 : Bool → H → Prop, (
        VIf (decide (p0_n < (1 : Int))) (
          (∃ h9, Gh h5 h9 ∧ R8 true h9)) (
          (∃ h10, Gh h5 h10 ∧ R8 (decide (p0_n > (8 : Int))) h10))) ∧
      ∀ (_ : F) (x11 : Bool) (h12 : H), R8 x11 h12 →
      VRet h12 (Value.bool x11) post) (
      SemCall Go.Proofs.Try.prog 12 (List.toArray [(Value.pointer x6), (Value.slice p1_steps.a p1_steps.len p1_steps.cap), (Value.int .i64 (-1 : Int))]) h5 fun v13 h14 =>
      v13 = (Value.tuple (List.toArray [])) ∧
      SemCall Go.Proofs.Try.prog 23 (List.toArray [(Value.pointer x6), (Value.int .i64 p2_i), (Value.int .i64 p3_value)]) h14 fun v15 h16 =>
      ∃ x17 : Option (TypeId × Value), v15 = (errV x17) ∧
      isIfaceV (errV x17) = true ∧
      VIf (!(isNilV (errV x17))) (
        ∃ R18 : Bool → H → Prop, (
          In64 (p0_n - (1 : Int)) ∧
          SemCall Go.Proofs.Try.prog 18 (List.toArray [(Value.int .i64 p2_i), (Value.int .i64 (0 : Int)), (Value.int .i64 (p0_n - (1 : Int)))]) h16 fun v19 h20 =>
          ∃ x21 : Bool, v19 = (Value.bool x21) ∧
          VIf (!x21) (
            (∃ h22, Gh h20 h22 ∧ R18 true h22)) (
            SemCall Go.Proofs.Try.prog 18 (List.toArray [(Value.int .i64 p3_value), (Value.int .i64 (0 : Int)), (Value.int .i64 (1000 : Int))]) h20 fun v23 h24 =>
            ∃ x25 : Bool, v23 = (Value.bool x25) ∧
            (∃ h26, Gh h24 h26 ∧ R18 (!x25) h26))) ∧
        ∀ (_ : F) (x27 : Bool) (h28 : H), R18 x27 h28 →
        VRet h28 (Value.bool x27) post) (
        SemCall Go.Proofs.Try.prog 24 (List.toArray [(Value.pointer x6), (Value.int .i64 p2_i)]) h16 fun v29 h30 =>
        ∃ x31 : Option (TypeId × Value), v29 = (errV x31) ∧
        isIfaceV (errV x31) = true ∧
        VIf (!(isNilV (errV x31))) (
          VRet h30 (Value.bool false) post) (
          SemCall Go.Proofs.Try.prog 25 (List.toArray [(Value.pointer x6)]) h30 fun v32 h33 =>
          v32 = (Value.tuple (List.toArray [])) ∧
          SemCall Go.Proofs.Try.prog 12 (List.toArray [(Value.pointer x6), (Value.slice p4_more.a p4_more.len p4_more.cap), (Value.int .i64 p2_i)]) h33 fun v34 h35 =>
          v34 = (Value.tuple (List.toArray [])) ∧
          SemCall Go.Proofs.Try.prog 14 (List.toArray [(Value.pointer x6), (Value.int .i64 (0 : Int))]) h35 fun v36 h37 =>
          ∃ x38 : Option (TypeId × Value), v36 = (errV x38) ∧
          isIfaceV (errV x38) = true ∧
          VIf (!(isNilV (errV x38))) (
            VRet h37 (Value.bool false) post) (
            SemCall Go.Proofs.Try.prog 26 (List.toArray [(Value.pointer x6), (Value.int .i64 p2_i)]) h37 fun v39 h40 =>
            ∃ x41 : Int, v39 = (Value.int .i64 x41) ∧
            VRet h40 (Value.bool (x41 == p3_value)) post)))))

def f6_hint : Hint := (.node .leaf (.node .leaf (.node .leaf (.node .leaf (.node (.node .leaf (.node (.node (.join [(10, .bool)] .leaf) .leaf) .leaf)) (.node .leaf (.node (.node .leaf (.node (.node (.join [(10, .bool)] .leaf) .leaf) .leaf)) .leaf)))))))

theorem f6_eq (p0_n : Int) (p1_steps : SV) (p2_i : Int) (p3_value : Int) (p4_more : SV) (h0 : H) (post : Value → H → Prop) : exec Try.prog (bodyOf Try.f6) f6_hint (retQ Try.prog Try.f6 post) (F0 [(Value.int .i64 p0_n), (Value.slice p1_steps.a p1_steps.len p1_steps.cap), (Value.int .i64 p2_i), (Value.int .i64 p3_value), (Value.slice p4_more.a p4_more.len p4_more.cap)]) h0 = f6_sem p0_n p1_steps p2_i p3_value p4_more h0 post := by kernel_rfl

theorem f6_call (p0_n : Int) (p1_steps : SV) (p2_i : Int) (p3_value : Int) (p4_more : SV) (h0 : H) (post : Value → H → Prop) (hx : f6_sem p0_n p1_steps p2_i p3_value p4_more h0 post) : SemCall Try.prog 6 (List.toArray [(Value.int .i64 p0_n), (Value.slice p1_steps.a p1_steps.len p1_steps.cap), (Value.int .i64 p2_i), (Value.int .i64 p3_value), (Value.slice p4_more.a p4_more.len p4_more.cap)]) h0 post :=
  sem_of_exec (g := f6_hint) mixed Try.func6 (bodyOf_eq (by kernel_rfl)) (by kernel_rfl) ((f6_eq p0_n p1_steps p2_i p3_value p4_more h0 post).mpr hx)

/- latchgarth/latchgarthlaw4.RwApart -/
def f7_J1 (post : Value → H → Prop) (x6 : Option Addr) (I8 : Nat → Int → H → Prop) (n9 : Nat) (x12_i : Int) (h42 : H) : Prop :=
  ∃ R43 : Bool → H → Prop, (
    SemCall Go.Proofs.Try.prog 31 (List.toArray [(Value.pointer x6)]) h42 fun v44 h45 =>
    ∃ x46 : Int, v44 = (Value.int .i64 x46) ∧
    VIf (decide (x46 ≥ (0 : Int))) (
      SemCall Go.Proofs.Try.prog 32 (List.toArray [(Value.pointer x6)]) h45 fun v47 h48 =>
      ∃ x49 : Int, v47 = (Value.int .i64 x49) ∧
      VIf (x49 != (0 : Int)) (
        (∃ h50, Gh h48 h50 ∧ R43 true h50)) (
        SemCall Go.Proofs.Try.prog 31 (List.toArray [(Value.pointer x6)]) h48 fun v51 h52 =>
        ∃ x53 : Int, v51 = (Value.int .i64 x53) ∧
        VIf (decide (x53 < (0 : Int))) (
          SemCall Go.Proofs.Try.prog 32 (List.toArray [(Value.pointer x6)]) h52 fun v54 h55 =>
          ∃ x56 : Int, v54 = (Value.int .i64 x56) ∧
          VIf (x56 == (0 : Int)) (
            SemCall Go.Proofs.Try.prog 33 (List.toArray [(Value.pointer x6)]) h55 fun v57 h58 =>
            ∃ x59 : SV, v57 = (Value.slice x59.a x59.len x59.cap) ∧
            (∃ h60, Gh h58 h60 ∧ R43 (decide (((x59.len : Nat) : Int) > (0 : Int))) h60)) (
            (∃ h61, Gh h55 h61 ∧ R43 false h61))) (
          (∃ h62, Gh h52 h62 ∧ R43 false h62)))) (
      SemCall Go.Proofs.Try.prog 31 (List.toArray [(Value.pointer x6)]) h45 fun v63 h64 =>
      ∃ x65 : Int, v63 = (Value.int .i64 x65) ∧
      VIf (decide (x65 < (0 : Int))) (
        SemCall Go.Proofs.Try.prog 32 (List.toArray [(Value.pointer x6)]) h64 fun v66 h67 =>
        ∃ x68 : Int, v66 = (Value.int .i64 x68) ∧
        VIf (x68 == (0 : Int)) (
          SemCall Go.Proofs.Try.prog 33 (List.toArray [(Value.pointer x6)]) h67 fun v69 h70 =>
          ∃ x71 : SV, v69 = (Value.slice x71.a x71.len x71.cap) ∧
          (∃ h72, Gh h70 h72 ∧ R43 (decide (((x71.len : Nat) : Int) > (0 : Int))) h72)) (
          (∃ h73, Gh h67 h73 ∧ R43 false h73))) (
        (∃ h74, Gh h64 h74 ∧ R43 false h74)))) ∧
  ∀ (_ : F) (x75 : Bool) (h76 : H), R43 x75 h76 →
  VIf x75 (
    VRet h76 (Value.bool false) post) (
    In64 (x12_i + (1 : Int)) ∧
    ∃ m10, m10 < n9 ∧ (∃ h77, Gh h76 h77 ∧ I8 m10 (x12_i + (1 : Int)) h77))

def f7_J2 (post : Value → H → Prop) (x6 : Option Addr) (I8 : Nat → Int → H → Prop) (n9 : Nat) (x12_i : Int) (x20 : SV) (h32 : H) : Prop :=
  ∃ R33 : H → Prop, (
    VIf (((x20.len : Nat) : Int) == (1 : Int)) (
      ∃ b34 : Addr, x20.a = some b34 ∧ 0 ≤ (0 : Int) ∧ (0 : Int) < ((x20.len : Nat) : Int) ∧
      ∃ x35 : Int, H.rd h32 (Addr.add (Addr.add b34 (((0 : Int)).toNat * 1)) 0) (Value.int .i64 x35) ∧
      SemCall Go.Proofs.Try.prog 30 (List.toArray [(Value.pointer x6), (Value.int .i64 x35)]) h32 fun v36 h37 =>
      ∃ x38 : SV, ∃ x39 : Option (TypeId × Value), v36 = (Value.tuple (List.toArray [(Value.slice x38.a x38.len x38.cap), (errV x39)])) ∧
      (∃ h40, Gh h37 h40 ∧ R33 h40)) (
      (∃ h41, Gh h32 h41 ∧ R33 h41))) ∧
  ∀ (_ : F) (h42 : H), R33 h42 →
  f7_J1 post x6 I8 n9 x12_i h42

def f7_J3 (p0_steps : SV) (post : Value → H → Prop) (x6 : Option Addr) (R7 : H → Prop) (I8 : Nat → Int → H → Prop) (n9 : Nat) (x12_i : Int) (x17 : Bool) (h18 : H) : Prop :=
  VIf x17 (
    ∃ b19 : Addr, p0_steps.a = some b19 ∧ 0 ≤ x12_i ∧ x12_i < ((p0_steps.len : Nat) : Int) ∧
    ∃ x20 : SV, H.rd h18 (Addr.add (Addr.add b19 ((x12_i).toNat * 1)) 0) (Value.slice x20.a x20.len x20.cap) ∧
    ∃ R21 : H → Prop, (
      VIf (((x20.len : Nat) : Int) == (2 : Int)) (
        ∃ b22 : Addr, x20.a = some b22 ∧ 0 ≤ (0 : Int) ∧ (0 : Int) < ((x20.len : Nat) : Int) ∧
        ∃ x23 : Int, H.rd h18 (Addr.add (Addr.add b22 (((0 : Int)).toNat * 1)) 0) (Value.int .i64 x23) ∧
        ∃ b24 : Addr, x20.a = some b24 ∧ 0 ≤ (1 : Int) ∧ (1 : Int) < ((x20.len : Nat) : Int) ∧
        ∃ x25 : Int, H.rd h18 (Addr.add (Addr.add b24 (((1 : Int)).toNat * 1)) 0) (Value.int .i64 x25) ∧
        SemCall Go.Proofs.Try.prog 29 (List.toArray [(Value.pointer x6), (Value.int .i64 x23), (Value.bool (x25 == (1 : Int)))]) h18 fun v26 h27 =>
        ∃ x28 : Bool, ∃ x29 : Option (TypeId × Value), v26 = (Value.tuple (List.toArray [(Value.bool x28), (errV x29)])) ∧
        (∃ h30, Gh h27 h30 ∧ R21 h30)) (
        (∃ h31, Gh h18 h31 ∧ R21 h31))) ∧
    ∀ (_ : F) (h32 : H), R21 h32 →
    f7_J2 post x6 I8 n9 x12_i x20 h32) (
    (∃ h78, Gh h18 h78 ∧ R7 h78))

def f7_L4 (p0_steps : SV) (post : Value → H → Prop) (x6 : Option Addr) (R7 : H → Prop) (I8 : Nat → Int → H → Prop) (n9 : Nat) (x12_i : Int) (h13 : H) : Prop :=
  ∃ R14 : Bool → H → Prop, (
    VIf (decide (x12_i < ((p0_steps.len : Nat) : Int))) (
      (∃ h15, Gh h13 h15 ∧ R14 (decide (x12_i < (100 : Int))) h15)) (
      (∃ h16, Gh h13 h16 ∧ R14 false h16))) ∧
  ∀ (_ : F) (x17 : Bool) (h18 : H), R14 x17 h18 →
  f7_J3 p0_steps post x6 R7 I8 n9 x12_i x17 h18

def f7_sem (p0_steps : SV) (h0 : H) (post : Value → H → Prop) : Prop :=
  SemCall Go.Proofs.Try.prog 27 (List.toArray []) h0 fun v1 h2 =>
  ∃ x3 : Bool, v1 = (Value.bool x3) ∧
  VIf (!x3) (
    VRet h2 (Value.bool false) post) (
    SemCall Go.Proofs.Try.prog 28 (List.toArray []) h2 fun v4 h5 =>
    ∃ x6 : Option Addr, v4 = (Value.pointer x6) ∧
    ∃ R7 : H → Prop, (
      ∃ I8 : Nat → Int → H → Prop, (∃ n9, (∃ h11, Gh h5 h11 ∧ I8 n9 (0 : Int) h11)) ∧
      ∀ (n9 : Nat) (_ : F) (x12_i : Int) (h13 : H), I8 n9 x12_i h13 →
      f7_L4 p0_steps post x6 R7 I8 n9 x12_i h13) ∧
    ∀ (_ : F) (h79 : H), R7 h79 →
    VRet h79 (Value.bool true) post)

def f7_hint : Hint := (.node .leaf (.node .leaf (.node .leaf (.node .leaf (.node (.node .leaf (.join [] (.node (.loop [(5, .int)] (.node (.node (.join [(18, .bool)] .leaf) .leaf) (.node (.node (.node .leaf (.node (.node .leaf (.join [] (.node (.tail 8) .leaf))) (.node (.node .leaf (.join [] .leaf)) (.node (.join [(68, .bool)] .leaf) .leaf)))) .leaf) .leaf))) .leaf))) .leaf)))))

theorem f7_eq (p0_steps : SV) (h0 : H) (post : Value → H → Prop) : exec Try.prog (bodyOf Try.f7) f7_hint (retQ Try.prog Try.f7 post) (F0 [(Value.slice p0_steps.a p0_steps.len p0_steps.cap)]) h0 = f7_sem p0_steps h0 post := by kernel_rfl

theorem f7_call (p0_steps : SV) (h0 : H) (post : Value → H → Prop) (hx : f7_sem p0_steps h0 post) : SemCall Try.prog 7 (List.toArray [(Value.slice p0_steps.a p0_steps.len p0_steps.cap)]) h0 post :=
  sem_of_exec (g := f7_hint) mixed Try.func7 (bodyOf_eq (by kernel_rfl)) (by kernel_rfl) ((f7_eq p0_steps h0 post).mpr hx)

/- latchgarth/latchgarthlaw4.RwServes -/
def f8_J1 (post : Value → H → Prop) (x6 : Option Addr) (I8 : Nat → Int → H → Prop) (n9 : Nat) (x12_i : Int) (x20 : SV) (h54 : H) : Prop :=
  VIf (((x20.len : Nat) : Int) == (1 : Int)) (
    SemCall Go.Proofs.Try.prog 33 (List.toArray [(Value.pointer x6)]) h54 fun v55 h56 =>
    ∃ x57 : SV, v55 = (Value.slice x57.a x57.len x57.cap) ∧
    ∃ b58 : Addr, x20.a = some b58 ∧ 0 ≤ (0 : Int) ∧ (0 : Int) < ((x20.len : Nat) : Int) ∧
    ∃ x59 : Int, H.rd h56 (Addr.add (Addr.add b58 (((0 : Int)).toNat * 1)) 0) (Value.int .i64 x59) ∧
    SemCall Go.Proofs.Try.prog 30 (List.toArray [(Value.pointer x6), (Value.int .i64 x59)]) h56 fun v60 h61 =>
    ∃ x62 : SV, ∃ x63 : Option (TypeId × Value), v60 = (Value.tuple (List.toArray [(Value.slice x62.a x62.len x62.cap), (errV x63)])) ∧
    SemCall Go.Proofs.Try.prog 33 (List.toArray [(Value.pointer x6)]) h61 fun v64 h65 =>
    ∃ x66 : SV, v64 = (Value.slice x66.a x66.len x66.cap) ∧
    ∃ R67 : Bool → H → Prop, (
      isIfaceV (errV x63) = true ∧
      VIf (isNilV (errV x63)) (
        In64 (((x62.len : Nat) : Int) + ((x66.len : Nat) : Int)) ∧
        VIf ((((x62.len : Nat) : Int) + ((x66.len : Nat) : Int)) != ((x57.len : Nat) : Int)) (
          (∃ h68, Gh h65 h68 ∧ R67 true h68)) (
          VIf (decide (((x62.len : Nat) : Int) > ((x57.len : Nat) : Int))) (
            (∃ h69, Gh h65 h69 ∧ R67 true h69)) (
            0 ≤ ((x62.len : Nat) : Int) ∧ ((x62.len : Nat) : Int) ≤ ((x57.cap : Nat) : Int) ∧
            SemCall Go.Proofs.Try.prog 15 (List.toArray [(Value.slice x57.a ((((x62.len : Nat) : Int)).toNat) x57.cap), (Value.slice x62.a x62.len x62.cap)]) h65 fun v70 h71 =>
            ∃ x72 : Bool, v70 = (Value.bool x72) ∧
            VIf (!x72) (
              (∃ h73, Gh h71 h73 ∧ R67 true h73)) (
              0 ≤ ((x62.len : Nat) : Int) ∧ ((x62.len : Nat) : Int) ≤ ((x57.len : Nat) : Int) ∧
              SemCall Go.Proofs.Try.prog 15 (List.toArray [(Value.slice (if x57.cap = (((x62.len : Nat) : Int)).toNat then x57.a else Option.map (fun z => Addr.add z ((((x62.len : Nat) : Int)).toNat * 1)) x57.a) (x57.len - (((x62.len : Nat) : Int)).toNat) (x57.cap - (((x62.len : Nat) : Int)).toNat)), (Value.slice x66.a x66.len x66.cap)]) h71 fun v74 h75 =>
              ∃ x76 : Bool, v74 = (Value.bool x76) ∧
              (∃ h77, Gh h75 h77 ∧ R67 (!x76) h77))))) (
        (∃ h78, Gh h65 h78 ∧ R67 false h78))) ∧
    ∀ (_ : F) (x79 : Bool) (h80 : H), R67 x79 h80 →
    VIf x79 (
      VRet h80 (Value.bool false) post) (
      In64 (x12_i + (1 : Int)) ∧
      ∃ m10, m10 < n9 ∧ (∃ h81, Gh h80 h81 ∧ I8 m10 (x12_i + (1 : Int)) h81))) (
    In64 (x12_i + (1 : Int)) ∧
    ∃ m10, m10 < n9 ∧ (∃ h82, Gh h54 h82 ∧ I8 m10 (x12_i + (1 : Int)) h82))

def f8_J2 (p0_steps : SV) (post : Value → H → Prop) (x6 : Option Addr) (R7 : H → Prop) (I8 : Nat → Int → H → Prop) (n9 : Nat) (x12_i : Int) (x17 : Bool) (h18 : H) : Prop :=
  VIf x17 (
    ∃ b19 : Addr, p0_steps.a = some b19 ∧ 0 ≤ x12_i ∧ x12_i < ((p0_steps.len : Nat) : Int) ∧
    ∃ x20 : SV, H.rd h18 (Addr.add (Addr.add b19 ((x12_i).toNat * 1)) 0) (Value.slice x20.a x20.len x20.cap) ∧
    ∃ R21 : H → Prop, (
      VIf (((x20.len : Nat) : Int) == (2 : Int)) (
        SemCall Go.Proofs.Try.prog 33 (List.toArray [(Value.pointer x6)]) h18 fun v22 h23 =>
        ∃ x24 : SV, v22 = (Value.slice x24.a x24.len x24.cap) ∧
        ∃ b25 : Addr, x20.a = some b25 ∧ 0 ≤ (0 : Int) ∧ (0 : Int) < ((x20.len : Nat) : Int) ∧
        ∃ b26 : Addr, x20.a = some b26 ∧ 0 ≤ (1 : Int) ∧ (1 : Int) < ((x20.len : Nat) : Int) ∧
        (
          ∃ x27 : Int, H.rd h23 (Addr.add (Addr.add b25 (((0 : Int)).toNat * 1)) 0) (Value.int .i64 x27) ∧
          ∃ x28 : Int, H.rd h23 (Addr.add (Addr.add b26 (((1 : Int)).toNat * 1)) 0) (Value.int .i64 x28) ∧
          SemCall Go.Proofs.Try.prog 29 (List.toArray [(Value.pointer x6), (Value.int .i64 x27), (Value.bool (x28 == (1 : Int)))]) h23 fun v29 h30 =>
          ∃ x31 : Bool, ∃ x32 : Option (TypeId × Value), v29 = (Value.tuple (List.toArray [(Value.bool x31), (errV x32)])) ∧
          ∃ R33 : Bool → H → Prop, (
            isIfaceV (errV x32) = true ∧
            VIf (isNilV (errV x32)) (
              VIf x31 (
                (∃ h34, Gh h30 h34 ∧ R33 (decide (((x24.len : Nat) : Int) > (0 : Int))) h34)) (
                (∃ h35, Gh h30 h35 ∧ R33 false h35))) (
              (∃ h36, Gh h30 h36 ∧ R33 false h36))) ∧
          ∀ (_ : F) (x37 : Bool) (h38 : H), R33 x37 h38 →
          VIf x37 (
            VRet h38 (Value.bool false) post) (
            (∃ h39, Gh h38 h39 ∧ R21 h39))) ∧
        (
          ∃ x40 : Int, H.rd h23 (Addr.add (Addr.add b26 (((1 : Int)).toNat * 1)) 0) (Value.int .i64 x40) ∧
          ∃ x41 : Int, H.rd h23 (Addr.add (Addr.add b25 (((0 : Int)).toNat * 1)) 0) (Value.int .i64 x41) ∧
          SemCall Go.Proofs.Try.prog 29 (List.toArray [(Value.pointer x6), (Value.int .i64 x41), (Value.bool (x40 == (1 : Int)))]) h23 fun v42 h43 =>
          ∃ x44 : Bool, ∃ x45 : Option (TypeId × Value), v42 = (Value.tuple (List.toArray [(Value.bool x44), (errV x45)])) ∧
          ∃ R46 : Bool → H → Prop, (
            isIfaceV (errV x45) = true ∧
            VIf (isNilV (errV x45)) (
              VIf x44 (
                (∃ h47, Gh h43 h47 ∧ R46 (decide (((x24.len : Nat) : Int) > (0 : Int))) h47)) (
                (∃ h48, Gh h43 h48 ∧ R46 false h48))) (
              (∃ h49, Gh h43 h49 ∧ R46 false h49))) ∧
          ∀ (_ : F) (x50 : Bool) (h51 : H), R46 x50 h51 →
          VIf x50 (
            VRet h51 (Value.bool false) post) (
            (∃ h52, Gh h51 h52 ∧ R21 h52)))) (
        (∃ h53, Gh h18 h53 ∧ R21 h53))) ∧
    ∀ (_ : F) (h54 : H), R21 h54 →
    f8_J1 post x6 I8 n9 x12_i x20 h54) (
    (∃ h83, Gh h18 h83 ∧ R7 h83))

def f8_L3 (p0_steps : SV) (post : Value → H → Prop) (x6 : Option Addr) (R7 : H → Prop) (I8 : Nat → Int → H → Prop) (n9 : Nat) (x12_i : Int) (h13 : H) : Prop :=
  ∃ R14 : Bool → H → Prop, (
    VIf (decide (x12_i < ((p0_steps.len : Nat) : Int))) (
      (∃ h15, Gh h13 h15 ∧ R14 (decide (x12_i < (80 : Int))) h15)) (
      (∃ h16, Gh h13 h16 ∧ R14 false h16))) ∧
  ∀ (_ : F) (x17 : Bool) (h18 : H), R14 x17 h18 →
  f8_J2 p0_steps post x6 R7 I8 n9 x12_i x17 h18

def f8_L4 (x6 : Option Addr) (R93 : H → Prop) (I94 : Nat → Int → H → Prop) (n95 : Nat) (x98_who : Int) (h99 : H) : Prop :=
  VIf (decide (x98_who < (8 : Int))) (
    SemCall Go.Proofs.Try.prog 30 (List.toArray [(Value.pointer x6), (Value.int .i64 x98_who)]) h99 fun v100 h101 =>
    ∃ x102 : SV, ∃ x103 : Option (TypeId × Value), v100 = (Value.tuple (List.toArray [(Value.slice x102.a x102.len x102.cap), (errV x103)])) ∧
    In64 (x98_who + (1 : Int)) ∧
    ∃ m96, m96 < n95 ∧ (∃ h104, Gh h101 h104 ∧ I94 m96 (x98_who + (1 : Int)) h104)) (
    (∃ h105, Gh h99 h105 ∧ R93 h105))

def f8_L5 (x6 : Option Addr) (R85 : H → Prop) (I86 : Nat → Int → H → Prop) (n87 : Nat) (x90_round : Int) (h91 : H) : Prop :=
  VIf (decide (x90_round < (9 : Int))) (
    ∃ R92 : H → Prop, (
      ∃ R93 : H → Prop, (
        ∃ I94 : Nat → Int → H → Prop, (∃ n95, (∃ h97, Gh h91 h97 ∧ I94 n95 (0 : Int) h97)) ∧
        ∀ (n95 : Nat) (_ : F) (x98_who : Int) (h99 : H), I94 n95 x98_who h99 →
        f8_L4 x6 R93 I94 n95 x98_who h99) ∧
      ∀ (_ : F) (h106 : H), R93 h106 →
      (∃ h107, Gh h106 h107 ∧ R92 h107)) ∧
    ∀ (_ : F) (h108 : H), R92 h108 →
    In64 (x90_round + (1 : Int)) ∧
    ∃ m88, m88 < n87 ∧ (∃ h109, Gh h108 h109 ∧ I86 m88 (x90_round + (1 : Int)) h109)) (
    (∃ h110, Gh h91 h110 ∧ R85 h110))

def f8_J6 (post : Value → H → Prop) (x6 : Option Addr) (h111 : H) : Prop :=
  ∃ R112 : Bool → H → Prop, (
    SemCall Go.Proofs.Try.prog 33 (List.toArray [(Value.pointer x6)]) h111 fun v113 h114 =>
    ∃ x115 : SV, v113 = (Value.slice x115.a x115.len x115.cap) ∧
    VIf (((x115.len : Nat) : Int) == (0 : Int)) (
      SemCall Go.Proofs.Try.prog 32 (List.toArray [(Value.pointer x6)]) h114 fun v116 h117 =>
      ∃ x118 : Int, v116 = (Value.int .i64 x118) ∧
      VIf (x118 == (0 : Int)) (
        SemCall Go.Proofs.Try.prog 31 (List.toArray [(Value.pointer x6)]) h117 fun v119 h120 =>
        ∃ x121 : Int, v119 = (Value.int .i64 x121) ∧
        (∃ h122, Gh h120 h122 ∧ R112 (x121 == (-1 : Int)) h122)) (
        (∃ h123, Gh h117 h123 ∧ R112 false h123))) (
      (∃ h124, Gh h114 h124 ∧ R112 false h124))) ∧
  ∀ (_ : F) (x125 : Bool) (h126 : H), R112 x125 h126 →
  VRet h126 (Value.bool x125) post

def f8_sem (p0_steps : SV) (h0 : H) (post : Value → H → Prop) : Prop :=
  SemCall Go.Proofs.Try.prog 27 (List.toArray []) h0 fun v1 h2 =>
  ∃ x3 : Bool, v1 = (Value.bool x3) ∧
  VIf (!x3) (
    VRet h2 (Value.bool false) post) (
    SemCall Go.Proofs.Try.prog 28 (List.toArray []) h2 fun v4 h5 =>
    ∃ x6 : Option Addr, v4 = (Value.pointer x6) ∧
    ∃ R7 : H → Prop, (
      ∃ I8 : Nat → Int → H → Prop, (∃ n9, (∃ h11, Gh h5 h11 ∧ I8 n9 (0 : Int) h11)) ∧
      ∀ (n9 : Nat) (_ : F) (x12_i : Int) (h13 : H), I8 n9 x12_i h13 →
      f8_L3 p0_steps post x6 R7 I8 n9 x12_i h13) ∧
    ∀ (_ : F) (h84 : H), R7 h84 →
    ∃ R85 : H → Prop, (
      ∃ I86 : Nat → Int → H → Prop, (∃ n87, (∃ h89, Gh h84 h89 ∧ I86 n87 (0 : Int) h89)) ∧
      ∀ (n87 : Nat) (_ : F) (x90_round : Int) (h91 : H), I86 n87 x90_round h91 →
      f8_L5 x6 R85 I86 n87 x90_round h91) ∧
    ∀ (_ : F) (h111 : H), R85 h111 →
    f8_J6 post x6 h111)

def f8_hint : Hint := (.node .leaf (.node .leaf (.node .leaf (.node .leaf (.node (.node .leaf (.join [] (.node (.loop [(5, .int)] (.node (.node (.join [(27, .bool)] .leaf) .leaf) (.node (.node (.node .leaf (.node (.node .leaf (.join [] (.node (.node .leaf (.node .any (.node (.join [(60, .bool)] .leaf) .leaf))) .leaf))) (.node .leaf (.node (.node .leaf (.node .leaf (.node .leaf (.node (.join [(112, .bool)] .leaf) .leaf)))) .leaf)))) .leaf) .leaf))) .leaf))) (.node (.node .leaf (.join [] (.node (.loop [(14, .int)] (.node .leaf (.node (.join [] (.node (.node .leaf (.join [] (.node (.loop [(15, .int)] .leaf) .leaf))) .leaf)) .leaf))) .leaf))) (.node (.join [(2, .bool)] .leaf) .leaf)))))))

theorem f8_eq (p0_steps : SV) (h0 : H) (post : Value → H → Prop) : exec Try.prog (bodyOf Try.f8) f8_hint (retQ Try.prog Try.f8 post) (F0 [(Value.slice p0_steps.a p0_steps.len p0_steps.cap)]) h0 = f8_sem p0_steps h0 post := by kernel_rfl

theorem f8_call (p0_steps : SV) (h0 : H) (post : Value → H → Prop) (hx : f8_sem p0_steps h0 post) : SemCall Try.prog 8 (List.toArray [(Value.slice p0_steps.a p0_steps.len p0_steps.cap)]) h0 post :=
  sem_of_exec (g := f8_hint) mixed Try.func8 (bodyOf_eq (by kernel_rfl)) (by kernel_rfl) ((f8_eq p0_steps h0 post).mpr hx)

/- latchgarth/latchgarthlaw4.RwReads -/
def f9_J1 (p0_steps : SV) (x6 : Option Addr) (R7 : H → Prop) (I8 : Nat → Int → H → Prop) (n9 : Nat) (x12_i : Int) (x17 : Bool) (h18 : H) : Prop :=
  VIf x17 (
    ∃ b19 : Addr, p0_steps.a = some b19 ∧ 0 ≤ x12_i ∧ x12_i < ((p0_steps.len : Nat) : Int) ∧
    ∃ x20 : SV, H.rd h18 (Addr.add (Addr.add b19 ((x12_i).toNat * 1)) 0) (Value.slice x20.a x20.len x20.cap) ∧
    ∃ R21 : H → Prop, (
      VIf (((x20.len : Nat) : Int) == (2 : Int)) (
        ∃ b22 : Addr, x20.a = some b22 ∧ 0 ≤ (0 : Int) ∧ (0 : Int) < ((x20.len : Nat) : Int) ∧
        ∃ x23 : Int, H.rd h18 (Addr.add (Addr.add b22 (((0 : Int)).toNat * 1)) 0) (Value.int .i64 x23) ∧
        ∃ b24 : Addr, x20.a = some b24 ∧ 0 ≤ (1 : Int) ∧ (1 : Int) < ((x20.len : Nat) : Int) ∧
        ∃ x25 : Int, H.rd h18 (Addr.add (Addr.add b24 (((1 : Int)).toNat * 1)) 0) (Value.int .i64 x25) ∧
        SemCall Go.Proofs.Try.prog 29 (List.toArray [(Value.pointer x6), (Value.int .i64 x23), (Value.bool (x25 == (1 : Int)))]) h18 fun v26 h27 =>
        ∃ x28 : Bool, ∃ x29 : Option (TypeId × Value), v26 = (Value.tuple (List.toArray [(Value.bool x28), (errV x29)])) ∧
        (∃ h30, Gh h27 h30 ∧ R21 h30)) (
        (∃ h31, Gh h18 h31 ∧ R21 h31))) ∧
    ∀ (_ : F) (h32 : H), R21 h32 →
    VIf (((x20.len : Nat) : Int) == (1 : Int)) (
      ∃ b33 : Addr, x20.a = some b33 ∧ 0 ≤ (0 : Int) ∧ (0 : Int) < ((x20.len : Nat) : Int) ∧
      ∃ x34 : Int, H.rd h32 (Addr.add (Addr.add b33 (((0 : Int)).toNat * 1)) 0) (Value.int .i64 x34) ∧
      SemCall Go.Proofs.Try.prog 30 (List.toArray [(Value.pointer x6), (Value.int .i64 x34)]) h32 fun v35 h36 =>
      ∃ x37 : SV, ∃ x38 : Option (TypeId × Value), v35 = (Value.tuple (List.toArray [(Value.slice x37.a x37.len x37.cap), (errV x38)])) ∧
      In64 (x12_i + (1 : Int)) ∧
      ∃ m10, m10 < n9 ∧ (∃ h39, Gh h36 h39 ∧ I8 m10 (x12_i + (1 : Int)) h39)) (
      In64 (x12_i + (1 : Int)) ∧
      ∃ m10, m10 < n9 ∧ (∃ h40, Gh h32 h40 ∧ I8 m10 (x12_i + (1 : Int)) h40))) (
    (∃ h41, Gh h18 h41 ∧ R7 h41))

def f9_L2 (p0_steps : SV) (x6 : Option Addr) (R7 : H → Prop) (I8 : Nat → Int → H → Prop) (n9 : Nat) (x12_i : Int) (h13 : H) : Prop :=
  ∃ R14 : Bool → H → Prop, (
    VIf (decide (x12_i < ((p0_steps.len : Nat) : Int))) (
      (∃ h15, Gh h13 h15 ∧ R14 (decide (x12_i < (80 : Int))) h15)) (
      (∃ h16, Gh h13 h16 ∧ R14 false h16))) ∧
  ∀ (_ : F) (x17 : Bool) (h18 : H), R14 x17 h18 →
  f9_J1 p0_steps x6 R7 I8 n9 x12_i x17 h18

def f9_L3 (p1_who : Int) (R72 : Int → H → Prop) (I73 : Nat → Int → Int → H → Prop) (n74 : Nat) (x77_p : Int) (x78_i : Int) (h79 : H) : Prop :=
  VIf (decide (x78_i < p1_who)) (
    In64 (x77_p * (2 : Int)) ∧
    In64 (x78_i + (1 : Int)) ∧
    ∃ m75, m75 < n74 ∧ (∃ h80, Gh h79 h80 ∧ I73 m75 (x77_p * (2 : Int)) (x78_i + (1 : Int)) h80)) (
    (∃ h81, Gh h79 h81 ∧ R72 x77_p h81))

def f9_J4 (p1_who : Int) (post : Value → H → Prop) (x6 : Option Addr) (x45 : Int) (x59 : Bool) (x70 : Bool) (h71 : H) : Prop :=
  VIf x70 (
    VRet h71 (Value.bool false) post) (
    ∃ R72 : Int → H → Prop, (
      ∃ I73 : Nat → Int → Int → H → Prop, (∃ n74, (∃ h76, Gh h71 h76 ∧ I73 n74 (1 : Int) (0 : Int) h76)) ∧
      ∀ (n74 : Nat) (_ : F) (x77_p : Int) (x78_i : Int) (h79 : H), I73 n74 x77_p x78_i h79 →
      f9_L3 p1_who R72 I73 n74 x77_p x78_i h79) ∧
    ∀ (_ : F) (x82_p : Int) (h83 : H), R72 x82_p h83 →
    ∃ R84 : Bool → H → Prop, (
      VIf (!x59) (
        (∃ h85, Gh h83 h85 ∧ R84 true h85)) (
        SemCall Go.Proofs.Try.prog 32 (List.toArray [(Value.pointer x6)]) h83 fun v86 h87 =>
        ∃ x88 : Int, v86 = (Value.int .i64 x88) ∧
        In64 (x45 + x82_p) ∧
        (∃ h89, Gh h87 h89 ∧ R84 (x88 == (x45 + x82_p)) h89))) ∧
    ∀ (_ : F) (x90 : Bool) (h91 : H), R84 x90 h91 →
    VRet h91 (Value.bool x90) post)

def f9_J5 (p1_who : Int) (post : Value → H → Prop) (x6 : Option Addr) (x45 : Int) (x55_free : Bool) (h56 : H) : Prop :=
  SemCall Go.Proofs.Try.prog 29 (List.toArray [(Value.pointer x6), (Value.int .i64 p1_who), (Value.bool false)]) h56 fun v57 h58 =>
  ∃ x59 : Bool, ∃ x60 : Option (TypeId × Value), v57 = (Value.tuple (List.toArray [(Value.bool x59), (errV x60)])) ∧
  isIfaceV (errV x60) = true ∧
  VIf (!(isNilV (errV x60))) (
    SemCall Go.Proofs.Try.prog 32 (List.toArray [(Value.pointer x6)]) h58 fun v61 h62 =>
    ∃ x63 : Int, v61 = (Value.int .i64 x63) ∧
    VRet h62 (Value.bool (x63 == x45)) post) (
    ∃ R64 : Bool → H → Prop, (
      VIf (!(x59 == x55_free)) (
        (∃ h65, Gh h58 h65 ∧ R64 true h65)) (
        SemCall Go.Proofs.Try.prog 18 (List.toArray [(Value.int .i64 p1_who), (Value.int .i64 (0 : Int)), (Value.int .i64 (7 : Int))]) h58 fun v66 h67 =>
        ∃ x68 : Bool, v66 = (Value.bool x68) ∧
        (∃ h69, Gh h67 h69 ∧ R64 (!x68) h69))) ∧
    ∀ (_ : F) (x70 : Bool) (h71 : H), R64 x70 h71 →
    f9_J4 p1_who post x6 x45 x59 x70 h71)

def f9_J6 (p1_who : Int) (post : Value → H → Prop) (x6 : Option Addr) (h42 : H) : Prop :=
  SemCall Go.Proofs.Try.prog 32 (List.toArray [(Value.pointer x6)]) h42 fun v43 h44 =>
  ∃ x45 : Int, v43 = (Value.int .i64 x45) ∧
  ∃ R46 : Bool → H → Prop, (
    SemCall Go.Proofs.Try.prog 31 (List.toArray [(Value.pointer x6)]) h44 fun v47 h48 =>
    ∃ x49 : Int, v47 = (Value.int .i64 x49) ∧
    VIf (x49 == (-1 : Int)) (
      SemCall Go.Proofs.Try.prog 33 (List.toArray [(Value.pointer x6)]) h48 fun v50 h51 =>
      ∃ x52 : SV, v50 = (Value.slice x52.a x52.len x52.cap) ∧
      (∃ h53, Gh h51 h53 ∧ R46 (((x52.len : Nat) : Int) == (0 : Int)) h53)) (
      (∃ h54, Gh h48 h54 ∧ R46 false h54))) ∧
  ∀ (_ : F) (x55_free : Bool) (h56 : H), R46 x55_free h56 →
  f9_J5 p1_who post x6 x45 x55_free h56

def f9_sem (p0_steps : SV) (p1_who : Int) (h0 : H) (post : Value → H → Prop) : Prop :=
  SemCall Go.Proofs.Try.prog 27 (List.toArray []) h0 fun v1 h2 =>
  ∃ x3 : Bool, v1 = (Value.bool x3) ∧
  VIf (!x3) (
    VRet h2 (Value.bool false) post) (
    SemCall Go.Proofs.Try.prog 28 (List.toArray []) h2 fun v4 h5 =>
    ∃ x6 : Option Addr, v4 = (Value.pointer x6) ∧
    ∃ R7 : H → Prop, (
      ∃ I8 : Nat → Int → H → Prop, (∃ n9, (∃ h11, Gh h5 h11 ∧ I8 n9 (0 : Int) h11)) ∧
      ∀ (n9 : Nat) (_ : F) (x12_i : Int) (h13 : H), I8 n9 x12_i h13 →
      f9_L2 p0_steps x6 R7 I8 n9 x12_i h13) ∧
    ∀ (_ : F) (h42 : H), R7 h42 →
    f9_J6 p1_who post x6 h42)

def f9_hint : Hint := (.node .leaf (.node .leaf (.node .leaf (.node .leaf (.node (.node .leaf (.join [] (.node (.loop [(7, .int)] (.node (.node (.join [(26, .bool)] .leaf) .leaf) (.node (.node (.node .leaf (.node (.node .leaf (.join [] (.node (.tail 8) .leaf))) .leaf)) .leaf) .leaf))) .leaf))) (.node .leaf (.node (.join [(10, .bool)] .leaf) (.node .leaf (.node .leaf (.node (.node (.join [(83, .bool)] .leaf) .leaf) (.node .leaf (.node (.node .leaf (.join [(13, .int)] (.node (.loop [(13, .int), (14, .int)] .leaf) .leaf))) (.node (.join [(4, .bool)] .leaf) .leaf)))))))))))))

theorem f9_eq (p0_steps : SV) (p1_who : Int) (h0 : H) (post : Value → H → Prop) : exec Try.prog (bodyOf Try.f9) f9_hint (retQ Try.prog Try.f9 post) (F0 [(Value.slice p0_steps.a p0_steps.len p0_steps.cap), (Value.int .i64 p1_who)]) h0 = f9_sem p0_steps p1_who h0 post := by kernel_rfl

theorem f9_call (p0_steps : SV) (p1_who : Int) (h0 : H) (post : Value → H → Prop) (hx : f9_sem p0_steps p1_who h0 post) : SemCall Try.prog 9 (List.toArray [(Value.slice p0_steps.a p0_steps.len p0_steps.cap), (Value.int .i64 p1_who)]) h0 post :=
  sem_of_exec (g := f9_hint) mixed Try.func9 (bodyOf_eq (by kernel_rfl)) (by kernel_rfl) ((f9_eq p0_steps p1_who h0 post).mpr hx)

/- latchgarth/latchgarthlaw4.pmemFact -/
def f10_J1 (post : Value → H → Prop) (x3 : Option Addr) (x19 : Bool) (h20 : H) : Prop :=
  VIf x19 (
    VRet h20 (Value.bool false) post) (
    SemCall Go.Proofs.Try.prog 25 (List.toArray [(Value.pointer x3)]) h20 fun v21 h22 =>
    v21 = (Value.tuple (List.toArray [])) ∧
    ∃ R23 : Bool → H → Prop, (
      SemCall Go.Proofs.Try.prog 14 (List.toArray [(Value.pointer x3), (Value.int .i64 (0 : Int))]) h22 fun v24 h25 =>
      ∃ x26 : Option (TypeId × Value), v24 = (errV x26) ∧
      isIfaceV (errV x26) = true ∧
      VIf (isNilV (errV x26)) (
        SemCall Go.Proofs.Try.prog 13 (List.toArray [(Value.pointer x3)]) h25 fun v27 h28 =>
        ∃ x29 : SV, v27 = (Value.slice x29.a x29.len x29.cap) ∧
        H.new h28 [(Value.int .i64 (5 : Int)), (Value.int .i64 (0 : Int))] fun r30 h31 =>
        SemCall Go.Proofs.Try.prog 15 (List.toArray [(Value.slice x29.a x29.len x29.cap), (Value.slice (some (Addr.mk r30 0 none)) 2 2)]) h31 fun v32 h33 =>
        ∃ x34 : Bool, v32 = (Value.bool x34) ∧
        (∃ h35, Gh h33 h35 ∧ R23 x34 h35)) (
        (∃ h36, Gh h25 h36 ∧ R23 false h36))) ∧
    ∀ (_ : F) (x37 : Bool) (h38 : H), R23 x37 h38 →
    VRet h38 (Value.bool x37) post)

def f10_sem (h0 : H) (post : Value → H → Prop) : Prop :=
  SemCall Go.Proofs.Try.prog 11 (List.toArray [(Value.int .i64 (2 : Int))]) h0 fun v1 h2 =>
  ∃ x3 : Option Addr, ∃ x4 : Option (TypeId × Value), v1 = (Value.tuple (List.toArray [(Value.pointer x3), (errV x4)])) ∧
  ∃ R5 : Bool → H → Prop, (
    isIfaceV (errV x4) = true ∧
    VIf (!(isNilV (errV x4))) (
      (∃ h6, Gh h2 h6 ∧ R5 true h6)) (
      SemCall Go.Proofs.Try.prog 23 (List.toArray [(Value.pointer x3), (Value.int .i64 (0 : Int)), (Value.int .i64 (5 : Int))]) h2 fun v7 h8 =>
      ∃ x9 : Option (TypeId × Value), v7 = (errV x9) ∧
      isIfaceV (errV x9) = true ∧
      VIf (!(isNilV (errV x9))) (
        (∃ h10, Gh h8 h10 ∧ R5 true h10)) (
        SemCall Go.Proofs.Try.prog 23 (List.toArray [(Value.pointer x3), (Value.int .i64 (1 : Int)), (Value.int .i64 (6 : Int))]) h8 fun v11 h12 =>
        ∃ x13 : Option (TypeId × Value), v11 = (errV x13) ∧
        isIfaceV (errV x13) = true ∧
        VIf (!(isNilV (errV x13))) (
          (∃ h14, Gh h12 h14 ∧ R5 true h14)) (
          SemCall Go.Proofs.Try.prog 24 (List.toArray [(Value.pointer x3), (Value.int .i64 (0 : Int))]) h12 fun v15 h16 =>
          ∃ x17 : Option (TypeId × Value), v15 = (errV x17) ∧
          isIfaceV (errV x17) = true ∧
          (∃ h18, Gh h16 h18 ∧ R5 (!(isNilV (errV x17))) h18))))) ∧
  ∀ (_ : F) (x19 : Bool) (h20 : H), R5 x19 h20 →
  f10_J1 post x3 x19 h20

def f10_hint : Hint := (.node .leaf (.node .leaf (.node (.node (.join [(23, .bool)] .leaf) .leaf) (.node .leaf (.node (.join [(0, .bool)] .leaf) .leaf)))))

theorem f10_eq (h0 : H) (post : Value → H → Prop) : exec Try.prog (bodyOf Try.f10) f10_hint (retQ Try.prog Try.f10 post) (F0 []) h0 = f10_sem h0 post := by kernel_rfl

theorem f10_call (h0 : H) (post : Value → H → Prop) (hx : f10_sem h0 post) : SemCall Try.prog 10 (List.toArray []) h0 post :=
  sem_of_exec (g := f10_hint) mixed Try.func10 (bodyOf_eq (by kernel_rfl)) (by kernel_rfl) ((f10_eq h0 post).mpr hx)

/- latchgarth/pmem.New -/
def f11_sem (p0_n : Int) (h0 : H) (post : Value → H → Prop) : Prop :=
  SemCall Go.Proofs.Try.prog 34 (List.toArray [(Value.int .i64 p0_n), (Value.int .i64 (1 : Int)), (Value.int .i64 (8 : Int))]) h0 fun v1 h2 =>
  ∃ x3 : Bool, v1 = (Value.bool x3) ∧
  VIf (!x3) (
    VRet h2 (Value.tuple (List.toArray [(Value.pointer none), (Value.iface 56 (Value.int .i64 (1 : Int)))])) post) (
    0 ≤ p0_n ∧ p0_n ≤ p0_n ∧ ((32 : Nat) : Int) * p0_n ≤ 140737488355328 ∧ p0_n ≤ 1000000000 ∧
    H.new h2 (repl (p0_n).toNat [(Value.int .i64 (0 : Int)), (Value.int .i64 (0 : Int)), (Value.int .i64 (0 : Int)), (Value.bool false)]) fun r4 h5 =>
    H.new h5 [(Value.slice (some (Addr.mk r4 0 none)) ((p0_n).toNat) ((p0_n).toNat))] fun r6 h7 =>
    VRet h7 (Value.tuple (List.toArray [(Value.pointer (some (Addr.mk r6 0 none))), Value.nilIface])) post)

def f11_hint : Hint := .leaf

theorem f11_eq (p0_n : Int) (h0 : H) (post : Value → H → Prop) : exec Try.prog (bodyOf Try.f11) f11_hint (retQ Try.prog Try.f11 post) (F0 [(Value.int .i64 p0_n)]) h0 = f11_sem p0_n h0 post := by kernel_rfl

theorem f11_call (p0_n : Int) (h0 : H) (post : Value → H → Prop) (hx : f11_sem p0_n h0 post) : SemCall Try.prog 11 (List.toArray [(Value.int .i64 p0_n)]) h0 post :=
  sem_of_exec (g := f11_hint) mixed Try.func11 (bodyOf_eq (by kernel_rfl)) (by kernel_rfl) ((f11_eq p0_n h0 post).mpr hx)

/- latchgarth/latchgarthlaw4.done -/
def f12_J1 (p0_m : Option Addr) (I2 : Nat → Int → H → Prop) (n3 : Nat) (x6_k : Int) (x14 : SV) (x54 : Bool) (h55 : H) : Prop :=
  ∃ R56 : H → Prop, (
    VIf x54 (
      ∃ b57 : Addr, x14.a = some b57 ∧ 0 ≤ (1 : Int) ∧ (1 : Int) < ((x14.len : Nat) : Int) ∧
      ∃ x58 : Int, H.rd h55 (Addr.add (Addr.add b57 (((1 : Int)).toNat * 1)) 0) (Value.int .i64 x58) ∧
      SemCall Go.Proofs.Try.prog 14 (List.toArray [(Value.pointer p0_m), (Value.int .i64 x58)]) h55 fun v59 h60 =>
      ∃ x61 : Option (TypeId × Value), v59 = (errV x61) ∧
      (∃ h62, Gh h60 h62 ∧ R56 h62)) (
      (∃ h63, Gh h55 h63 ∧ R56 h63))) ∧
  ∀ (_ : F) (h64 : H), R56 h64 →
  VIf (((x14.len : Nat) : Int) == (1 : Int)) (
    SemCall Go.Proofs.Try.prog 25 (List.toArray [(Value.pointer p0_m)]) h64 fun v65 h66 =>
    v65 = (Value.tuple (List.toArray [])) ∧
    In64 (x6_k + (1 : Int)) ∧
    ∃ m4, m4 < n3 ∧ (∃ h67, Gh h66 h67 ∧ I2 m4 (x6_k + (1 : Int)) h67)) (
    In64 (x6_k + (1 : Int)) ∧
    ∃ m4, m4 < n3 ∧ (∃ h68, Gh h64 h68 ∧ I2 m4 (x6_k + (1 : Int)) h68))

def f12_J2 (p0_m : Option Addr) (I2 : Nat → Int → H → Prop) (n3 : Nat) (x6_k : Int) (x14 : SV) (x38 : Bool) (h39 : H) : Prop :=
  ∃ R40 : H → Prop, (
    VIf x38 (
      ∃ b41 : Addr, x14.a = some b41 ∧ 0 ≤ (1 : Int) ∧ (1 : Int) < ((x14.len : Nat) : Int) ∧
      ∃ x42 : Int, H.rd h39 (Addr.add (Addr.add b41 (((1 : Int)).toNat * 1)) 0) (Value.int .i64 x42) ∧
      SemCall Go.Proofs.Try.prog 24 (List.toArray [(Value.pointer p0_m), (Value.int .i64 x42)]) h39 fun v43 h44 =>
      ∃ x45 : Option (TypeId × Value), v43 = (errV x45) ∧
      (∃ h46, Gh h44 h46 ∧ R40 h46)) (
      (∃ h47, Gh h39 h47 ∧ R40 h47))) ∧
  ∀ (_ : F) (h48 : H), R40 h48 →
  ∃ R49 : Bool → H → Prop, (
    VIf (((x14.len : Nat) : Int) == (2 : Int)) (
      ∃ b50 : Addr, x14.a = some b50 ∧ 0 ≤ (0 : Int) ∧ (0 : Int) < ((x14.len : Nat) : Int) ∧
      ∃ x51 : Int, H.rd h48 (Addr.add (Addr.add b50 (((0 : Int)).toNat * 1)) 0) (Value.int .i64 x51) ∧
      (∃ h52, Gh h48 h52 ∧ R49 (x51 == (1 : Int)) h52)) (
      (∃ h53, Gh h48 h53 ∧ R49 false h53))) ∧
  ∀ (_ : F) (x54 : Bool) (h55 : H), R49 x54 h55 →
  f12_J1 p0_m I2 n3 x6_k x14 x54 h55

def f12_J3 (p0_m : Option Addr) (I2 : Nat → Int → H → Prop) (n3 : Nat) (x6_k : Int) (x14 : SV) (x20 : Bool) (h21 : H) : Prop :=
  ∃ R22 : H → Prop, (
    VIf x20 (
      ∃ b23 : Addr, x14.a = some b23 ∧ 0 ≤ (1 : Int) ∧ (1 : Int) < ((x14.len : Nat) : Int) ∧
      ∃ x24 : Int, H.rd h21 (Addr.add (Addr.add b23 (((1 : Int)).toNat * 1)) 0) (Value.int .i64 x24) ∧
      ∃ b25 : Addr, x14.a = some b25 ∧ 0 ≤ (2 : Int) ∧ (2 : Int) < ((x14.len : Nat) : Int) ∧
      ∃ x26 : Int, H.rd h21 (Addr.add (Addr.add b25 (((2 : Int)).toNat * 1)) 0) (Value.int .i64 x26) ∧
      SemCall Go.Proofs.Try.prog 23 (List.toArray [(Value.pointer p0_m), (Value.int .i64 x24), (Value.int .i64 x26)]) h21 fun v27 h28 =>
      ∃ x29 : Option (TypeId × Value), v27 = (errV x29) ∧
      (∃ h30, Gh h28 h30 ∧ R22 h30)) (
      (∃ h31, Gh h21 h31 ∧ R22 h31))) ∧
  ∀ (_ : F) (h32 : H), R22 h32 →
  ∃ R33 : Bool → H → Prop, (
    VIf (((x14.len : Nat) : Int) == (2 : Int)) (
      ∃ b34 : Addr, x14.a = some b34 ∧ 0 ≤ (0 : Int) ∧ (0 : Int) < ((x14.len : Nat) : Int) ∧
      ∃ x35 : Int, H.rd h32 (Addr.add (Addr.add b34 (((0 : Int)).toNat * 1)) 0) (Value.int .i64 x35) ∧
      (∃ h36, Gh h32 h36 ∧ R33 (x35 == (0 : Int)) h36)) (
      (∃ h37, Gh h32 h37 ∧ R33 false h37))) ∧
  ∀ (_ : F) (x38 : Bool) (h39 : H), R33 x38 h39 →
  f12_J2 p0_m I2 n3 x6_k x14 x38 h39

def f12_J4 (p0_m : Option Addr) (p1_steps : SV) (p2_but : Int) (R1 : H → Prop) (I2 : Nat → Int → H → Prop) (n3 : Nat) (x6_k : Int) (x11 : Bool) (h12 : H) : Prop :=
  VIf x11 (
    ∃ b13 : Addr, p1_steps.a = some b13 ∧ 0 ≤ x6_k ∧ x6_k < ((p1_steps.len : Nat) : Int) ∧
    ∃ x14 : SV, H.rd h12 (Addr.add (Addr.add b13 ((x6_k).toNat * 1)) 0) (Value.slice x14.a x14.len x14.cap) ∧
    ∃ R15 : Bool → H → Prop, (
      VIf (((x14.len : Nat) : Int) == (3 : Int)) (
        ∃ b16 : Addr, x14.a = some b16 ∧ 0 ≤ (1 : Int) ∧ (1 : Int) < ((x14.len : Nat) : Int) ∧
        ∃ x17 : Int, H.rd h12 (Addr.add (Addr.add b16 (((1 : Int)).toNat * 1)) 0) (Value.int .i64 x17) ∧
        (∃ h18, Gh h12 h18 ∧ R15 (x17 != p2_but) h18)) (
        (∃ h19, Gh h12 h19 ∧ R15 false h19))) ∧
    ∀ (_ : F) (x20 : Bool) (h21 : H), R15 x20 h21 →
    f12_J3 p0_m I2 n3 x6_k x14 x20 h21) (
    (∃ h69, Gh h12 h69 ∧ R1 h69))

def f12_L5 (p0_m : Option Addr) (p1_steps : SV) (p2_but : Int) (R1 : H → Prop) (I2 : Nat → Int → H → Prop) (n3 : Nat) (x6_k : Int) (h7 : H) : Prop :=
  ∃ R8 : Bool → H → Prop, (
    VIf (decide (x6_k < ((p1_steps.len : Nat) : Int))) (
      (∃ h9, Gh h7 h9 ∧ R8 (decide (x6_k < (60 : Int))) h9)) (
      (∃ h10, Gh h7 h10 ∧ R8 false h10))) ∧
  ∀ (_ : F) (x11 : Bool) (h12 : H), R8 x11 h12 →
  f12_J4 p0_m p1_steps p2_but R1 I2 n3 x6_k x11 h12

def f12_sem (p0_m : Option Addr) (p1_steps : SV) (p2_but : Int) (h0 : H) (post : Value → H → Prop) : Prop :=
  ∃ R1 : H → Prop, (
    ∃ I2 : Nat → Int → H → Prop, (∃ n3, (∃ h5, Gh h0 h5 ∧ I2 n3 (0 : Int) h5)) ∧
    ∀ (n3 : Nat) (_ : F) (x6_k : Int) (h7 : H), I2 n3 x6_k h7 →
    f12_L5 p0_m p1_steps p2_but R1 I2 n3 x6_k h7) ∧
  ∀ (_ : F) (h70 : H), R1 h70 →
  VRet h70 (Value.tuple (List.toArray [])) post

def f12_hint : Hint := (.node .leaf (.join [] (.node (.loop [(6, .int)] (.node (.node (.join [(15, .bool)] .leaf) .leaf) (.node (.node (.node .leaf (.node (.node (.join [(31, .bool)] .leaf) (.join [] (.node (.tail 7) .leaf))) (.node (.node (.join [(48, .bool)] .leaf) (.join [] .leaf)) (.node (.node (.join [(62, .bool)] .leaf) (.join [] .leaf)) .leaf)))) .leaf) .leaf))) .leaf)))

theorem f12_eq (p0_m : Option Addr) (p1_steps : SV) (p2_but : Int) (h0 : H) (post : Value → H → Prop) : exec Try.prog (bodyOf Try.f12) f12_hint (retQ Try.prog Try.f12 post) (F0 [(Value.pointer p0_m), (Value.slice p1_steps.a p1_steps.len p1_steps.cap), (Value.int .i64 p2_but)]) h0 = f12_sem p0_m p1_steps p2_but h0 post := by kernel_rfl

theorem f12_call (p0_m : Option Addr) (p1_steps : SV) (p2_but : Int) (h0 : H) (post : Value → H → Prop) (hx : f12_sem p0_m p1_steps p2_but h0 post) : SemCall Try.prog 12 (List.toArray [(Value.pointer p0_m), (Value.slice p1_steps.a p1_steps.len p1_steps.cap), (Value.int .i64 p2_but)]) h0 post :=
  sem_of_exec (g := f12_hint) mixed Try.func12 (bodyOf_eq (by kernel_rfl)) (by kernel_rfl) ((f12_eq p0_m p1_steps p2_but h0 post).mpr hx)

/- (*latchgarth/pmem.Mem).Crash -/
def f14_L1 (p0_m : Option Addr) (p1_keep : Int) (x7 : SV) (R8 : H → Prop) (I9 : Nat → Int → H → Prop) (n10 : Nat) (x13 : Int) (h14 : H) : Prop :=
  VIf (decide (x13 < ((x7.len : Nat) : Int))) (
    ∃ a15 : Addr, p0_m = some a15 ∧
    ∃ x16 : SV, H.rd h14 (Addr.add (Addr.add a15 0) 0) (Value.slice x16.a x16.len x16.cap) ∧
    ∃ b17 : Addr, x16.a = some b17 ∧ 0 ≤ x13 ∧ x13 < ((x16.len : Nat) : Int) ∧
    SemCall Go.Proofs.Try.prog 38 (List.toArray [(Value.int .i64 p1_keep), (Value.int .i64 x13)]) h14 fun v18 h19 =>
    ∃ x20 : Bool, v18 = (Value.bool x20) ∧
    ∃ R21 : H → Prop, (
      VIf x20 (
        ∃ a22 : Addr, (some (Addr.add b17 ((x13).toNat * 4))) = some a22 ∧
        ∃ x23 : Int, H.rd h19 (Addr.add (Addr.add a22 0) 0) (Value.int .i64 x23) ∧
        ∃ a24 : Addr, (some (Addr.add b17 ((x13).toNat * 4))) = some a24 ∧
        H.wr h19 (Addr.add a24 1) ([(Value.int .i64 x23)]) fun h25 =>
        (∃ h26, Gh h25 h26 ∧ R21 h26)) (
        (∃ h27, Gh h19 h27 ∧ R21 h27))) ∧
    ∀ (_ : F) (h28 : H), R21 h28 →
    ∃ a29 : Addr, (some (Addr.add b17 ((x13).toNat * 4))) = some a29 ∧
    ∃ x30 : Int, H.rd h28 (Addr.add (Addr.add a29 1) 0) (Value.int .i64 x30) ∧
    ∃ a31 : Addr, (some (Addr.add b17 ((x13).toNat * 4))) = some a31 ∧
    ∃ x32 : Int, H.rd h28 (Addr.add (Addr.add a31 1) 0) (Value.int .i64 x32) ∧
    ∃ a33 : Addr, (some (Addr.add b17 ((x13).toNat * 4))) = some a33 ∧
    ([(Value.int .i64 x30), (Value.int .i64 x32), (Value.int .i64 (0 : Int)), (Value.bool false)]).length = 4 ∧ (Program.underlying Go.Proofs.Try.prog 63).isSome = true ∧
    H.wr h28 a33 ([(Value.int .i64 x30), (Value.int .i64 x32), (Value.int .i64 (0 : Int)), (Value.bool false)]) fun h34 =>
    In64 (x13 + (1 : Int)) ∧
    ∃ m11, m11 < n10 ∧ (∃ h35, Gh h34 h35 ∧ I9 m11 (x13 + (1 : Int)) h35)) (
    (∃ h36, Gh h14 h36 ∧ R8 h36))

def f14_sem (p0_m : Option Addr) (p1_keep : Int) (h0 : H) (post : Value → H → Prop) : Prop :=
  ∃ a1 : Addr, p0_m = some a1 ∧
  ∃ x2 : SV, H.rd h0 (Addr.add (Addr.add a1 0) 0) (Value.slice x2.a x2.len x2.cap) ∧
  SemCall Go.Proofs.Try.prog 37 (List.toArray [(Value.int .i64 p1_keep), (Value.int .i64 ((x2.len : Nat) : Int))]) h0 fun v3 h4 =>
  ∃ x5 : Bool, v3 = (Value.bool x5) ∧
  VIf (!x5) (
    VRet h4 (Value.iface 56 (Value.int .i64 (1 : Int))) post) (
    ∃ a6 : Addr, p0_m = some a6 ∧
    ∃ x7 : SV, H.rd h4 (Addr.add (Addr.add a6 0) 0) (Value.slice x7.a x7.len x7.cap) ∧
    ∃ R8 : H → Prop, (
      ∃ I9 : Nat → Int → H → Prop, (∃ n10, (∃ h12, Gh h4 h12 ∧ I9 n10 (0 : Int) h12)) ∧
      ∀ (n10 : Nat) (_ : F) (x13 : Int) (h14 : H), I9 n10 x13 h14 →
      f14_L1 p0_m p1_keep x7 R8 I9 n10 x13 h14) ∧
    ∀ (_ : F) (h37 : H), R8 h37 →
    VRet h37 Value.nilIface post)

def f14_hint : Hint := (.node .leaf (.node .leaf (.node (.node .leaf (.join [] (.node (.loop [(21, .int)] (.node .leaf (.node .leaf (.node (.node (.node .leaf (.node .leaf (.node (.node .leaf (.join [] .leaf)) (.tail 11)))) .leaf) .leaf)))) .leaf))) .leaf)))

theorem f14_eq (p0_m : Option Addr) (p1_keep : Int) (h0 : H) (post : Value → H → Prop) : exec Try.prog (bodyOf Try.f14) f14_hint (retQ Try.prog Try.f14 post) (F0 [(Value.pointer p0_m), (Value.int .i64 p1_keep)]) h0 = f14_sem p0_m p1_keep h0 post := by kernel_rfl

theorem f14_call (p0_m : Option Addr) (p1_keep : Int) (h0 : H) (post : Value → H → Prop) (hx : f14_sem p0_m p1_keep h0 post) : SemCall Try.prog 14 (List.toArray [(Value.pointer p0_m), (Value.int .i64 p1_keep)]) h0 post :=
  sem_of_exec (g := f14_hint) mixed Try.func14 (bodyOf_eq (by kernel_rfl)) (by kernel_rfl) ((f14_eq p0_m p1_keep h0 post).mpr hx)

/- latchgarth/latchgarthsame.Ints -/
def f15_L1 (p0_a : SV) (p1_b : SV) (post : Value → H → Prop) (R1 : H → Prop) (I2 : Nat → Int → H → Prop) (n3 : Nat) (x6_i : Int) (h7 : H) : Prop :=
  VIf (decide (x6_i < ((p0_a.len : Nat) : Int))) (
    ∃ b8 : Addr, p0_a.a = some b8 ∧ 0 ≤ x6_i ∧ x6_i < ((p0_a.len : Nat) : Int) ∧
    ∃ x9 : Int, H.rd h7 (Addr.add (Addr.add b8 ((x6_i).toNat * 1)) 0) (Value.int .i64 x9) ∧
    ∃ b10 : Addr, p1_b.a = some b10 ∧ 0 ≤ x6_i ∧ x6_i < ((p1_b.len : Nat) : Int) ∧
    ∃ x11 : Int, H.rd h7 (Addr.add (Addr.add b10 ((x6_i).toNat * 1)) 0) (Value.int .i64 x11) ∧
    VIf (x9 != x11) (
      VRet h7 (Value.bool false) post) (
      In64 (x6_i + (1 : Int)) ∧
      ∃ m4, m4 < n3 ∧ (∃ h12, Gh h7 h12 ∧ I2 m4 (x6_i + (1 : Int)) h12))) (
    (∃ h13, Gh h7 h13 ∧ R1 h13))

def f15_sem (p0_a : SV) (p1_b : SV) (h0 : H) (post : Value → H → Prop) : Prop :=
  VIf (((p0_a.len : Nat) : Int) != ((p1_b.len : Nat) : Int)) (
    VRet h0 (Value.bool false) post) (
    ∃ R1 : H → Prop, (
      ∃ I2 : Nat → Int → H → Prop, (∃ n3, (∃ h5, Gh h0 h5 ∧ I2 n3 (0 : Int) h5)) ∧
      ∀ (n3 : Nat) (_ : F) (x6_i : Int) (h7 : H), I2 n3 x6_i h7 →
      f15_L1 p0_a p1_b post R1 I2 n3 x6_i h7) ∧
    ∀ (_ : F) (h14 : H), R1 h14 →
    VRet h14 (Value.bool true) post)

def f15_hint : Hint := (.node .leaf (.node .leaf (.node (.node .leaf (.join [] (.node (.loop [(5, .int)] .leaf) .leaf))) .leaf)))

theorem f15_eq (p0_a : SV) (p1_b : SV) (h0 : H) (post : Value → H → Prop) : exec Try.prog (bodyOf Try.f15) f15_hint (retQ Try.prog Try.f15 post) (F0 [(Value.slice p0_a.a p0_a.len p0_a.cap), (Value.slice p1_b.a p1_b.len p1_b.cap)]) h0 = f15_sem p0_a p1_b h0 post := by kernel_rfl

theorem f15_call (p0_a : SV) (p1_b : SV) (h0 : H) (post : Value → H → Prop) (hx : f15_sem p0_a p1_b h0 post) : SemCall Try.prog 15 (List.toArray [(Value.slice p0_a.a p0_a.len p0_a.cap), (Value.slice p1_b.a p1_b.len p1_b.cap)]) h0 post :=
  sem_of_exec (g := f15_hint) mixed Try.func15 (bodyOf_eq (by kernel_rfl)) (by kernel_rfl) ((f15_eq p0_a p1_b h0 post).mpr hx)

/- latchgarth/latchgarthlaw4.semFact -/
def f16_sem (h0 : H) (post : Value → H → Prop) : Prop :=
  SemCall Go.Proofs.Try.prog 17 (List.toArray [(Value.int .i64 (1 : Int))]) h0 fun v1 h2 =>
  ∃ x3 : Option Addr, ∃ x4 : Option (TypeId × Value), v1 = (Value.tuple (List.toArray [(Value.pointer x3), (errV x4)])) ∧
  isIfaceV (errV x4) = true ∧
  VIf (!(isNilV (errV x4))) (
    VRet h2 (Value.bool false) post) (
    SemCall Go.Proofs.Try.prog 21 (List.toArray [(Value.pointer x3), (Value.int .i64 (3 : Int))]) h2 fun v5 h6 =>
    ∃ x7 : Bool, ∃ x8 : Option (TypeId × Value), v5 = (Value.tuple (List.toArray [(Value.bool x7), (errV x8)])) ∧
    SemCall Go.Proofs.Try.prog 21 (List.toArray [(Value.pointer x3), (Value.int .i64 (4 : Int))]) h6 fun v9 h10 =>
    ∃ x11 : Bool, ∃ x12 : Option (TypeId × Value), v9 = (Value.tuple (List.toArray [(Value.bool x11), (errV x12)])) ∧
    SemCall Go.Proofs.Try.prog 20 (List.toArray [(Value.pointer x3)]) h10 fun v13 h14 =>
    ∃ x15 : Int, ∃ x16 : Option (TypeId × Value), v13 = (Value.tuple (List.toArray [(Value.int .i64 x15), (errV x16)])) ∧
    ∃ R17 : Bool → H → Prop, (
      isIfaceV (errV x8) = true ∧
      VIf (isNilV (errV x8)) (
        isIfaceV (errV x12) = true ∧
        VIf (isNilV (errV x12)) (
          isIfaceV (errV x16) = true ∧
          VIf (isNilV (errV x16)) (
            VIf x7 (
              VIf (!x11) (
                VIf (x15 == (4 : Int)) (
                SemCall Go.Proofs.Try.prog 22 (List.toArray [(Value.pointer x3)]) h14 fun v18 h19 =>
                ∃ x20 : Int, v18 = (Value.int .i64 x20) ∧
                (∃ h21, Gh h19 h21 ∧ R17 (x20 == (0 : Int)) h21)) (
                (∃ h22, Gh h14 h22 ∧ R17 false h22))) (
                (∃ h23, Gh h14 h23 ∧ R17 false h23))) (
              (∃ h24, Gh h14 h24 ∧ R17 false h24))) (
            (∃ h25, Gh h14 h25 ∧ R17 false h25))) (
          (∃ h26, Gh h14 h26 ∧ R17 false h26))) (
        (∃ h27, Gh h14 h27 ∧ R17 false h27))) ∧
    ∀ (_ : F) (x28 : Bool) (h29 : H), R17 x28 h29 →
    VRet h29 (Value.bool x28) post)

def f16_hint : Hint := (.node .leaf (.node .leaf (.node .leaf (.node .leaf (.node .leaf (.node .leaf (.node (.join [(0, .bool)] .leaf) .leaf)))))))

theorem f16_eq (h0 : H) (post : Value → H → Prop) : exec Try.prog (bodyOf Try.f16) f16_hint (retQ Try.prog Try.f16 post) (F0 []) h0 = f16_sem h0 post := by kernel_rfl

theorem f16_call (h0 : H) (post : Value → H → Prop) (hx : f16_sem h0 post) : SemCall Try.prog 16 (List.toArray []) h0 post :=
  sem_of_exec (g := f16_hint) mixed Try.func16 (bodyOf_eq (by kernel_rfl)) (by kernel_rfl) ((f16_eq h0 post).mpr hx)

/- latchgarth/sem.New -/
def f17_sem (p0_count : Int) (h0 : H) (post : Value → H → Prop) : Prop :=
  SemCall Go.Proofs.Try.prog 34 (List.toArray [(Value.int .i64 p0_count), (Value.int .i64 (0 : Int)), (Value.int .i64 (1000 : Int))]) h0 fun v1 h2 =>
  ∃ x3 : Bool, v1 = (Value.bool x3) ∧
  VIf (!x3) (
    VRet h2 (Value.tuple (List.toArray [(Value.pointer none), (Value.iface 56 (Value.int .i64 (1 : Int)))])) post) (
    H.new h2 [(Value.int .i64 p0_count), (Value.slice none 0 0)] fun r4 h5 =>
    VRet h5 (Value.tuple (List.toArray [(Value.pointer (some (Addr.mk r4 0 none))), Value.nilIface])) post)

def f17_hint : Hint := .leaf

theorem f17_eq (p0_count : Int) (h0 : H) (post : Value → H → Prop) : exec Try.prog (bodyOf Try.f17) f17_hint (retQ Try.prog Try.f17 post) (F0 [(Value.int .i64 p0_count)]) h0 = f17_sem p0_count h0 post := by kernel_rfl

theorem f17_call (p0_count : Int) (h0 : H) (post : Value → H → Prop) (hx : f17_sem p0_count h0 post) : SemCall Try.prog 17 (List.toArray [(Value.int .i64 p0_count)]) h0 post :=
  sem_of_exec (g := f17_hint) mixed Try.func17 (bodyOf_eq (by kernel_rfl)) (by kernel_rfl) ((f17_eq p0_count h0 post).mpr hx)

/- latchgarth/latchgarthlaw4.in -/
def f18_sem (p0_n : Int) (p1_low : Int) (p2_high : Int) (h0 : H) (post : Value → H → Prop) : Prop :=
  ∃ R1 : Bool → H → Prop, (
    VIf (decide (p0_n ≥ p1_low)) (
      (∃ h2, Gh h0 h2 ∧ R1 (decide (p0_n ≤ p2_high)) h2)) (
      (∃ h3, Gh h0 h3 ∧ R1 false h3))) ∧
  ∀ (_ : F) (x4 : Bool) (h5 : H), R1 x4 h5 →
  VRet h5 (Value.bool x4) post

def f18_hint : Hint := (.node .leaf (.node (.join [(6, .bool)] .leaf) .leaf))

theorem f18_eq (p0_n : Int) (p1_low : Int) (p2_high : Int) (h0 : H) (post : Value → H → Prop) : exec Try.prog (bodyOf Try.f18) f18_hint (retQ Try.prog Try.f18 post) (F0 [(Value.int .i64 p0_n), (Value.int .i64 p1_low), (Value.int .i64 p2_high)]) h0 = f18_sem p0_n p1_low p2_high h0 post := by kernel_rfl

theorem f18_call (p0_n : Int) (p1_low : Int) (p2_high : Int) (h0 : H) (post : Value → H → Prop) (hx : f18_sem p0_n p1_low p2_high h0 post) : SemCall Try.prog 18 (List.toArray [(Value.int .i64 p0_n), (Value.int .i64 p1_low), (Value.int .i64 p2_high)]) h0 post :=
  sem_of_exec (g := f18_hint) mixed Try.func18 (bodyOf_eq (by kernel_rfl)) (by kernel_rfl) ((f18_eq p0_n p1_low p2_high h0 post).mpr hx)

/- (*latchgarth/sem.Sem).Waits -/
def f19_sem (p0_s : Option Addr) (h0 : H) (post : Value → H → Prop) : Prop :=
  ∃ a1 : Addr, p0_s = some a1 ∧
  ∃ x2 : SV, H.rd h0 (Addr.add (Addr.add a1 1) 0) (Value.slice x2.a x2.len x2.cap) ∧
  SemCall Go.Proofs.Try.prog 39 (List.toArray [(Value.slice x2.a x2.len x2.cap)]) h0 fun v3 h4 =>
  ∃ x5 : SV, v3 = (Value.slice x5.a x5.len x5.cap) ∧
  VRet h4 (Value.slice x5.a x5.len x5.cap) post

def f19_hint : Hint := .leaf

theorem f19_eq (p0_s : Option Addr) (h0 : H) (post : Value → H → Prop) : exec Try.prog (bodyOf Try.f19) f19_hint (retQ Try.prog Try.f19 post) (F0 [(Value.pointer p0_s)]) h0 = f19_sem p0_s h0 post := by kernel_rfl

theorem f19_call (p0_s : Option Addr) (h0 : H) (post : Value → H → Prop) (hx : f19_sem p0_s h0 post) : SemCall Try.prog 19 (List.toArray [(Value.pointer p0_s)]) h0 post :=
  sem_of_exec (g := f19_hint) mixed Try.func19 (bodyOf_eq (by kernel_rfl)) (by kernel_rfl) ((f19_eq p0_s h0 post).mpr hx)

/- (*latchgarth/sem.Sem).Give -/
def f20_sem (p0_s : Option Addr) (h0 : H) (post : Value → H → Prop) : Prop :=
  ∃ a1 : Addr, p0_s = some a1 ∧
  ∃ x2 : SV, H.rd h0 (Addr.add (Addr.add a1 1) 0) (Value.slice x2.a x2.len x2.cap) ∧
  VIf (decide (((x2.len : Nat) : Int) > (0 : Int))) (
    ∃ a3 : Addr, p0_s = some a3 ∧
    ∃ x4 : SV, H.rd h0 (Addr.add (Addr.add a3 1) 0) (Value.slice x4.a x4.len x4.cap) ∧
    ∃ b5 : Addr, x4.a = some b5 ∧ 0 ≤ (0 : Int) ∧ (0 : Int) < ((x4.len : Nat) : Int) ∧
    ∃ x6 : Int, H.rd h0 (Addr.add (Addr.add b5 (((0 : Int)).toNat * 1)) 0) (Value.int .i64 x6) ∧
    ∃ a7 : Addr, p0_s = some a7 ∧
    ∃ x8 : SV, H.rd h0 (Addr.add (Addr.add a7 1) 0) (Value.slice x8.a x8.len x8.cap) ∧
    SemCall Go.Proofs.Try.prog 40 (List.toArray [(Value.slice x8.a x8.len x8.cap), (Value.int .i64 (0 : Int)), (Value.int .i64 (1 : Int))]) h0 fun v9 h10 =>
    ∃ x11 : SV, v9 = (Value.slice x11.a x11.len x11.cap) ∧
    ∃ a12 : Addr, p0_s = some a12 ∧
    H.wr h10 (Addr.add a12 1) ([(Value.slice x11.a x11.len x11.cap)]) fun h13 =>
    VRet h13 (Value.tuple (List.toArray [(Value.int .i64 x6), Value.nilIface])) post) (
    ∃ a14 : Addr, p0_s = some a14 ∧
    ∃ x15 : Int, H.rd h0 (Addr.add (Addr.add a14 0) 0) (Value.int .i64 x15) ∧
    VIf (x15 == (1000 : Int)) (
      VRet h0 (Value.tuple (List.toArray [(Value.int .i64 (0 : Int)), (Value.iface 56 (Value.int .i64 (4 : Int)))])) post) (
      ∃ a16 : Addr, p0_s = some a16 ∧
      ∃ x17 : Int, H.rd h0 (Addr.add (Addr.add a16 0) 0) (Value.int .i64 x17) ∧
      In64 (x17 + (1 : Int)) ∧
      ∃ a18 : Addr, p0_s = some a18 ∧
      H.wr h0 (Addr.add a18 0) ([(Value.int .i64 (x17 + (1 : Int)))]) fun h19 =>
      VRet h19 (Value.tuple (List.toArray [(Value.int .i64 (-1 : Int)), Value.nilIface])) post))

def f20_hint : Hint := .leaf

theorem f20_eq (p0_s : Option Addr) (h0 : H) (post : Value → H → Prop) : exec Try.prog (bodyOf Try.f20) f20_hint (retQ Try.prog Try.f20 post) (F0 [(Value.pointer p0_s)]) h0 = f20_sem p0_s h0 post := by kernel_rfl

theorem f20_call (p0_s : Option Addr) (h0 : H) (post : Value → H → Prop) (hx : f20_sem p0_s h0 post) : SemCall Try.prog 20 (List.toArray [(Value.pointer p0_s)]) h0 post :=
  sem_of_exec (g := f20_hint) mixed Try.func20 (bodyOf_eq (by kernel_rfl)) (by kernel_rfl) ((f20_eq p0_s h0 post).mpr hx)

/- (*latchgarth/sem.Sem).Take -/
def f21_sem (p0_s : Option Addr) (p1_who : Int) (h0 : H) (post : Value → H → Prop) : Prop :=
  SemCall Go.Proofs.Try.prog 34 (List.toArray [(Value.int .i64 p1_who), (Value.int .i64 (0 : Int)), (Value.int .i64 (7 : Int))]) h0 fun v1 h2 =>
  ∃ x3 : Bool, v1 = (Value.bool x3) ∧
  VIf (!x3) (
    VRet h2 (Value.tuple (List.toArray [(Value.bool false), (Value.iface 56 (Value.int .i64 (1 : Int)))])) post) (
    ∃ a4 : Addr, p0_s = some a4 ∧
    ∃ x5 : SV, H.rd h2 (Addr.add (Addr.add a4 1) 0) (Value.slice x5.a x5.len x5.cap) ∧
    SemCall Go.Proofs.Try.prog 41 (List.toArray [(Value.slice x5.a x5.len x5.cap), (Value.int .i64 p1_who)]) h2 fun v6 h7 =>
    ∃ x8 : Bool, v6 = (Value.bool x8) ∧
    VIf x8 (
      VRet h7 (Value.tuple (List.toArray [(Value.bool false), (Value.iface 56 (Value.int .i64 (7 : Int)))])) post) (
      ∃ a9 : Addr, p0_s = some a9 ∧
      ∃ x10 : Int, H.rd h7 (Addr.add (Addr.add a9 0) 0) (Value.int .i64 x10) ∧
      VIf (decide (x10 > (0 : Int))) (
        ∃ a11 : Addr, p0_s = some a11 ∧
        ∃ x12 : Int, H.rd h7 (Addr.add (Addr.add a11 0) 0) (Value.int .i64 x12) ∧
        In64 (x12 - (1 : Int)) ∧
        ∃ a13 : Addr, p0_s = some a13 ∧
        H.wr h7 (Addr.add a13 0) ([(Value.int .i64 (x12 - (1 : Int)))]) fun h14 =>
        VRet h14 (Value.tuple (List.toArray [(Value.bool true), Value.nilIface])) post) (
        ∃ a15 : Addr, p0_s = some a15 ∧
        ∃ x16 : SV, H.rd h7 (Addr.add (Addr.add a15 1) 0) (Value.slice x16.a x16.len x16.cap) ∧
        H.new h7 [(Value.int .i64 p1_who)] fun r17 h18 =>
        appVC Go.Proofs.Try.prog 30 (Value.slice x16.a x16.len x16.cap) (Value.slice (some (Addr.mk r17 0 none)) 1 1) h18 fun x19 h20 =>
        ∃ a21 : Addr, p0_s = some a21 ∧
        H.wr h20 (Addr.add a21 1) ([(Value.slice x19.a x19.len x19.cap)]) fun h22 =>
        VRet h22 (Value.tuple (List.toArray [(Value.bool false), Value.nilIface])) post)))

def f21_hint : Hint := .leaf

theorem f21_eq (p0_s : Option Addr) (p1_who : Int) (h0 : H) (post : Value → H → Prop) : exec Try.prog (bodyOf Try.f21) f21_hint (retQ Try.prog Try.f21 post) (F0 [(Value.pointer p0_s), (Value.int .i64 p1_who)]) h0 = f21_sem p0_s p1_who h0 post := by kernel_rfl

theorem f21_call (p0_s : Option Addr) (p1_who : Int) (h0 : H) (post : Value → H → Prop) (hx : f21_sem p0_s p1_who h0 post) : SemCall Try.prog 21 (List.toArray [(Value.pointer p0_s), (Value.int .i64 p1_who)]) h0 post :=
  sem_of_exec (g := f21_hint) mixed Try.func21 (bodyOf_eq (by kernel_rfl)) (by kernel_rfl) ((f21_eq p0_s p1_who h0 post).mpr hx)

/- (*latchgarth/sem.Sem).Count -/
def f22_sem (p0_s : Option Addr) (h0 : H) (post : Value → H → Prop) : Prop :=
  ∃ a1 : Addr, p0_s = some a1 ∧
  ∃ x2 : Int, H.rd h0 (Addr.add (Addr.add a1 0) 0) (Value.int .i64 x2) ∧
  VRet h0 (Value.int .i64 x2) post

def f22_hint : Hint := .leaf

theorem f22_eq (p0_s : Option Addr) (h0 : H) (post : Value → H → Prop) : exec Try.prog (bodyOf Try.f22) f22_hint (retQ Try.prog Try.f22 post) (F0 [(Value.pointer p0_s)]) h0 = f22_sem p0_s h0 post := by kernel_rfl

theorem f22_call (p0_s : Option Addr) (h0 : H) (post : Value → H → Prop) (hx : f22_sem p0_s h0 post) : SemCall Try.prog 22 (List.toArray [(Value.pointer p0_s)]) h0 post :=
  sem_of_exec (g := f22_hint) mixed Try.func22 (bodyOf_eq (by kernel_rfl)) (by kernel_rfl) ((f22_eq p0_s h0 post).mpr hx)

/- (*latchgarth/pmem.Mem).Write -/
def f23_sem (p0_m : Option Addr) (p1_i : Int) (p2_value : Int) (h0 : H) (post : Value → H → Prop) : Prop :=
  ∃ R1 : Bool → H → Prop, (
    SemCall Go.Proofs.Try.prog 42 (List.toArray [(Value.pointer p0_m), (Value.int .i64 p1_i)]) h0 fun v2 h3 =>
    ∃ x4 : Bool, v2 = (Value.bool x4) ∧
    VIf (!x4) (
      (∃ h5, Gh h3 h5 ∧ R1 true h5)) (
      SemCall Go.Proofs.Try.prog 34 (List.toArray [(Value.int .i64 p2_value), (Value.int .i64 (0 : Int)), (Value.int .i64 (1000 : Int))]) h3 fun v6 h7 =>
      ∃ x8 : Bool, v6 = (Value.bool x8) ∧
      (∃ h9, Gh h7 h9 ∧ R1 (!x8) h9))) ∧
  ∀ (_ : F) (x10 : Bool) (h11 : H), R1 x10 h11 →
  VIf x10 (
    VRet h11 (Value.iface 56 (Value.int .i64 (1 : Int))) post) (
    ∃ a12 : Addr, p0_m = some a12 ∧
    ∃ x13 : SV, H.rd h11 (Addr.add (Addr.add a12 0) 0) (Value.slice x13.a x13.len x13.cap) ∧
    ∃ b14 : Addr, x13.a = some b14 ∧ 0 ≤ p1_i ∧ p1_i < ((x13.len : Nat) : Int) ∧
    H.wr h11 (Addr.add (Addr.add b14 ((p1_i).toNat * 4)) 0) ([(Value.int .i64 p2_value)]) fun h15 =>
    VRet h15 Value.nilIface post)

def f23_hint : Hint := (.node .leaf (.node (.node (.join [(15, .bool)] .leaf) .leaf) .leaf))

theorem f23_eq (p0_m : Option Addr) (p1_i : Int) (p2_value : Int) (h0 : H) (post : Value → H → Prop) : exec Try.prog (bodyOf Try.f23) f23_hint (retQ Try.prog Try.f23 post) (F0 [(Value.pointer p0_m), (Value.int .i64 p1_i), (Value.int .i64 p2_value)]) h0 = f23_sem p0_m p1_i p2_value h0 post := by kernel_rfl

theorem f23_call (p0_m : Option Addr) (p1_i : Int) (p2_value : Int) (h0 : H) (post : Value → H → Prop) (hx : f23_sem p0_m p1_i p2_value h0 post) : SemCall Try.prog 23 (List.toArray [(Value.pointer p0_m), (Value.int .i64 p1_i), (Value.int .i64 p2_value)]) h0 post :=
  sem_of_exec (g := f23_hint) mixed Try.func23 (bodyOf_eq (by kernel_rfl)) (by kernel_rfl) ((f23_eq p0_m p1_i p2_value h0 post).mpr hx)

/- (*latchgarth/pmem.Mem).Flush -/
def f24_sem (p0_m : Option Addr) (p1_i : Int) (h0 : H) (post : Value → H → Prop) : Prop :=
  SemCall Go.Proofs.Try.prog 42 (List.toArray [(Value.pointer p0_m), (Value.int .i64 p1_i)]) h0 fun v1 h2 =>
  ∃ x3 : Bool, v1 = (Value.bool x3) ∧
  VIf (!x3) (
    VRet h2 (Value.iface 56 (Value.int .i64 (1 : Int))) post) (
    ∃ a4 : Addr, p0_m = some a4 ∧
    ∃ x5 : SV, H.rd h2 (Addr.add (Addr.add a4 0) 0) (Value.slice x5.a x5.len x5.cap) ∧
    ∃ b6 : Addr, x5.a = some b6 ∧ 0 ≤ p1_i ∧ p1_i < ((x5.len : Nat) : Int) ∧
    ∃ a7 : Addr, (some (Addr.add b6 ((p1_i).toNat * 4))) = some a7 ∧
    ∃ x8 : Int, H.rd h2 (Addr.add (Addr.add a7 0) 0) (Value.int .i64 x8) ∧
    ∃ a9 : Addr, (some (Addr.add b6 ((p1_i).toNat * 4))) = some a9 ∧
    H.wr h2 (Addr.add a9 2) ([(Value.int .i64 x8)]) fun h10 =>
    ∃ a11 : Addr, (some (Addr.add b6 ((p1_i).toNat * 4))) = some a11 ∧
    H.wr h10 (Addr.add a11 3) ([(Value.bool true)]) fun h12 =>
    VRet h12 Value.nilIface post)

def f24_hint : Hint := .leaf

theorem f24_eq (p0_m : Option Addr) (p1_i : Int) (h0 : H) (post : Value → H → Prop) : exec Try.prog (bodyOf Try.f24) f24_hint (retQ Try.prog Try.f24 post) (F0 [(Value.pointer p0_m), (Value.int .i64 p1_i)]) h0 = f24_sem p0_m p1_i h0 post := by kernel_rfl

theorem f24_call (p0_m : Option Addr) (p1_i : Int) (h0 : H) (post : Value → H → Prop) (hx : f24_sem p0_m p1_i h0 post) : SemCall Try.prog 24 (List.toArray [(Value.pointer p0_m), (Value.int .i64 p1_i)]) h0 post :=
  sem_of_exec (g := f24_hint) mixed Try.func24 (bodyOf_eq (by kernel_rfl)) (by kernel_rfl) ((f24_eq p0_m p1_i h0 post).mpr hx)

/- (*latchgarth/pmem.Mem).Fence -/
def f25_L1 (p0_m : Option Addr) (x2 : SV) (R3 : H → Prop) (I4 : Nat → Int → H → Prop) (n5 : Nat) (x8 : Int) (h9 : H) : Prop :=
  VIf (decide (x8 < ((x2.len : Nat) : Int))) (
    ∃ a10 : Addr, p0_m = some a10 ∧
    ∃ x11 : SV, H.rd h9 (Addr.add (Addr.add a10 0) 0) (Value.slice x11.a x11.len x11.cap) ∧
    ∃ b12 : Addr, x11.a = some b12 ∧ 0 ≤ x8 ∧ x8 < ((x11.len : Nat) : Int) ∧
    ∃ a13 : Addr, (some (Addr.add b12 ((x8).toNat * 4))) = some a13 ∧
    ∃ x14 : Bool, H.rd h9 (Addr.add (Addr.add a13 3) 0) (Value.bool x14) ∧
    VIf x14 (
      ∃ a15 : Addr, (some (Addr.add b12 ((x8).toNat * 4))) = some a15 ∧
      ∃ x16 : Int, H.rd h9 (Addr.add (Addr.add a15 2) 0) (Value.int .i64 x16) ∧
      ∃ a17 : Addr, (some (Addr.add b12 ((x8).toNat * 4))) = some a17 ∧
      H.wr h9 (Addr.add a17 1) ([(Value.int .i64 x16)]) fun h18 =>
      ∃ a19 : Addr, (some (Addr.add b12 ((x8).toNat * 4))) = some a19 ∧
      H.wr h18 (Addr.add a19 3) ([(Value.bool false)]) fun h20 =>
      In64 (x8 + (1 : Int)) ∧
      ∃ m6, m6 < n5 ∧ (∃ h21, Gh h20 h21 ∧ I4 m6 (x8 + (1 : Int)) h21)) (
      In64 (x8 + (1 : Int)) ∧
      ∃ m6, m6 < n5 ∧ (∃ h22, Gh h9 h22 ∧ I4 m6 (x8 + (1 : Int)) h22))) (
    (∃ h23, Gh h9 h23 ∧ R3 h23))

def f25_sem (p0_m : Option Addr) (h0 : H) (post : Value → H → Prop) : Prop :=
  ∃ a1 : Addr, p0_m = some a1 ∧
  ∃ x2 : SV, H.rd h0 (Addr.add (Addr.add a1 0) 0) (Value.slice x2.a x2.len x2.cap) ∧
  ∃ R3 : H → Prop, (
    ∃ I4 : Nat → Int → H → Prop, (∃ n5, (∃ h7, Gh h0 h7 ∧ I4 n5 (0 : Int) h7)) ∧
    ∀ (n5 : Nat) (_ : F) (x8 : Int) (h9 : H), I4 n5 x8 h9 →
    f25_L1 p0_m x2 R3 I4 n5 x8 h9) ∧
  ∀ (_ : F) (h24 : H), R3 h24 →
  VRet h24 (Value.tuple (List.toArray [])) post

def f25_hint : Hint := (.node .leaf (.join [] (.node (.loop [(9, .int)] .leaf) .leaf)))

theorem f25_eq (p0_m : Option Addr) (h0 : H) (post : Value → H → Prop) : exec Try.prog (bodyOf Try.f25) f25_hint (retQ Try.prog Try.f25 post) (F0 [(Value.pointer p0_m)]) h0 = f25_sem p0_m h0 post := by kernel_rfl

theorem f25_call (p0_m : Option Addr) (h0 : H) (post : Value → H → Prop) (hx : f25_sem p0_m h0 post) : SemCall Try.prog 25 (List.toArray [(Value.pointer p0_m)]) h0 post :=
  sem_of_exec (g := f25_hint) mixed Try.func25 (bodyOf_eq (by kernel_rfl)) (by kernel_rfl) ((f25_eq p0_m h0 post).mpr hx)

/- (*latchgarth/pmem.Mem).Read -/
def f26_sem (p0_m : Option Addr) (p1_i : Int) (h0 : H) (post : Value → H → Prop) : Prop :=
  SemCall Go.Proofs.Try.prog 42 (List.toArray [(Value.pointer p0_m), (Value.int .i64 p1_i)]) h0 fun v1 h2 =>
  ∃ x3 : Bool, v1 = (Value.bool x3) ∧
  VIf (!x3) (
    VRet h2 (Value.int .i64 (-1 : Int)) post) (
    ∃ a4 : Addr, p0_m = some a4 ∧
    ∃ x5 : SV, H.rd h2 (Addr.add (Addr.add a4 0) 0) (Value.slice x5.a x5.len x5.cap) ∧
    ∃ b6 : Addr, x5.a = some b6 ∧ 0 ≤ p1_i ∧ p1_i < ((x5.len : Nat) : Int) ∧
    ∃ x7 : Int, H.rd h2 (Addr.add (Addr.add (Addr.add b6 ((p1_i).toNat * 4)) 0) 0) (Value.int .i64 x7) ∧
    VRet h2 (Value.int .i64 x7) post)

def f26_hint : Hint := .leaf

theorem f26_eq (p0_m : Option Addr) (p1_i : Int) (h0 : H) (post : Value → H → Prop) : exec Try.prog (bodyOf Try.f26) f26_hint (retQ Try.prog Try.f26 post) (F0 [(Value.pointer p0_m), (Value.int .i64 p1_i)]) h0 = f26_sem p0_m p1_i h0 post := by kernel_rfl

theorem f26_call (p0_m : Option Addr) (p1_i : Int) (h0 : H) (post : Value → H → Prop) (hx : f26_sem p0_m p1_i h0 post) : SemCall Try.prog 26 (List.toArray [(Value.pointer p0_m), (Value.int .i64 p1_i)]) h0 post :=
  sem_of_exec (g := f26_hint) mixed Try.func26 (bodyOf_eq (by kernel_rfl)) (by kernel_rfl) ((f26_eq p0_m p1_i h0 post).mpr hx)

/- latchgarth/latchgarthlaw4.rwFact -/
def f27_sem (h0 : H) (post : Value → H → Prop) : Prop :=
  SemCall Go.Proofs.Try.prog 28 (List.toArray []) h0 fun v1 h2 =>
  ∃ x3 : Option Addr, v1 = (Value.pointer x3) ∧
  SemCall Go.Proofs.Try.prog 29 (List.toArray [(Value.pointer x3), (Value.int .i64 (0 : Int)), (Value.bool false)]) h2 fun v4 h5 =>
  ∃ x6 : Bool, ∃ x7 : Option (TypeId × Value), v4 = (Value.tuple (List.toArray [(Value.bool x6), (errV x7)])) ∧
  SemCall Go.Proofs.Try.prog 29 (List.toArray [(Value.pointer x3), (Value.int .i64 (1 : Int)), (Value.bool true)]) h5 fun v8 h9 =>
  ∃ x10 : Bool, ∃ x11 : Option (TypeId × Value), v8 = (Value.tuple (List.toArray [(Value.bool x10), (errV x11)])) ∧
  SemCall Go.Proofs.Try.prog 29 (List.toArray [(Value.pointer x3), (Value.int .i64 (2 : Int)), (Value.bool false)]) h9 fun v12 h13 =>
  ∃ x14 : Bool, ∃ x15 : Option (TypeId × Value), v12 = (Value.tuple (List.toArray [(Value.bool x14), (errV x15)])) ∧
  SemCall Go.Proofs.Try.prog 30 (List.toArray [(Value.pointer x3), (Value.int .i64 (0 : Int))]) h13 fun v16 h17 =>
  ∃ x18 : SV, ∃ x19 : Option (TypeId × Value), v16 = (Value.tuple (List.toArray [(Value.slice x18.a x18.len x18.cap), (errV x19)])) ∧
  ∃ R20 : Bool → H → Prop, (
    isIfaceV (errV x7) = true ∧
    VIf (isNilV (errV x7)) (
      isIfaceV (errV x11) = true ∧
      VIf (isNilV (errV x11)) (
        isIfaceV (errV x15) = true ∧
        VIf (isNilV (errV x15)) (
          isIfaceV (errV x19) = true ∧
          VIf (isNilV (errV x19)) (
            VIf x6 (
              VIf (!x10) (
                VIf (!x14) (
                H.new h17 [(Value.int .i64 (1 : Int))] fun r21 h22 =>
                SemCall Go.Proofs.Try.prog 15 (List.toArray [(Value.slice x18.a x18.len x18.cap), (Value.slice (some (Addr.mk r21 0 none)) 1 1)]) h22 fun v23 h24 =>
                ∃ x25 : Bool, v23 = (Value.bool x25) ∧
                VIf x25 (
                SemCall Go.Proofs.Try.prog 31 (List.toArray [(Value.pointer x3)]) h24 fun v26 h27 =>
                ∃ x28 : Int, v26 = (Value.int .i64 x28) ∧
                (∃ h29, Gh h27 h29 ∧ R20 (x28 == (1 : Int)) h29)) (
                (∃ h30, Gh h24 h30 ∧ R20 false h30))) (
                (∃ h31, Gh h17 h31 ∧ R20 false h31))) (
                (∃ h32, Gh h17 h32 ∧ R20 false h32))) (
              (∃ h33, Gh h17 h33 ∧ R20 false h33))) (
            (∃ h34, Gh h17 h34 ∧ R20 false h34))) (
          (∃ h35, Gh h17 h35 ∧ R20 false h35))) (
        (∃ h36, Gh h17 h36 ∧ R20 false h36))) (
      (∃ h37, Gh h17 h37 ∧ R20 false h37))) ∧
  ∀ (_ : F) (x38 : Bool) (h39 : H), R20 x38 h39 →
  VRet h39 (Value.bool x38) post

def f27_hint : Hint := (.node .leaf (.node .leaf (.node .leaf (.node .leaf (.node .leaf (.node .leaf (.node (.join [(0, .bool)] .leaf) .leaf)))))))

theorem f27_eq (h0 : H) (post : Value → H → Prop) : exec Try.prog (bodyOf Try.f27) f27_hint (retQ Try.prog Try.f27 post) (F0 []) h0 = f27_sem h0 post := by kernel_rfl

theorem f27_call (h0 : H) (post : Value → H → Prop) (hx : f27_sem h0 post) : SemCall Try.prog 27 (List.toArray []) h0 post :=
  sem_of_exec (g := f27_hint) mixed Try.func27 (bodyOf_eq (by kernel_rfl)) (by kernel_rfl) ((f27_eq h0 post).mpr hx)

/- latchgarth/rw.New -/
def f28_sem (h0 : H) (post : Value → H → Prop) : Prop :=
  H.new h0 [(Value.int .i64 (0 : Int)), (Value.int .i64 (0 : Int)), (Value.slice none 0 0)] fun r1 h2 =>
  VRet h2 (Value.pointer (some (Addr.mk r1 0 none))) post

def f28_hint : Hint := .leaf

theorem f28_eq (h0 : H) (post : Value → H → Prop) : exec Try.prog (bodyOf Try.f28) f28_hint (retQ Try.prog Try.f28 post) (F0 []) h0 = f28_sem h0 post := by kernel_rfl

theorem f28_call (h0 : H) (post : Value → H → Prop) (hx : f28_sem h0 post) : SemCall Try.prog 28 (List.toArray []) h0 post :=
  sem_of_exec (g := f28_hint) mixed Try.func28 (bodyOf_eq (by kernel_rfl)) (by kernel_rfl) ((f28_eq h0 post).mpr hx)

/- (*latchgarth/rw.Lock).Ask -/
def f29_J1 (p0_l : Option Addr) (post : Value → H → Prop) (r27 : Nat) (x40 : Bool) (h41 : H) : Prop :=
  VIf x40 (
    ∃ x42 : Int, H.rd h41 (Addr.add (Addr.mk r27 0 none) 0) (Value.int .i64 x42) ∧
    ∃ x43 : Bool, H.rd h41 (Addr.add (Addr.mk r27 0 none) 1) (Value.bool x43) ∧
    SemCall Go.Proofs.Try.prog 46 (List.toArray [(Value.pointer p0_l), (Value.agg (List.toArray [(Value.int .i64 x42), (Value.bool x43)]))]) h41 fun v44 h45 =>
    v44 = (Value.tuple (List.toArray [])) ∧
    VRet h45 (Value.tuple (List.toArray [(Value.bool true), Value.nilIface])) post) (
    ∃ a46 : Addr, p0_l = some a46 ∧
    (
      ∃ x47 : SV, H.rd h41 (Addr.add (Addr.add a46 2) 0) (Value.slice x47.a x47.len x47.cap) ∧
      ∃ x48 : Int, H.rd h41 (Addr.add (Addr.mk r27 0 none) 0) (Value.int .i64 x48) ∧
      ∃ x49 : Bool, H.rd h41 (Addr.add (Addr.mk r27 0 none) 1) (Value.bool x49) ∧
      H.new h41 [(Value.int .i64 x48), (Value.bool x49)] fun r50 h51 =>
      appVC Go.Proofs.Try.prog 72 (Value.slice x47.a x47.len x47.cap) (Value.slice (some (Addr.mk r50 0 none)) 1 1) h51 fun x52 h53 =>
      ∃ a54 : Addr, p0_l = some a54 ∧
      H.wr h53 (Addr.add a54 2) ([(Value.slice x52.a x52.len x52.cap)]) fun h55 =>
      VRet h55 (Value.tuple (List.toArray [(Value.bool false), Value.nilIface])) post) ∧
    (
      ∃ x56 : Int, H.rd h41 (Addr.add (Addr.mk r27 0 none) 0) (Value.int .i64 x56) ∧
      ∃ x57 : Bool, H.rd h41 (Addr.add (Addr.mk r27 0 none) 1) (Value.bool x57) ∧
      (
        ∃ x58 : SV, H.rd h41 (Addr.add (Addr.add a46 2) 0) (Value.slice x58.a x58.len x58.cap) ∧
        H.new h41 [(Value.int .i64 x56), (Value.bool x57)] fun r59 h60 =>
        appVC Go.Proofs.Try.prog 72 (Value.slice x58.a x58.len x58.cap) (Value.slice (some (Addr.mk r59 0 none)) 1 1) h60 fun x61 h62 =>
        ∃ a63 : Addr, p0_l = some a63 ∧
        H.wr h62 (Addr.add a63 2) ([(Value.slice x61.a x61.len x61.cap)]) fun h64 =>
        VRet h64 (Value.tuple (List.toArray [(Value.bool false), Value.nilIface])) post) ∧
      (
        H.new h41 [(Value.int .i64 x56), (Value.bool x57)] fun r65 h66 =>
        ∃ x67 : SV, H.rd h66 (Addr.add (Addr.add a46 2) 0) (Value.slice x67.a x67.len x67.cap) ∧
        appVC Go.Proofs.Try.prog 72 (Value.slice x67.a x67.len x67.cap) (Value.slice (some (Addr.mk r65 0 none)) 1 1) h66 fun x68 h69 =>
        ∃ a70 : Addr, p0_l = some a70 ∧
        H.wr h69 (Addr.add a70 2) ([(Value.slice x68.a x68.len x68.cap)]) fun h71 =>
        VRet h71 (Value.tuple (List.toArray [(Value.bool false), Value.nilIface])) post)))

def f29_J2 (p0_l : Option Addr) (p2_writes : Bool) (post : Value → H → Prop) (r1 : Nat) (x24 : Bool) (h25 : H) : Prop :=
  VIf x24 (
    VRet h25 (Value.tuple (List.toArray [(Value.bool false), (Value.iface 56 (Value.int .i64 (7 : Int)))])) post) (
    ∃ x26 : Int, H.rd h25 (Addr.add (Addr.mk r1 0 none) 0) (Value.int .i64 x26) ∧
    H.new h25 [(Value.int .i64 (0 : Int)), (Value.bool false)] fun r27 h28 =>
    ([(Value.int .i64 x26), (Value.bool p2_writes)]).length = 2 ∧ (Program.underlying Go.Proofs.Try.prog 77).isSome = true ∧
    H.wr h28 (Addr.mk r27 0 none) ([(Value.int .i64 x26), (Value.bool p2_writes)]) fun h29 =>
    ∃ R30 : Bool → H → Prop, (
      ∃ a31 : Addr, p0_l = some a31 ∧
      ∃ x32 : SV, H.rd h29 (Addr.add (Addr.add a31 2) 0) (Value.slice x32.a x32.len x32.cap) ∧
      VIf (((x32.len : Nat) : Int) == (0 : Int)) (
        ∃ x33 : Int, H.rd h29 (Addr.add (Addr.mk r27 0 none) 0) (Value.int .i64 x33) ∧
        ∃ x34 : Bool, H.rd h29 (Addr.add (Addr.mk r27 0 none) 1) (Value.bool x34) ∧
        SemCall Go.Proofs.Try.prog 45 (List.toArray [(Value.pointer p0_l), (Value.agg (List.toArray [(Value.int .i64 x33), (Value.bool x34)]))]) h29 fun v35 h36 =>
        ∃ x37 : Bool, v35 = (Value.bool x37) ∧
        (∃ h38, Gh h36 h38 ∧ R30 x37 h38)) (
        (∃ h39, Gh h29 h39 ∧ R30 false h39))) ∧
    ∀ (_ : F) (x40 : Bool) (h41 : H), R30 x40 h41 →
    f29_J1 p0_l post r27 x40 h41)

def f29_sem (p0_l : Option Addr) (p1_who : Int) (p2_writes : Bool) (h0 : H) (post : Value → H → Prop) : Prop :=
  Value.oneCell' (Value.int .i64 p1_who) = true ∧
  H.new h0 [(Value.int .i64 p1_who)] fun r1 h2 =>
  ∃ x3 : Int, H.rd h2 (Addr.add (Addr.mk r1 0 none) 0) (Value.int .i64 x3) ∧
  SemCall Go.Proofs.Try.prog 34 (List.toArray [(Value.int .i64 x3), (Value.int .i64 (0 : Int)), (Value.int .i64 (7 : Int))]) h2 fun v4 h5 =>
  ∃ x6 : Bool, v4 = (Value.bool x6) ∧
  VIf (!x6) (
    VRet h5 (Value.tuple (List.toArray [(Value.bool false), (Value.iface 56 (Value.int .i64 (1 : Int)))])) post) (
    ∃ a7 : Addr, p0_l = some a7 ∧
    ∃ x8 : SV, H.rd h5 (Addr.add (Addr.add a7 2) 0) (Value.slice x8.a x8.len x8.cap) ∧
    SemCall Go.Proofs.Try.prog 43 (List.toArray [(Value.slice x8.a x8.len x8.cap), (Value.func (.func 44) #[] #[(Value.pointer (some (Addr.mk r1 0 none)))])]) h5 fun v9 h10 =>
    ∃ x11 : Bool, v9 = (Value.bool x11) ∧
    ∃ R12 : Bool → H → Prop, (
      VIf x11 (
        (∃ h13, Gh h10 h13 ∧ R12 true h13)) (
        ∃ a14 : Addr, p0_l = some a14 ∧
        ∃ x15 : Int, H.rd h10 (Addr.add (Addr.add a14 0) 0) (Value.int .i64 x15) ∧
        ∃ x16 : Int, H.rd h10 (Addr.add (Addr.mk r1 0 none) 0) (Value.int .i64 x16) ∧
        ∃ v17 : Value, PureCall Go.Proofs.Try.prog 38 (List.toArray [(Value.int .i64 x15), (Value.int .i64 x16)]) v17 ∧
        ∃ x18 : Bool, v17 = (Value.bool x18) ∧
        VIf x18 (
          (∃ h19, Gh h10 h19 ∧ R12 true h19)) (
          ∃ a20 : Addr, p0_l = some a20 ∧
          ∃ x21 : Int, H.rd h10 (Addr.add (Addr.add a20 1) 0) (Value.int .i64 x21) ∧
          ∃ x22 : Int, H.rd h10 (Addr.add (Addr.mk r1 0 none) 0) (Value.int .i64 x22) ∧
          In64 (x22 + (1 : Int)) ∧
          (∃ h23, Gh h10 h23 ∧ R12 (x21 == (x22 + (1 : Int))) h23)))) ∧
    ∀ (_ : F) (x24 : Bool) (h25 : H), R12 x24 h25 →
    f29_J2 p0_l p2_writes post r1 x24 h25)

def f29_hint : Hint := (.node .leaf (.node .leaf (.node .leaf (.node (.node (.join [(37, .bool)] .leaf) .leaf) (.node .leaf (.node (.node (.join [(52, .bool)] .leaf) .leaf) (.node .any .leaf)))))))

theorem f29_eq (p0_l : Option Addr) (p1_who : Int) (p2_writes : Bool) (h0 : H) (post : Value → H → Prop) : exec Try.prog (bodyOf Try.f29) f29_hint (retQ Try.prog Try.f29 post) (F0 [(Value.pointer p0_l), (Value.int .i64 p1_who), (Value.bool p2_writes)]) h0 = f29_sem p0_l p1_who p2_writes h0 post := by kernel_rfl

theorem f29_call (p0_l : Option Addr) (p1_who : Int) (p2_writes : Bool) (h0 : H) (post : Value → H → Prop) (hx : f29_sem p0_l p1_who p2_writes h0 post) : SemCall Try.prog 29 (List.toArray [(Value.pointer p0_l), (Value.int .i64 p1_who), (Value.bool p2_writes)]) h0 post :=
  sem_of_exec (g := f29_hint) mixed Try.func29 (bodyOf_eq (by kernel_rfl)) (by kernel_rfl) ((f29_eq p0_l p1_who p2_writes h0 post).mpr hx)

/- (*latchgarth/rw.Lock).Done -/
def f30_J1 (p0_l : Option Addr) (R21 : SV → H → Prop) (I22 : Nat → SV → H → Prop) (n23 : Nat) (x26_out : SV) (x41 : Bool) (h42 : H) : Prop :=
  VIf x41 (
    ∃ a43 : Addr, p0_l = some a43 ∧
    ∃ x44 : SV, H.rd h42 (Addr.add (Addr.add a43 2) 0) (Value.slice x44.a x44.len x44.cap) ∧
    ∃ b45 : Addr, x44.a = some b45 ∧ 0 ≤ (0 : Int) ∧ (0 : Int) < ((x44.len : Nat) : Int) ∧
    ∃ x46 : Int, H.rd h42 (Addr.add (Addr.add b45 (((0 : Int)).toNat * 2)) 0) (Value.int .i64 x46) ∧
    ∃ x47 : Bool, H.rd h42 (Addr.add (Addr.add b45 (((0 : Int)).toNat * 2)) 1) (Value.bool x47) ∧
    SemCall Go.Proofs.Try.prog 46 (List.toArray [(Value.pointer p0_l), (Value.agg (List.toArray [(Value.int .i64 x46), (Value.bool x47)]))]) h42 fun v48 h49 =>
    v48 = (Value.tuple (List.toArray [])) ∧
    ∃ a50 : Addr, p0_l = some a50 ∧
    ∃ x51 : SV, H.rd h49 (Addr.add (Addr.add a50 2) 0) (Value.slice x51.a x51.len x51.cap) ∧
    ∃ b52 : Addr, x51.a = some b52 ∧ 0 ≤ (0 : Int) ∧ (0 : Int) < ((x51.len : Nat) : Int) ∧
    ∃ x53 : Int, H.rd h49 (Addr.add (Addr.add (Addr.add b52 (((0 : Int)).toNat * 2)) 0) 0) (Value.int .i64 x53) ∧
    H.new h49 [(Value.int .i64 x53)] fun r54 h55 =>
    appVC Go.Proofs.Try.prog 30 (Value.slice x26_out.a x26_out.len x26_out.cap) (Value.slice (some (Addr.mk r54 0 none)) 1 1) h55 fun x56 h57 =>
    ∃ a58 : Addr, p0_l = some a58 ∧
    ∃ x59 : SV, H.rd h57 (Addr.add (Addr.add a58 2) 0) (Value.slice x59.a x59.len x59.cap) ∧
    0 ≤ (1 : Int) ∧ (1 : Int) ≤ ((x59.len : Nat) : Int) ∧
    ∃ a60 : Addr, p0_l = some a60 ∧
    H.wr h57 (Addr.add a60 2) ([(Value.slice (if x59.cap = ((1 : Int)).toNat then x59.a else Option.map (fun z => Addr.add z (((1 : Int)).toNat * 2)) x59.a) (x59.len - ((1 : Int)).toNat) (x59.cap - ((1 : Int)).toNat))]) fun h61 =>
    ∃ m24, m24 < n23 ∧ (∃ h62, Gh h61 h62 ∧ I22 m24 x56 h62)) (
    (∃ h63, Gh h42 h63 ∧ R21 x26_out h63))

def f30_L2 (p0_l : Option Addr) (R21 : SV → H → Prop) (I22 : Nat → SV → H → Prop) (n23 : Nat) (x26_out : SV) (h27 : H) : Prop :=
  ∃ R28 : Bool → H → Prop, (
    ∃ a29 : Addr, p0_l = some a29 ∧
    ∃ x30 : SV, H.rd h27 (Addr.add (Addr.add a29 2) 0) (Value.slice x30.a x30.len x30.cap) ∧
    VIf (decide (((x30.len : Nat) : Int) > (0 : Int))) (
      ∃ a31 : Addr, p0_l = some a31 ∧
      ∃ x32 : SV, H.rd h27 (Addr.add (Addr.add a31 2) 0) (Value.slice x32.a x32.len x32.cap) ∧
      ∃ b33 : Addr, x32.a = some b33 ∧ 0 ≤ (0 : Int) ∧ (0 : Int) < ((x32.len : Nat) : Int) ∧
      ∃ x34 : Int, H.rd h27 (Addr.add (Addr.add b33 (((0 : Int)).toNat * 2)) 0) (Value.int .i64 x34) ∧
      ∃ x35 : Bool, H.rd h27 (Addr.add (Addr.add b33 (((0 : Int)).toNat * 2)) 1) (Value.bool x35) ∧
      SemCall Go.Proofs.Try.prog 45 (List.toArray [(Value.pointer p0_l), (Value.agg (List.toArray [(Value.int .i64 x34), (Value.bool x35)]))]) h27 fun v36 h37 =>
      ∃ x38 : Bool, v36 = (Value.bool x38) ∧
      (∃ h39, Gh h37 h39 ∧ R28 x38 h39)) (
      (∃ h40, Gh h27 h40 ∧ R28 false h40))) ∧
  ∀ (_ : F) (x41 : Bool) (h42 : H), R28 x41 h42 →
  f30_J1 p0_l R21 I22 n23 x26_out x41 h42

def f30_sem (p0_l : Option Addr) (p1_who : Int) (h0 : H) (post : Value → H → Prop) : Prop :=
  SemCall Go.Proofs.Try.prog 34 (List.toArray [(Value.int .i64 p1_who), (Value.int .i64 (0 : Int)), (Value.int .i64 (7 : Int))]) h0 fun v1 h2 =>
  ∃ x3 : Bool, v1 = (Value.bool x3) ∧
  VIf (!x3) (
    VRet h2 (Value.tuple (List.toArray [(Value.slice none 0 0), (Value.iface 56 (Value.int .i64 (1 : Int)))])) post) (
    ∃ a4 : Addr, p0_l = some a4 ∧
    ∃ x5 : Int, H.rd h2 (Addr.add (Addr.add a4 1) 0) (Value.int .i64 x5) ∧
    In64 (p1_who + (1 : Int)) ∧
    ∃ R6 : H → Prop, (
      VIf (x5 == (p1_who + (1 : Int))) (
        ∃ a7 : Addr, p0_l = some a7 ∧
        H.wr h2 (Addr.add a7 1) ([(Value.int .i64 (0 : Int))]) fun h8 =>
        (∃ h9, Gh h8 h9 ∧ R6 h9)) (
        ∃ a10 : Addr, p0_l = some a10 ∧
        ∃ x11 : Int, H.rd h2 (Addr.add (Addr.add a10 0) 0) (Value.int .i64 x11) ∧
        SemCall Go.Proofs.Try.prog 38 (List.toArray [(Value.int .i64 x11), (Value.int .i64 p1_who)]) h2 fun v12 h13 =>
        ∃ x14 : Bool, v12 = (Value.bool x14) ∧
        VIf x14 (
          ∃ a15 : Addr, p0_l = some a15 ∧
          ∃ x16 : Int, H.rd h13 (Addr.add (Addr.add a15 0) 0) (Value.int .i64 x16) ∧
          0 ≤ p1_who ∧ p1_who ≤ 63 ∧ In64 ((1 : Int) * 2 ^ (p1_who).toNat) ∧
          ∃ a17 : Addr, p0_l = some a17 ∧
          H.wr h13 (Addr.add a17 0) ([(Value.int .i64 (bitsV .andNot x16 ((1 : Int) * 2 ^ (p1_who).toNat)))]) fun h18 =>
          (∃ h19, Gh h18 h19 ∧ R6 h19)) (
          VRet h13 (Value.tuple (List.toArray [(Value.slice none 0 0), (Value.iface 56 (Value.int .i64 (5 : Int)))])) post))) ∧
    ∀ (_ : F) (h20 : H), R6 h20 →
    ∃ R21 : SV → H → Prop, (
      ∃ I22 : Nat → SV → H → Prop, (∃ n23, (∃ h25, Gh h20 h25 ∧ I22 n23 (SV.mk none 0 0) h25)) ∧
      ∀ (n23 : Nat) (_ : F) (x26_out : SV) (h27 : H), I22 n23 x26_out h27 →
      f30_L2 p0_l R21 I22 n23 x26_out h27) ∧
    ∀ (_ : F) (x64_out : SV) (h65 : H), R21 x64_out h65 →
    VRet h65 (Value.tuple (List.toArray [(Value.slice x64_out.a x64_out.len x64_out.cap), Value.nilIface])) post)

def f30_hint : Hint := (.node .leaf (.node .leaf (.node (.node (.node .leaf (.join [] (.node .leaf (.node .leaf (.node (.tail 9) .leaf))))) .leaf) (.node .leaf (.node (.join [(6, .sl)] (.node (.loop [(6, .sl)] (.node (.node (.join [(54, .bool)] .leaf) .leaf) .leaf)) .leaf)) .leaf)))))

theorem f30_eq (p0_l : Option Addr) (p1_who : Int) (h0 : H) (post : Value → H → Prop) : exec Try.prog (bodyOf Try.f30) f30_hint (retQ Try.prog Try.f30 post) (F0 [(Value.pointer p0_l), (Value.int .i64 p1_who)]) h0 = f30_sem p0_l p1_who h0 post := by kernel_rfl

theorem f30_call (p0_l : Option Addr) (p1_who : Int) (h0 : H) (post : Value → H → Prop) (hx : f30_sem p0_l p1_who h0 post) : SemCall Try.prog 30 (List.toArray [(Value.pointer p0_l), (Value.int .i64 p1_who)]) h0 post :=
  sem_of_exec (g := f30_hint) mixed Try.func30 (bodyOf_eq (by kernel_rfl)) (by kernel_rfl) ((f30_eq p0_l p1_who h0 post).mpr hx)

/- (*latchgarth/rw.Lock).Writes -/
def f31_sem (p0_l : Option Addr) (h0 : H) (post : Value → H → Prop) : Prop :=
  ∃ a1 : Addr, p0_l = some a1 ∧
  ∃ x2 : Int, H.rd h0 (Addr.add (Addr.add a1 1) 0) (Value.int .i64 x2) ∧
  In64 (x2 - (1 : Int)) ∧
  VRet h0 (Value.int .i64 (x2 - (1 : Int))) post

def f31_hint : Hint := .leaf

theorem f31_eq (p0_l : Option Addr) (h0 : H) (post : Value → H → Prop) : exec Try.prog (bodyOf Try.f31) f31_hint (retQ Try.prog Try.f31 post) (F0 [(Value.pointer p0_l)]) h0 = f31_sem p0_l h0 post := by kernel_rfl

theorem f31_call (p0_l : Option Addr) (h0 : H) (post : Value → H → Prop) (hx : f31_sem p0_l h0 post) : SemCall Try.prog 31 (List.toArray [(Value.pointer p0_l)]) h0 post :=
  sem_of_exec (g := f31_hint) mixed Try.func31 (bodyOf_eq (by kernel_rfl)) (by kernel_rfl) ((f31_eq p0_l h0 post).mpr hx)

/- (*latchgarth/rw.Lock).Reads -/
def f32_sem (p0_l : Option Addr) (h0 : H) (post : Value → H → Prop) : Prop :=
  ∃ a1 : Addr, p0_l = some a1 ∧
  ∃ x2 : Int, H.rd h0 (Addr.add (Addr.add a1 0) 0) (Value.int .i64 x2) ∧
  VRet h0 (Value.int .i64 x2) post

def f32_hint : Hint := .leaf

theorem f32_eq (p0_l : Option Addr) (h0 : H) (post : Value → H → Prop) : exec Try.prog (bodyOf Try.f32) f32_hint (retQ Try.prog Try.f32 post) (F0 [(Value.pointer p0_l)]) h0 = f32_sem p0_l h0 post := by kernel_rfl

theorem f32_call (p0_l : Option Addr) (h0 : H) (post : Value → H → Prop) (hx : f32_sem p0_l h0 post) : SemCall Try.prog 32 (List.toArray [(Value.pointer p0_l)]) h0 post :=
  sem_of_exec (g := f32_hint) mixed Try.func32 (bodyOf_eq (by kernel_rfl)) (by kernel_rfl) ((f32_eq p0_l h0 post).mpr hx)

/- (*latchgarth/rw.Lock).Waits -/
def f33_L1 (x2 : SV) (R3 : SV → H → Prop) (I4 : Nat → SV → Int → H → Prop) (n5 : Nat) (x8_out : SV) (x9 : Int) (h10 : H) : Prop :=
  VIf (decide (x9 < ((x2.len : Nat) : Int))) (
    ∃ b11 : Addr, x2.a = some b11 ∧ 0 ≤ x9 ∧ x9 < ((x2.len : Nat) : Int) ∧
    ∃ x12 : Int, H.rd h10 (Addr.add (Addr.add b11 ((x9).toNat * 2)) 0) (Value.int .i64 x12) ∧
    ∃ x13 : Bool, H.rd h10 (Addr.add (Addr.add b11 ((x9).toNat * 2)) 1) (Value.bool x13) ∧
    H.new h10 [(Value.int .i64 (0 : Int)), (Value.bool false)] fun r14 h15 =>
    ([(Value.int .i64 x12), (Value.bool x13)]).length = 2 ∧ (Program.underlying Go.Proofs.Try.prog 77).isSome = true ∧
    H.wr h15 (Addr.mk r14 0 none) ([(Value.int .i64 x12), (Value.bool x13)]) fun h16 =>
    ∃ x17 : Int, H.rd h16 (Addr.add (Addr.add (Addr.mk r14 0 none) 0) 0) (Value.int .i64 x17) ∧
    H.new h16 [(Value.int .i64 x17)] fun r18 h19 =>
    appVC Go.Proofs.Try.prog 30 (Value.slice x8_out.a x8_out.len x8_out.cap) (Value.slice (some (Addr.mk r18 0 none)) 1 1) h19 fun x20 h21 =>
    In64 (x9 + (1 : Int)) ∧
    ∃ m6, m6 < n5 ∧ (∃ h22, Gh h21 h22 ∧ I4 m6 x20 (x9 + (1 : Int)) h22)) (
    (∃ h23, Gh h10 h23 ∧ R3 x8_out h23))

def f33_sem (p0_l : Option Addr) (h0 : H) (post : Value → H → Prop) : Prop :=
  ∃ a1 : Addr, p0_l = some a1 ∧
  ∃ x2 : SV, H.rd h0 (Addr.add (Addr.add a1 2) 0) (Value.slice x2.a x2.len x2.cap) ∧
  ∃ R3 : SV → H → Prop, (
    ∃ I4 : Nat → SV → Int → H → Prop, (∃ n5, (∃ h7, Gh h0 h7 ∧ I4 n5 (SV.mk none 0 0) (0 : Int) h7)) ∧
    ∀ (n5 : Nat) (_ : F) (x8_out : SV) (x9 : Int) (h10 : H), I4 n5 x8_out x9 h10 →
    f33_L1 x2 R3 I4 n5 x8_out x9 h10) ∧
  ∀ (_ : F) (x24_out : SV) (h25 : H), R3 x24_out h25 →
  VRet h25 (Value.slice x24_out.a x24_out.len x24_out.cap) post

def f33_hint : Hint := (.node .leaf (.node .leaf (.node (.node .leaf (.join [(3, .sl)] (.node (.loop [(3, .sl), (11, .int)] .leaf) .leaf))) .leaf)))

theorem f33_eq (p0_l : Option Addr) (h0 : H) (post : Value → H → Prop) : exec Try.prog (bodyOf Try.f33) f33_hint (retQ Try.prog Try.f33 post) (F0 [(Value.pointer p0_l)]) h0 = f33_sem p0_l h0 post := by kernel_rfl

theorem f33_call (p0_l : Option Addr) (h0 : H) (post : Value → H → Prop) (hx : f33_sem p0_l h0 post) : SemCall Try.prog 33 (List.toArray [(Value.pointer p0_l)]) h0 post :=
  sem_of_exec (g := f33_hint) mixed Try.func33 (bodyOf_eq (by kernel_rfl)) (by kernel_rfl) ((f33_eq p0_l h0 post).mpr hx)

/- latchgarth/core.Within -/
def f34_sem (p0_n : Int) (p1_low : Int) (p2_high : Int) (h0 : H) (post : Value → H → Prop) : Prop :=
  ∃ R1 : Bool → H → Prop, (
    VIf (decide (p0_n ≥ p1_low)) (
      (∃ h2, Gh h0 h2 ∧ R1 (decide (p0_n ≤ p2_high)) h2)) (
      (∃ h3, Gh h0 h3 ∧ R1 false h3))) ∧
  ∀ (_ : F) (x4 : Bool) (h5 : H), R1 x4 h5 →
  VRet h5 (Value.bool x4) post

def f34_hint : Hint := (.node .leaf (.node (.join [(6, .bool)] .leaf) .leaf))

theorem f34_eq (p0_n : Int) (p1_low : Int) (p2_high : Int) (h0 : H) (post : Value → H → Prop) : exec Try.prog (bodyOf Try.f34) f34_hint (retQ Try.prog Try.f34 post) (F0 [(Value.int .i64 p0_n), (Value.int .i64 p1_low), (Value.int .i64 p2_high)]) h0 = f34_sem p0_n p1_low p2_high h0 post := by kernel_rfl

theorem f34_call (p0_n : Int) (p1_low : Int) (p2_high : Int) (h0 : H) (post : Value → H → Prop) (hx : f34_sem p0_n p1_low p2_high h0 post) : SemCall Try.prog 34 (List.toArray [(Value.int .i64 p0_n), (Value.int .i64 p1_low), (Value.int .i64 p2_high)]) h0 post :=
  sem_of_exec (g := f34_hint) mixed Try.func34 (bodyOf_eq (by kernel_rfl)) (by kernel_rfl) ((f34_eq p0_n p1_low p2_high h0 post).mpr hx)

/- 36 (*latchgarth/pmem.Mem).Cells$1 : NOT MADE: call of ('any', 'p0_yield') -/
/- latchgarth/core.Mask -/
def f37_sem (p0_set : Int) (p1_n : Int) (h0 : H) (post : Value → H → Prop) : Prop :=
  ∃ R1 : Bool → H → Prop, (
    VIf (decide (p0_set ≥ (0 : Int))) (
      0 ≤ p1_n ∧ p1_n ≤ 63 ∧ In64 ((1 : Int) * 2 ^ (p1_n).toNat) ∧
      (∃ h2, Gh h0 h2 ∧ R1 (decide (p0_set < ((1 : Int) * 2 ^ (p1_n).toNat))) h2)) (
      (∃ h3, Gh h0 h3 ∧ R1 false h3))) ∧
  ∀ (_ : F) (x4 : Bool) (h5 : H), R1 x4 h5 →
  VRet h5 (Value.bool x4) post

def f37_hint : Hint := (.node .leaf (.node (.join [(4, .bool)] .leaf) .leaf))

theorem f37_eq (p0_set : Int) (p1_n : Int) (h0 : H) (post : Value → H → Prop) : exec Try.prog (bodyOf Try.f37) f37_hint (retQ Try.prog Try.f37 post) (F0 [(Value.int .i64 p0_set), (Value.int .i64 p1_n)]) h0 = f37_sem p0_set p1_n h0 post := by kernel_rfl

theorem f37_call (p0_set : Int) (p1_n : Int) (h0 : H) (post : Value → H → Prop) (hx : f37_sem p0_set p1_n h0 post) : SemCall Try.prog 37 (List.toArray [(Value.int .i64 p0_set), (Value.int .i64 p1_n)]) h0 post :=
  sem_of_exec (g := f37_hint) mixed Try.func37 (bodyOf_eq (by kernel_rfl)) (by kernel_rfl) ((f37_eq p0_set p1_n h0 post).mpr hx)

/- latchgarth/core.Has -/
def f38_sem (p0_set : Int) (p1_i : Int) (h0 : H) (post : Value → H → Prop) : Prop :=
  0 ≤ p1_i ∧ p1_i ≤ 63 ∧
  VRet h0 (Value.bool ((bitsV .and (Int.fdiv p0_set (2 ^ (p1_i).toNat)) (1 : Int)) == (1 : Int))) post

def f38_hint : Hint := .leaf

theorem f38_eq (p0_set : Int) (p1_i : Int) (h0 : H) (post : Value → H → Prop) : exec Try.prog (bodyOf Try.f38) f38_hint (retQ Try.prog Try.f38 post) (F0 [(Value.int .i64 p0_set), (Value.int .i64 p1_i)]) h0 = f38_sem p0_set p1_i h0 post := by kernel_rfl

theorem f38_call (p0_set : Int) (p1_i : Int) (h0 : H) (post : Value → H → Prop) (hx : f38_sem p0_set p1_i h0 post) : SemCall Try.prog 38 (List.toArray [(Value.int .i64 p0_set), (Value.int .i64 p1_i)]) h0 post :=
  sem_of_exec (g := f38_hint) mixed Try.func38 (bodyOf_eq (by kernel_rfl)) (by kernel_rfl) ((f38_eq p0_set p1_i h0 post).mpr hx)

/- slices.Clone[[]int,int] -/
def f39_sem (p0_s : SV) (h0 : H) (post : Value → H → Prop) : Prop :=
  VIf (Option.isNone p0_s.a) (
    VRet h0 (Value.slice none 0 0) post) (
    H.new h0 [] fun r1 h2 =>
    appVC Go.Proofs.Try.prog 30 (Value.slice (some (Addr.mk r1 0 none)) 0 0) (Value.slice p0_s.a p0_s.len p0_s.cap) h2 fun x3 h4 =>
    VRet h4 (Value.slice x3.a x3.len x3.cap) post)

def f39_hint : Hint := .leaf

theorem f39_eq (p0_s : SV) (h0 : H) (post : Value → H → Prop) : exec Try.prog (bodyOf Try.f39) f39_hint (retQ Try.prog Try.f39 post) (F0 [(Value.slice p0_s.a p0_s.len p0_s.cap)]) h0 = f39_sem p0_s h0 post := by kernel_rfl

theorem f39_call (p0_s : SV) (h0 : H) (post : Value → H → Prop) (hx : f39_sem p0_s h0 post) : SemCall Try.prog 39 (List.toArray [(Value.slice p0_s.a p0_s.len p0_s.cap)]) h0 post :=
  sem_of_exec (g := f39_hint) mixed Try.func39 (bodyOf_eq (by kernel_rfl)) (by kernel_rfl) ((f39_eq p0_s h0 post).mpr hx)

/- slices.Delete[[]int,int] -/
def f40_sem (p0_s : SV) (p1_i : Int) (p2_j : Int) (h0 : H) (post : Value → H → Prop) : Prop :=
  0 ≤ ((p0_s.len : Nat) : Int) ∧ ((p0_s.len : Nat) : Int) ≤ ((p0_s.cap : Nat) : Int) ∧ 0 ≤ p2_j ∧ p2_j ≤ ((p0_s.len : Nat) : Int) ∧ 0 ≤ p1_i ∧ p1_i ≤ p2_j ∧
  VIf (p1_i == p2_j) (
    VRet h0 (Value.slice p0_s.a p0_s.len p0_s.cap) post) (
    0 ≤ p1_i ∧ p1_i ≤ ((p0_s.cap : Nat) : Int) ∧
    0 ≤ p2_j ∧ p2_j ≤ ((p0_s.len : Nat) : Int) ∧
    appVC Go.Proofs.Try.prog 30 (Value.slice p0_s.a ((p1_i).toNat) p0_s.cap) (Value.slice (if p0_s.cap = (p2_j).toNat then p0_s.a else Option.map (fun z => Addr.add z ((p2_j).toNat * 1)) p0_s.a) (p0_s.len - (p2_j).toNat) (p0_s.cap - (p2_j).toNat)) h0 fun x1 h2 =>
    0 ≤ ((p0_s.len : Nat) : Int) ∧ ((p0_s.len : Nat) : Int) ≤ ((x1.cap : Nat) : Int) ∧ 0 ≤ ((x1.len : Nat) : Int) ∧ ((x1.len : Nat) : Int) ≤ ((p0_s.len : Nat) : Int) ∧
    clearVC Go.Proofs.Try.prog 30 (Value.slice (if x1.cap = (((x1.len : Nat) : Int)).toNat then x1.a else Option.map (fun z => Addr.add z ((((x1.len : Nat) : Int)).toNat * 1)) x1.a) ((((p0_s.len : Nat) : Int)).toNat - (((x1.len : Nat) : Int)).toNat) (x1.cap - (((x1.len : Nat) : Int)).toNat)) h2 fun h3 =>
    VRet h3 (Value.slice x1.a x1.len x1.cap) post)

def f40_hint : Hint := (.node .leaf (.node .leaf (.node .leaf (.node .leaf (.node (.tail 6) .leaf)))))

theorem f40_eq (p0_s : SV) (p1_i : Int) (p2_j : Int) (h0 : H) (post : Value → H → Prop) : exec Try.prog (bodyOf Try.f40) f40_hint (retQ Try.prog Try.f40 post) (F0 [(Value.slice p0_s.a p0_s.len p0_s.cap), (Value.int .i64 p1_i), (Value.int .i64 p2_j)]) h0 = f40_sem p0_s p1_i p2_j h0 post := by kernel_rfl

theorem f40_call (p0_s : SV) (p1_i : Int) (p2_j : Int) (h0 : H) (post : Value → H → Prop) (hx : f40_sem p0_s p1_i p2_j h0 post) : SemCall Try.prog 40 (List.toArray [(Value.slice p0_s.a p0_s.len p0_s.cap), (Value.int .i64 p1_i), (Value.int .i64 p2_j)]) h0 post :=
  sem_of_exec (g := f40_hint) mixed Try.func40 (bodyOf_eq (by kernel_rfl)) (by kernel_rfl) ((f40_eq p0_s p1_i p2_j h0 post).mpr hx)

/- slices.Contains[[]int,int] -/
def f41_sem (p0_s : SV) (p1_v : Int) (h0 : H) (post : Value → H → Prop) : Prop :=
  SemCall Go.Proofs.Try.prog 48 (List.toArray [(Value.slice p0_s.a p0_s.len p0_s.cap), (Value.int .i64 p1_v)]) h0 fun v1 h2 =>
  ∃ x3 : Int, v1 = (Value.int .i64 x3) ∧
  VRet h2 (Value.bool (decide (x3 ≥ (0 : Int)))) post

def f41_hint : Hint := .leaf

theorem f41_eq (p0_s : SV) (p1_v : Int) (h0 : H) (post : Value → H → Prop) : exec Try.prog (bodyOf Try.f41) f41_hint (retQ Try.prog Try.f41 post) (F0 [(Value.slice p0_s.a p0_s.len p0_s.cap), (Value.int .i64 p1_v)]) h0 = f41_sem p0_s p1_v h0 post := by kernel_rfl

theorem f41_call (p0_s : SV) (p1_v : Int) (h0 : H) (post : Value → H → Prop) (hx : f41_sem p0_s p1_v h0 post) : SemCall Try.prog 41 (List.toArray [(Value.slice p0_s.a p0_s.len p0_s.cap), (Value.int .i64 p1_v)]) h0 post :=
  sem_of_exec (g := f41_hint) mixed Try.func41 (bodyOf_eq (by kernel_rfl)) (by kernel_rfl) ((f41_eq p0_s p1_v h0 post).mpr hx)

/- slices.ContainsFunc[[]latchgarth/rw.want,latchgarth/rw.want] -/
def f43_sem (p0_s : SV) (p1_f : Value) (h0 : H) (post : Value → H → Prop) : Prop :=
  SemCall Go.Proofs.Try.prog 49 (List.toArray [(Value.slice p0_s.a p0_s.len p0_s.cap), p1_f]) h0 fun v1 h2 =>
  ∃ x3 : Int, v1 = (Value.int .i64 x3) ∧
  VRet h2 (Value.bool (decide (x3 ≥ (0 : Int)))) post

def f43_hint : Hint := .leaf

theorem f43_eq (p0_s : SV) (p1_f : Value) (h0 : H) (post : Value → H → Prop) : exec Try.prog (bodyOf Try.f43) f43_hint (retQ Try.prog Try.f43 post) (F0 [(Value.slice p0_s.a p0_s.len p0_s.cap), p1_f]) h0 = f43_sem p0_s p1_f h0 post := by kernel_rfl

theorem f43_call (p0_s : SV) (p1_f : Value) (h0 : H) (post : Value → H → Prop) (hx : f43_sem p0_s p1_f h0 post) : SemCall Try.prog 43 (List.toArray [(Value.slice p0_s.a p0_s.len p0_s.cap), p1_f]) h0 post :=
  sem_of_exec (g := f43_hint) mixed Try.func43 (bodyOf_eq (by kernel_rfl)) (by kernel_rfl) ((f43_eq p0_s p1_f h0 post).mpr hx)

/- (*latchgarth/rw.Lock).Ask$1 -/
def f44_sem (p0_0_w : Int) (p0_1_w : Bool) (c0 : Addr) (h0 : H) (post : Value → H → Prop) : Prop :=
  H.new h0 [(Value.int .i64 p0_0_w), (Value.bool p0_1_w)] fun r1 h2 =>
  ∃ x3 : Int, H.rd h2 (Addr.add (Addr.add (Addr.mk r1 0 none) 0) 0) (Value.int .i64 x3) ∧
  ∃ x4 : Int, H.rd h2 (Addr.add c0 0) (Value.int .i64 x4) ∧
  VRet h2 (Value.bool (x3 == x4)) post

def f44_hint : Hint := .leaf

theorem f44_eq (p0_0_w : Int) (p0_1_w : Bool) (c0 : Addr) (h0 : H) (post : Value → H → Prop) : exec Try.prog (bodyOf Try.f44) f44_hint (retQ Try.prog Try.f44 post) (F0 [(Value.agg (List.toArray [(Value.int .i64 p0_0_w), (Value.bool p0_1_w)])), (Value.pointer (some c0))]) h0 = f44_sem p0_0_w p0_1_w c0 h0 post := by kernel_rfl

theorem f44_call (p0_0_w : Int) (p0_1_w : Bool) (c0 : Addr) (h0 : H) (post : Value → H → Prop) (hx : f44_sem p0_0_w p0_1_w c0 h0 post) : SemCall Try.prog 44 (List.toArray [(Value.agg (List.toArray [(Value.int .i64 p0_0_w), (Value.bool p0_1_w)])), (Value.pointer (some c0))]) h0 post :=
  sem_of_exec (g := f44_hint) mixed Try.func44 (bodyOf_eq (by kernel_rfl)) (by kernel_rfl) ((f44_eq p0_0_w p0_1_w c0 h0 post).mpr hx)

/- (*latchgarth/rw.Lock).fits -/
def f45_sem (p0_l : Option Addr) (p1_0_w : Int) (p1_1_w : Bool) (h0 : H) (post : Value → H → Prop) : Prop :=
  H.new h0 [(Value.int .i64 p1_0_w), (Value.bool p1_1_w)] fun r1 h2 =>
  ∃ R3 : Bool → H → Prop, (
    ∃ a4 : Addr, p0_l = some a4 ∧
    ∃ x5 : Int, H.rd h2 (Addr.add (Addr.add a4 1) 0) (Value.int .i64 x5) ∧
    VIf (x5 == (0 : Int)) (
      ∃ x6 : Bool, H.rd h2 (Addr.add (Addr.add (Addr.mk r1 0 none) 1) 0) (Value.bool x6) ∧
      VIf (!x6) (
        (∃ h7, Gh h2 h7 ∧ R3 true h7)) (
        ∃ a8 : Addr, p0_l = some a8 ∧
        ∃ x9 : Int, H.rd h2 (Addr.add (Addr.add a8 0) 0) (Value.int .i64 x9) ∧
        (∃ h10, Gh h2 h10 ∧ R3 (x9 == (0 : Int)) h10))) (
      (∃ h11, Gh h2 h11 ∧ R3 false h11))) ∧
  ∀ (_ : F) (x12 : Bool) (h13 : H), R3 x12 h13 →
  VRet h13 (Value.bool x12) post

def f45_hint : Hint := (.node .leaf (.node (.join [(4, .bool)] .leaf) .leaf))

theorem f45_eq (p0_l : Option Addr) (p1_0_w : Int) (p1_1_w : Bool) (h0 : H) (post : Value → H → Prop) : exec Try.prog (bodyOf Try.f45) f45_hint (retQ Try.prog Try.f45 post) (F0 [(Value.pointer p0_l), (Value.agg (List.toArray [(Value.int .i64 p1_0_w), (Value.bool p1_1_w)]))]) h0 = f45_sem p0_l p1_0_w p1_1_w h0 post := by kernel_rfl

theorem f45_call (p0_l : Option Addr) (p1_0_w : Int) (p1_1_w : Bool) (h0 : H) (post : Value → H → Prop) (hx : f45_sem p0_l p1_0_w p1_1_w h0 post) : SemCall Try.prog 45 (List.toArray [(Value.pointer p0_l), (Value.agg (List.toArray [(Value.int .i64 p1_0_w), (Value.bool p1_1_w)]))]) h0 post :=
  sem_of_exec (g := f45_hint) mixed Try.func45 (bodyOf_eq (by kernel_rfl)) (by kernel_rfl) ((f45_eq p0_l p1_0_w p1_1_w h0 post).mpr hx)

/- (*latchgarth/rw.Lock).has -/
def f46_sem (p0_l : Option Addr) (p1_0_w : Int) (p1_1_w : Bool) (h0 : H) (post : Value → H → Prop) : Prop :=
  H.new h0 [(Value.int .i64 p1_0_w), (Value.bool p1_1_w)] fun r1 h2 =>
  ∃ x3 : Bool, H.rd h2 (Addr.add (Addr.add (Addr.mk r1 0 none) 1) 0) (Value.bool x3) ∧
  VIf x3 (
    ∃ x4 : Int, H.rd h2 (Addr.add (Addr.add (Addr.mk r1 0 none) 0) 0) (Value.int .i64 x4) ∧
    In64 (x4 + (1 : Int)) ∧
    ∃ a5 : Addr, p0_l = some a5 ∧
    H.wr h2 (Addr.add a5 1) ([(Value.int .i64 (x4 + (1 : Int)))]) fun h6 =>
    VRet h6 (Value.tuple (List.toArray [])) post) (
    ∃ a7 : Addr, p0_l = some a7 ∧
    ∃ x8 : Int, H.rd h2 (Addr.add (Addr.add a7 0) 0) (Value.int .i64 x8) ∧
    ∃ x9 : Int, H.rd h2 (Addr.add (Addr.add (Addr.mk r1 0 none) 0) 0) (Value.int .i64 x9) ∧
    0 ≤ x9 ∧ x9 ≤ 63 ∧ In64 ((1 : Int) * 2 ^ (x9).toNat) ∧
    ∃ a10 : Addr, p0_l = some a10 ∧
    H.wr h2 (Addr.add a10 0) ([(Value.int .i64 (bitsV .or x8 ((1 : Int) * 2 ^ (x9).toNat)))]) fun h11 =>
    VRet h11 (Value.tuple (List.toArray [])) post)

def f46_hint : Hint := (.node .leaf (.node .leaf (.node .leaf (.tail 10))))

theorem f46_eq (p0_l : Option Addr) (p1_0_w : Int) (p1_1_w : Bool) (h0 : H) (post : Value → H → Prop) : exec Try.prog (bodyOf Try.f46) f46_hint (retQ Try.prog Try.f46 post) (F0 [(Value.pointer p0_l), (Value.agg (List.toArray [(Value.int .i64 p1_0_w), (Value.bool p1_1_w)]))]) h0 = f46_sem p0_l p1_0_w p1_1_w h0 post := by kernel_rfl

theorem f46_call (p0_l : Option Addr) (p1_0_w : Int) (p1_1_w : Bool) (h0 : H) (post : Value → H → Prop) (hx : f46_sem p0_l p1_0_w p1_1_w h0 post) : SemCall Try.prog 46 (List.toArray [(Value.pointer p0_l), (Value.agg (List.toArray [(Value.int .i64 p1_0_w), (Value.bool p1_1_w)]))]) h0 post :=
  sem_of_exec (g := f46_hint) mixed Try.func46 (bodyOf_eq (by kernel_rfl)) (by kernel_rfl) ((f46_eq p0_l p1_0_w p1_1_w h0 post).mpr hx)

/- slices.Index[[]int,int] -/
def f48_L1 (p0_s : SV) (p1_v : Int) (post : Value → H → Prop) (R1 : H → Prop) (I2 : Nat → Int → H → Prop) (n3 : Nat) (x6 : Int) (h7 : H) : Prop :=
  VIf (decide (x6 < ((p0_s.len : Nat) : Int))) (
    ∃ b8 : Addr, p0_s.a = some b8 ∧ 0 ≤ x6 ∧ x6 < ((p0_s.len : Nat) : Int) ∧
    ∃ x9 : Int, H.rd h7 (Addr.add (Addr.add b8 ((x6).toNat * 1)) 0) (Value.int .i64 x9) ∧
    VIf (p1_v == x9) (
      VRet h7 (Value.int .i64 x6) post) (
      In64 (x6 + (1 : Int)) ∧
      ∃ m4, m4 < n3 ∧ (∃ h10, Gh h7 h10 ∧ I2 m4 (x6 + (1 : Int)) h10))) (
    (∃ h11, Gh h7 h11 ∧ R1 h11))

def f48_sem (p0_s : SV) (p1_v : Int) (h0 : H) (post : Value → H → Prop) : Prop :=
  ∃ R1 : H → Prop, (
    ∃ I2 : Nat → Int → H → Prop, (∃ n3, (∃ h5, Gh h0 h5 ∧ I2 n3 (0 : Int) h5)) ∧
    ∀ (n3 : Nat) (_ : F) (x6 : Int) (h7 : H), I2 n3 x6 h7 →
    f48_L1 p0_s p1_v post R1 I2 n3 x6 h7) ∧
  ∀ (_ : F) (h12 : H), R1 h12 →
  VRet h12 (Value.int .i64 (-1 : Int)) post

def f48_hint : Hint := (.node .leaf (.node (.node .leaf (.join [] (.node (.loop [(8, .int)] .leaf) .leaf))) .leaf))

theorem f48_eq (p0_s : SV) (p1_v : Int) (h0 : H) (post : Value → H → Prop) : exec Try.prog (bodyOf Try.f48) f48_hint (retQ Try.prog Try.f48 post) (F0 [(Value.slice p0_s.a p0_s.len p0_s.cap), (Value.int .i64 p1_v)]) h0 = f48_sem p0_s p1_v h0 post := by kernel_rfl

theorem f48_call (p0_s : SV) (p1_v : Int) (h0 : H) (post : Value → H → Prop) (hx : f48_sem p0_s p1_v h0 post) : SemCall Try.prog 48 (List.toArray [(Value.slice p0_s.a p0_s.len p0_s.cap), (Value.int .i64 p1_v)]) h0 post :=
  sem_of_exec (g := f48_hint) mixed Try.func48 (bodyOf_eq (by kernel_rfl)) (by kernel_rfl) ((f48_eq p0_s p1_v h0 post).mpr hx)

/- slices.IndexFunc[[]latchgarth/rw.want,latchgarth/rw.want] -/
def f49_L1 (p0_s : SV) (q0_f : Addr) (post : Value → H → Prop) (R1 : H → Prop) (I2 : Nat → Int → H → Prop) (n3 : Nat) (x6 : Int) (h7 : H) : Prop :=
  VIf (decide (x6 < ((p0_s.len : Nat) : Int))) (
    ∃ b8 : Addr, p0_s.a = some b8 ∧ 0 ≤ x6 ∧ x6 < ((p0_s.len : Nat) : Int) ∧
    ∃ x9 : Int, H.rd h7 (Addr.add (Addr.add b8 ((x6).toNat * 2)) 0) (Value.int .i64 x9) ∧
    ∃ x10 : Bool, H.rd h7 (Addr.add (Addr.add b8 ((x6).toNat * 2)) 1) (Value.bool x10) ∧
    SemCall Go.Proofs.Try.prog 44 (List.toArray [(Value.agg (List.toArray [(Value.int .i64 x9), (Value.bool x10)])), (Value.pointer (some q0_f))]) h7 fun v11 h12 =>
    ∃ x13 : Bool, v11 = (Value.bool x13) ∧
    VIf x13 (
      VRet h12 (Value.int .i64 x6) post) (
      In64 (x6 + (1 : Int)) ∧
      ∃ m4, m4 < n3 ∧ (∃ h14, Gh h12 h14 ∧ I2 m4 (x6 + (1 : Int)) h14))) (
    (∃ h15, Gh h7 h15 ∧ R1 h15))

def f49_sem (p0_s : SV) (q0_f : Addr) (h0 : H) (post : Value → H → Prop) : Prop :=
  ∃ R1 : H → Prop, (
    ∃ I2 : Nat → Int → H → Prop, (∃ n3, (∃ h5, Gh h0 h5 ∧ I2 n3 (0 : Int) h5)) ∧
    ∀ (n3 : Nat) (_ : F) (x6 : Int) (h7 : H), I2 n3 x6 h7 →
    f49_L1 p0_s q0_f post R1 I2 n3 x6 h7) ∧
  ∀ (_ : F) (h16 : H), R1 h16 →
  VRet h16 (Value.int .i64 (-1 : Int)) post

def f49_hint : Hint := (.node .leaf (.node (.node .leaf (.join [] (.node (.loop [(8, .int)] .leaf) .leaf))) .leaf))

theorem f49_eq (p0_s : SV) (q0_f : Addr) (h0 : H) (post : Value → H → Prop) : exec Try.prog (bodyOf Try.f49) f49_hint (retQ Try.prog Try.f49 post) (F0 [(Value.slice p0_s.a p0_s.len p0_s.cap), (Value.func (.func 44) #[] #[(Value.pointer (some q0_f))])]) h0 = f49_sem p0_s q0_f h0 post := by kernel_rfl

theorem f49_call (p0_s : SV) (q0_f : Addr) (h0 : H) (post : Value → H → Prop) (hx : f49_sem p0_s q0_f h0 post) : SemCall Try.prog 49 (List.toArray [(Value.slice p0_s.a p0_s.len p0_s.cap), (Value.func (.func 44) #[] #[(Value.pointer (some q0_f))])]) h0 post :=
  sem_of_exec (g := f49_hint) mixed Try.func49 (bodyOf_eq (by kernel_rfl)) (by kernel_rfl) ((f49_eq p0_s q0_f h0 post).mpr hx)

end Go.Proofs.Ytkokdeenniejjaa
