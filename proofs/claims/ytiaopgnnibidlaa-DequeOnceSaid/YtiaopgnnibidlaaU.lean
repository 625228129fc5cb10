import Derived.Test.YtiaopgnnibidlaaT
import Derived.Test.YtiaopgnnibidlaaEngG
import Derived.Test.YtiaopgnnibidlaaRows
namespace Go.Proofs.Ytiaopgnnibidlaa
open Go.Eng
/- latchgarth/latchgarthlaw4.DequeOnce -/
def f6_L1 (post : Value → H → Prop) (x15 : Int) (x16 : SV) (r18 : Nat) (R20 : H → Prop) (I21 : Nat → Int → H → Prop) (n22 : Nat) (x25_i : Int) (h26 : H) : Prop :=
  VIf (decide (x25_i < ((x16.len : Nat) : Int))) (
    ∃ b27 : Addr, x16.a = some b27 ∧ 0 ≤ x25_i ∧ x25_i < ((x16.len : Nat) : Int) ∧
    ∃ x28 : Int, H.rd h26 (Addr.add (Addr.add b27 ((x25_i).toNat * 1)) 0) (Value.int .i64 x28) ∧
    In64 (x15 - (1 : Int)) ∧
    SemCall Go.Proofs.Try.prog 19 (List.toArray [(Value.int .i64 x28), (Value.int .i64 (0 : Int)), (Value.int .i64 (x15 - (1 : Int)))]) h26 fun v29 h30 =>
    ∃ x31 : Bool, v29 = (Value.bool x31) ∧
    VIf (!x31) (
      VRet h30 (Value.bool false) post) (
      ∃ b32 : Addr, x16.a = some b32 ∧ 0 ≤ x25_i ∧ x25_i < ((x16.len : Nat) : Int) ∧
      ∃ x33 : Int, H.rd h30 (Addr.add (Addr.add b32 ((x25_i).toNat * 1)) 0) (Value.int .i64 x33) ∧
      ∃ b34 : Addr, (some (Addr.mk r18 0 none)) = some b34 ∧ 0 ≤ x33 ∧ x33 < ((((400 : Int)).toNat : Nat) : Int) ∧
      ∃ x35 : Int, H.rd h30 (Addr.add (Addr.add b34 ((x33).toNat * 1)) 0) (Value.int .i64 x35) ∧
      In64 (x35 + (1 : Int)) ∧
      ∃ b36 : Addr, (some (Addr.mk r18 0 none)) = some b36 ∧ 0 ≤ x33 ∧ x33 < ((((400 : Int)).toNat : Nat) : Int) ∧
      H.wr h30 (Addr.add b36 ((x33).toNat * 1)) ([(Value.int .i64 (x35 + (1 : Int)))]) fun h37 =>
      In64 (x25_i + (1 : Int)) ∧
      ∃ m23, m23 < n22 ∧ (∃ h38, Gh h37 h38 ∧ I21 m23 (x25_i + (1 : Int)) h38))) (
    (∃ h39, Gh h26 h39 ∧ R20 h39))

def f6_J2 (post : Value → H → Prop) (x17 : SV) (r18 : Nat) (I42 : Nat → Int → H → Prop) (n43 : Nat) (x46_i : Int) (x65 : Bool) (h66 : H) : Prop :=
  VIf x65 (
    VRet h66 (Value.bool false) post) (
    ∃ b67 : Addr, x17.a = some b67 ∧ 0 ≤ x46_i ∧ x46_i < ((x17.len : Nat) : Int) ∧
    ∃ x68 : Int, H.rd h66 (Addr.add (Addr.add b67 ((x46_i).toNat * 1)) 0) (Value.int .i64 x68) ∧
    ∃ b69 : Addr, (some (Addr.mk r18 0 none)) = some b69 ∧ 0 ≤ x68 ∧ x68 < ((((400 : Int)).toNat : Nat) : Int) ∧
    ∃ x70 : Int, H.rd h66 (Addr.add (Addr.add b69 ((x68).toNat * 1)) 0) (Value.int .i64 x70) ∧
    In64 (x70 + (1 : Int)) ∧
    ∃ b71 : Addr, (some (Addr.mk r18 0 none)) = some b71 ∧ 0 ≤ x68 ∧ x68 < ((((400 : Int)).toNat : Nat) : Int) ∧
    H.wr h66 (Addr.add b71 ((x68).toNat * 1)) ([(Value.int .i64 (x70 + (1 : Int)))]) fun h72 =>
    In64 (x46_i + (1 : Int)) ∧
    ∃ m44, m44 < n43 ∧ (∃ h73, Gh h72 h73 ∧ I42 m44 (x46_i + (1 : Int)) h73))

def f6_L3 (post : Value → H → Prop) (x15 : Int) (x17 : SV) (r18 : Nat) (R41 : H → Prop) (I42 : Nat → Int → H → Prop) (n43 : Nat) (x46_i : Int) (h47 : H) : Prop :=
  VIf (decide (x46_i < ((x17.len : Nat) : Int))) (
    ∃ R48 : Bool → H → Prop, (
      ∃ b49 : Addr, x17.a = some b49 ∧ 0 ≤ x46_i ∧ x46_i < ((x17.len : Nat) : Int) ∧
      In64 (x15 - (1 : Int)) ∧
      ∃ x50 : Int, H.rd h47 (Addr.add (Addr.add b49 ((x46_i).toNat * 1)) 0) (Value.int .i64 x50) ∧
      SemCall Go.Proofs.Try.prog 19 (List.toArray [(Value.int .i64 x50), (Value.int .i64 (0 : Int)), (Value.int .i64 (x15 - (1 : Int)))]) h47 fun v51 h52 =>
      ∃ x53 : Bool, v51 = (Value.bool x53) ∧
      VIf (!x53) (
        (
          (∃ h54, Gh h52 h54 ∧ R48 true h54)) ∧
        (
          (∃ h55, Gh h52 h55 ∧ R48 true h55))) (
        VIf (decide (x46_i > (0 : Int))) (
          In64 (x46_i - (1 : Int)) ∧
          ∃ b56 : Addr, x17.a = some b56 ∧ 0 ≤ (x46_i - (1 : Int)) ∧ (x46_i - (1 : Int)) < ((x17.len : Nat) : Int) ∧
          ∃ b57 : Addr, x17.a = some b57 ∧ 0 ≤ x46_i ∧ x46_i < ((x17.len : Nat) : Int) ∧
          (
            ∃ x58 : Int, H.rd h52 (Addr.add (Addr.add b56 (((x46_i - (1 : Int))).toNat * 1)) 0) (Value.int .i64 x58) ∧
            ∃ x59 : Int, H.rd h52 (Addr.add (Addr.add b57 ((x46_i).toNat * 1)) 0) (Value.int .i64 x59) ∧
            (∃ h60, Gh h52 h60 ∧ R48 (decide (x58 ≥ x59)) h60)) ∧
          (
            ∃ x61 : Int, H.rd h52 (Addr.add (Addr.add b57 ((x46_i).toNat * 1)) 0) (Value.int .i64 x61) ∧
            ∃ x62 : Int, H.rd h52 (Addr.add (Addr.add b56 (((x46_i - (1 : Int))).toNat * 1)) 0) (Value.int .i64 x62) ∧
            (∃ h63, Gh h52 h63 ∧ R48 (decide (x62 ≥ x61)) h63))) (
          (∃ h64, Gh h52 h64 ∧ R48 false h64)))) ∧
    ∀ (_ : F) (x65 : Bool) (h66 : H), R48 x65 h66 →
    f6_J2 post x17 r18 I42 n43 x46_i x65 h66) (
    (∃ h74, Gh h47 h74 ∧ R41 h74))

def f6_L4 (post : Value → H → Prop) (x15 : Int) (r18 : Nat) (R76 : H → Prop) (I77 : Nat → Int → H → Prop) (n78 : Nat) (x81_i : Int) (h82 : H) : Prop :=
  VIf (decide (x81_i < x15)) (
    ∃ b83 : Addr, (some (Addr.mk r18 0 none)) = some b83 ∧ 0 ≤ x81_i ∧ x81_i < ((((400 : Int)).toNat : Nat) : Int) ∧
    ∃ x84 : Int, H.rd h82 (Addr.add (Addr.add b83 ((x81_i).toNat * 1)) 0) (Value.int .i64 x84) ∧
    VIf (decide (x84 > (1 : Int))) (
      VRet h82 (Value.bool false) post) (
      In64 (x81_i + (1 : Int)) ∧
      ∃ m79, m79 < n78 ∧ (∃ h85, Gh h82 h85 ∧ I77 m79 (x81_i + (1 : Int)) h85))) (
    (∃ h86, Gh h82 h86 ∧ R76 h86))

def f6_J5 (post : Value → H → Prop) (x6 : Option Addr) (x15 : Int) (x16 : SV) (x17 : SV) (r18 : Nat) (h75 : H) : Prop :=
  ∃ R76 : H → Prop, (
    ∃ I77 : Nat → Int → H → Prop, (∃ n78, (∃ h80, Gh h75 h80 ∧ I77 n78 (0 : Int) h80)) ∧
    ∀ (n78 : Nat) (_ : F) (x81_i : Int) (h82 : H), I77 n78 x81_i h82 →
    f6_L4 post x15 r18 R76 I77 n78 x81_i h82) ∧
  ∀ (_ : F) (h87 : H), R76 h87 →
  SemCall Go.Proofs.Try.prog 20 (List.toArray [(Value.pointer x6)]) h87 fun v88 h89 =>
  ∃ x90 : Int, ∃ x91 : Int, v88 = (Value.tuple (List.toArray [(Value.int .i64 x90), (Value.int .i64 x91)])) ∧
  In64 (x91 - x90) ∧
  In64 (x15 - ((x16.len : Nat) : Int)) ∧
  In64 ((x15 - ((x16.len : Nat) : Int)) - ((x17.len : Nat) : Int)) ∧
  VRet h89 (Value.bool ((x91 - x90) == ((x15 - ((x16.len : Nat) : Int)) - ((x17.len : Nat) : Int)))) post

def f6_sem (p0_n : Int) (p1_steps : SV) (h0 : H) (post : Value → H → Prop) : Prop :=
  SemCall Go.Proofs.Try.prog 16 (List.toArray []) h0 fun v1 h2 =>
  ∃ x3 : Bool, v1 = (Value.bool x3) ∧
  VIf (!x3) (
    VRet h2 (Value.bool false) post) (
    SemCall Go.Proofs.Try.prog 17 (List.toArray [(Value.int .i64 p0_n)]) h2 fun v4 h5 =>
    ∃ x6 : Option Addr, ∃ x7 : Option (TypeId × Value), v4 = (Value.tuple (List.toArray [(Value.pointer x6), (errV x7)])) ∧
    isIfaceV (errV x7) = true ∧
    VIf (!(isNilV (errV x7))) (
      ∃ R8 : Bool → H → Prop, (
        VIf (decide (p0_n < (1 : Int))) (
          (∃ h9, Gh h5 h9 ∧ R8 true h9)) (
          (∃ h10, Gh h5 h10 ∧ R8 (decide (p0_n > (4 : Int))) h10))) ∧
      ∀ (_ : F) (x11 : Bool) (h12 : H), R8 x11 h12 →
      VRet h12 (Value.bool x11) post) (
      SemCall Go.Proofs.Try.prog 18 (List.toArray [(Value.pointer x6), (Value.int .i64 p0_n), (Value.slice p1_steps.a p1_steps.len p1_steps.cap)]) h5 fun v13 h14 =>
      ∃ x15 : Int, ∃ x16 : SV, ∃ x17 : SV, v13 = (Value.tuple (List.toArray [(Value.int .i64 x15), (Value.slice x16.a x16.len x16.cap), (Value.slice x17.a x17.len x17.cap)])) ∧
      0 ≤ (400 : Int) ∧ (400 : Int) ≤ (400 : Int) ∧ ((8 : Nat) : Int) * (400 : Int) ≤ 140737488355328 ∧ (400 : Int) ≤ 1000000000 ∧
      H.new h14 (repl ((400 : Int)).toNat [(Value.int .i64 (0 : Int))]) fun r18 h19 =>
      ∃ R20 : H → Prop, (
        ∃ I21 : Nat → Int → H → Prop, (∃ n22, (∃ h24, Gh h19 h24 ∧ I21 n22 (0 : Int) h24)) ∧
        ∀ (n22 : Nat) (_ : F) (x25_i : Int) (h26 : H), I21 n22 x25_i h26 →
        f6_L1 post x15 x16 r18 R20 I21 n22 x25_i h26) ∧
      ∀ (_ : F) (h40 : H), R20 h40 →
      ∃ R41 : H → Prop, (
        ∃ I42 : Nat → Int → H → Prop, (∃ n43, (∃ h45, Gh h40 h45 ∧ I42 n43 (0 : Int) h45)) ∧
        ∀ (n43 : Nat) (_ : F) (x46_i : Int) (h47 : H), I42 n43 x46_i h47 →
        f6_L3 post x15 x17 r18 R41 I42 n43 x46_i h47) ∧
      ∀ (_ : F) (h75 : H), R41 h75 →
      f6_J5 post x6 x15 x16 x17 r18 h75))

def f6_hint : Hint := (.node .leaf (.node .leaf (.node .leaf (.node .leaf (.node (.node .leaf (.node (.node (.join [(4, .bool)] .leaf) .leaf) .leaf)) (.node .leaf (.node .leaf (.node (.node .leaf (.join [] (.node (.loop [(12, .int)] .leaf) .leaf))) (.node (.node .leaf (.join [] (.node (.loop [(13, .int)] (.node .leaf (.node (.node (.node (.node (.join [(94, .bool)] .any2) .leaf) .leaf) .leaf) .leaf))) .leaf))) (.node (.node .leaf (.join [] (.node (.loop [(14, .int)] .leaf) .leaf))) .leaf))))))))))

theorem f6_eq (p0_n : Int) (p1_steps : SV) (h0 : H) (post : Value → H → Prop) : exec Try.prog (bodyOf Try.f6) f6_hint (retQ Try.prog Try.f6 post) (F0 [(Value.int .i64 p0_n), (Value.slice p1_steps.a p1_steps.len p1_steps.cap)]) h0 = f6_sem p0_n p1_steps h0 post := by kernel_rfl

set_option maxRecDepth 20000 in
theorem f6_call (p0_n : Int) (p1_steps : SV) (h0 : H) (post : Value → H → Prop) (hx : f6_sem p0_n p1_steps h0 post) : SemCall Try.prog 6 (List.toArray [(Value.int .i64 p0_n), (Value.slice p1_steps.a p1_steps.len p1_steps.cap)]) h0 post :=
  sem_of_exec (g := f6_hint) mixed Try.func6 (bodyOf_eq (by kernel_rfl)) (by kernel_rfl) ((f6_eq p0_n p1_steps h0 post).mpr hx)

/- latchgarth/latchgarthlaw4.DequeAlone -/
def f7_J1 (post : Value → H → Prop) (x6 : Option Addr) (R37 : Int → H → Prop) (I38 : Nat → Int → Int → H → Prop) (n39 : Nat) (x42_got : Int) (x43_k : Int) (x48 : Bool) (h49 : H) : Prop :=
  VIf x48 (
    SemCall Go.Proofs.Try.prog 23 (List.toArray [(Value.pointer x6), (Value.int .i64 (0 : Int))]) h49 fun v50 h51 =>
    ∃ x52 : Bool, ∃ x53 : Int, ∃ x54 : Option (TypeId × Value), v50 = (Value.tuple (List.toArray [(Value.bool x52), (Value.int .i64 x53), (errV x54)])) ∧
    isIfaceV (errV x54) = true ∧
    VIf (!(isNilV (errV x54))) (
      VRet h51 (Value.bool false) post) (
      VIf x52 (
        In64 (x43_k + (1 : Int)) ∧
        ∃ m40, m40 < n39 ∧ (∃ h55, Gh h51 h55 ∧ I38 m40 x53 (x43_k + (1 : Int)) h55)) (
        In64 (x43_k + (1 : Int)) ∧
        ∃ m40, m40 < n39 ∧ (∃ h56, Gh h51 h56 ∧ I38 m40 x42_got (x43_k + (1 : Int)) h56)))) (
    (∃ h57, Gh h49 h57 ∧ R37 x42_got h57))

def f7_L2 (post : Value → H → Prop) (x6 : Option Addr) (R37 : Int → H → Prop) (I38 : Nat → Int → Int → H → Prop) (n39 : Nat) (x42_got : Int) (x43_k : Int) (h44 : H) : Prop :=
  ∃ R45 : Bool → H → Prop, (
    VIf (decide (x43_k < (6 : Int))) (
      (∃ h46, Gh h44 h46 ∧ R45 (x42_got == (-3 : Int)) h46)) (
      (∃ h47, Gh h44 h47 ∧ R45 false h47))) ∧
  ∀ (_ : F) (x48 : Bool) (h49 : H), R45 x48 h49 →
  f7_J1 post x6 R37 I38 n39 x42_got x43_k x48 h49

def f7_J3 (p0_kinds : SV) (post : Value → H → Prop) (x13_has : SV) (x14_i : Int) (R21 : SV → H → Prop) (x58_got : Int) (h59 : H) : Prop :=
  ∃ b60 : Addr, p0_kinds.a = some b60 ∧ 0 ≤ x14_i ∧ x14_i < ((p0_kinds.len : Nat) : Int) ∧
  ∃ x61 : Int, H.rd h59 (Addr.add (Addr.add b60 ((x14_i).toNat * 1)) 0) (Value.int .i64 x61) ∧
  VIf (decide (x61 ≥ (0 : Int))) (
    VIf (((x13_has.len : Nat) : Int) == (8 : Int)) (
      VIf (x58_got != (-2 : Int)) (
        VRet h59 (Value.bool false) post) (
        (∃ h62, Gh h59 h62 ∧ R21 x13_has h62))) (
      H.new h59 [(Value.int .i64 x14_i)] fun r63 h64 =>
      appVC Go.Proofs.Try.prog 36 (Value.slice x13_has.a x13_has.len x13_has.cap) (Value.slice (some (Addr.mk r63 0 none)) 1 1) h64 fun x65 h66 =>
      VIf (x58_got != (-1 : Int)) (
        VRet h66 (Value.bool false) post) (
        (∃ h67, Gh h66 h67 ∧ R21 x65 h67)))) (
    VIf (((x13_has.len : Nat) : Int) == (0 : Int)) (
      VIf (x58_got != (-1 : Int)) (
        VRet h59 (Value.bool false) post) (
        (∃ h68, Gh h59 h68 ∧ R21 x13_has h68))) (
      In64 (((x13_has.len : Nat) : Int) - (1 : Int)) ∧
      ∃ b69 : Addr, x13_has.a = some b69 ∧ 0 ≤ (((x13_has.len : Nat) : Int) - (1 : Int)) ∧ (((x13_has.len : Nat) : Int) - (1 : Int)) < ((x13_has.len : Nat) : Int) ∧
      ∃ x70 : Int, H.rd h59 (Addr.add (Addr.add b69 (((((x13_has.len : Nat) : Int) - (1 : Int))).toNat * 1)) 0) (Value.int .i64 x70) ∧
      VIf (x58_got != x70) (
        VRet h59 (Value.bool false) post) (
        In64 (((x13_has.len : Nat) : Int) - (1 : Int)) ∧
        0 ≤ (((x13_has.len : Nat) : Int) - (1 : Int)) ∧ (((x13_has.len : Nat) : Int) - (1 : Int)) ≤ ((x13_has.cap : Nat) : Int) ∧
        (∃ h71, Gh h59 h71 ∧ R21 (SV.mk x13_has.a (((((x13_has.len : Nat) : Int) - (1 : Int))).toNat) x13_has.cap) h71))))

def f7_J4 (p0_kinds : SV) (post : Value → H → Prop) (x6 : Option Addr) (R8 : H → Prop) (I9 : Nat → SV → Int → H → Prop) (n10 : Nat) (x13_has : SV) (x14_i : Int) (x19 : Bool) (h20 : H) : Prop :=
  VIf x19 (
    ∃ R21 : SV → H → Prop, (
      ∃ b22 : Addr, p0_kinds.a = some b22 ∧ 0 ≤ x14_i ∧ x14_i < ((p0_kinds.len : Nat) : Int) ∧
      ∃ x23 : Int, H.rd h20 (Addr.add (Addr.add b22 ((x14_i).toNat * 1)) 0) (Value.int .i64 x23) ∧
      ∃ R24 : Option (TypeId × Value) → H → Prop, (
        VIf (decide (x23 ≥ (0 : Int))) (
          SemCall Go.Proofs.Try.prog 21 (List.toArray [(Value.pointer x6), (Value.int .i64 x14_i)]) h20 fun v25 h26 =>
          ∃ x27 : Option (TypeId × Value), v25 = (errV x27) ∧
          (∃ o28, (errV x27) = errV o28 ∧ ∃ h29, Gh h26 h29 ∧ R24 o28 h29)) (
          SemCall Go.Proofs.Try.prog 22 (List.toArray [(Value.pointer x6)]) h20 fun v30 h31 =>
          ∃ x32 : Option (TypeId × Value), v30 = (errV x32) ∧
          (∃ o33, (errV x32) = errV o33 ∧ ∃ h34, Gh h31 h34 ∧ R24 o33 h34))) ∧
      ∀ (_ : F) (x35_e : Option (TypeId × Value)) (h36 : H), R24 x35_e h36 →
      isIfaceV (errV x35_e) = true ∧
      VIf (!(isNilV (errV x35_e))) (
        VRet h36 (Value.bool false) post) (
        ∃ R37 : Int → H → Prop, (
          ∃ I38 : Nat → Int → Int → H → Prop, (∃ n39, (∃ h41, Gh h36 h41 ∧ I38 n39 (-3 : Int) (0 : Int) h41)) ∧
          ∀ (n39 : Nat) (_ : F) (x42_got : Int) (x43_k : Int) (h44 : H), I38 n39 x42_got x43_k h44 →
          f7_L2 post x6 R37 I38 n39 x42_got x43_k h44) ∧
        ∀ (_ : F) (x58_got : Int) (h59 : H), R37 x58_got h59 →
        f7_J3 p0_kinds post x13_has x14_i R21 x58_got h59)) ∧
    ∀ (_ : F) (x72_has : SV) (h73 : H), R21 x72_has h73 →
    In64 (x14_i + (1 : Int)) ∧
    ∃ m11, m11 < n10 ∧ (∃ h74, Gh h73 h74 ∧ I9 m11 x72_has (x14_i + (1 : Int)) h74)) (
    (∃ h75, Gh h20 h75 ∧ R8 h75))

def f7_L5 (p0_kinds : SV) (post : Value → H → Prop) (x6 : Option Addr) (R8 : H → Prop) (I9 : Nat → SV → Int → H → Prop) (n10 : Nat) (x13_has : SV) (x14_i : Int) (h15 : H) : Prop :=
  ∃ R16 : Bool → H → Prop, (
    VIf (decide (x14_i < ((p0_kinds.len : Nat) : Int))) (
      (∃ h17, Gh h15 h17 ∧ R16 (decide (x14_i < (100 : Int))) h17)) (
      (∃ h18, Gh h15 h18 ∧ R16 false h18))) ∧
  ∀ (_ : F) (x19 : Bool) (h20 : H), R16 x19 h20 →
  f7_J4 p0_kinds post x6 R8 I9 n10 x13_has x14_i x19 h20

def f7_sem (p0_kinds : SV) (h0 : H) (post : Value → H → Prop) : Prop :=
  SemCall Go.Proofs.Try.prog 16 (List.toArray []) h0 fun v1 h2 =>
  ∃ x3 : Bool, v1 = (Value.bool x3) ∧
  VIf (!x3) (
    VRet h2 (Value.bool false) post) (
    SemCall Go.Proofs.Try.prog 17 (List.toArray [(Value.int .i64 (1 : Int))]) h2 fun v4 h5 =>
    ∃ x6 : Option Addr, ∃ x7 : Option (TypeId × Value), v4 = (Value.tuple (List.toArray [(Value.pointer x6), (errV x7)])) ∧
    isIfaceV (errV x7) = true ∧
    VIf (!(isNilV (errV x7))) (
      VRet h5 (Value.bool false) post) (
      ∃ R8 : H → Prop, (
        ∃ I9 : Nat → SV → Int → H → Prop, (∃ n10, (∃ h12, Gh h5 h12 ∧ I9 n10 (SV.mk none 0 0) (0 : Int) h12)) ∧
        ∀ (n10 : Nat) (_ : F) (x13_has : SV) (x14_i : Int) (h15 : H), I9 n10 x13_has x14_i h15 →
        f7_L5 p0_kinds post x6 R8 I9 n10 x13_has x14_i h15) ∧
      ∀ (_ : F) (h76 : H), R8 h76 →
      VRet h76 (Value.bool true) post))

def f7_hint : Hint := (.node .leaf (.node .leaf (.node .leaf (.node .leaf (.node .leaf (.node .leaf (.node (.node .leaf (.join [] (.node (.loop [(6, .sl), (7, .int)] (.node (.node (.join [(31, .bool)] .leaf) .leaf) (.node (.join [(6, .sl)] (.node (.node .leaf (.node (.node .leaf (.join [(8, .err)] .leaf)) (.node .leaf (.node .leaf (.node (.node .leaf (.join [(9, .int)] (.node (.loop [(9, .int), (10, .int)] (.node (.node (.join [(51, .bool)] .leaf) .leaf) .leaf)) .leaf))) .leaf))))) .leaf)) .leaf))) .leaf))) .leaf)))))))

theorem f7_eq (p0_kinds : SV) (h0 : H) (post : Value → H → Prop) : exec Try.prog (bodyOf Try.f7) f7_hint (retQ Try.prog Try.f7 post) (F0 [(Value.slice p0_kinds.a p0_kinds.len p0_kinds.cap)]) h0 = f7_sem p0_kinds h0 post := by kernel_rfl

set_option maxRecDepth 20000 in
theorem f7_call (p0_kinds : SV) (h0 : H) (post : Value → H → Prop) (hx : f7_sem p0_kinds h0 post) : SemCall Try.prog 7 (List.toArray [(Value.slice p0_kinds.a p0_kinds.len p0_kinds.cap)]) h0 post :=
  sem_of_exec (g := f7_hint) mixed Try.func7 (bodyOf_eq (by kernel_rfl)) (by kernel_rfl) ((f7_eq p0_kinds h0 post).mpr hx)

/- latchgarth/latchgarthlaw4.dequeFact -/
def f16_L1 (post : Value → H → Prop) (x3 : Option Addr) (R13 : H → Prop) (I14 : Nat → Int → H → Prop) (n15 : Nat) (x18_i : Int) (h19 : H) : Prop :=
  VIf (decide (x18_i < (3 : Int))) (
    SemCall Go.Proofs.Try.prog 23 (List.toArray [(Value.pointer x3), (Value.int .i64 (0 : Int))]) h19 fun v20 h21 =>
    ∃ x22 : Bool, ∃ x23 : Int, ∃ x24 : Option (TypeId × Value), v20 = (Value.tuple (List.toArray [(Value.bool x22), (Value.int .i64 x23), (errV x24)])) ∧
    isIfaceV (errV x24) = true ∧
    VIf (!(isNilV (errV x24))) (
      VRet h21 (Value.bool false) post) (
      In64 (x18_i + (1 : Int)) ∧
      ∃ m16, m16 < n15 ∧ (∃ h25, Gh h21 h25 ∧ I14 m16 (x18_i + (1 : Int)) h25))) (
    (∃ h26, Gh h19 h26 ∧ R13 h26))

def f16_J2 (post : Value → H → Prop) (x3 : Option Addr) (h27 : H) : Prop :=
  SemCall Go.Proofs.Try.prog 20 (List.toArray [(Value.pointer x3)]) h27 fun v28 h29 =>
  ∃ x30 : Int, ∃ x31 : Int, v28 = (Value.tuple (List.toArray [(Value.int .i64 x30), (Value.int .i64 x31)])) ∧
  ∃ R32 : Bool → H → Prop, (
    VIf (x30 == (0 : Int)) (
      VIf (x31 == (1 : Int)) (
        SemCall Go.Proofs.Try.prog 28 (List.toArray [(Value.pointer x3), (Value.int .i64 (1 : Int))]) h29 fun v33 h34 =>
        ∃ x35 : Option (TypeId × Value), v33 = (errV x35) ∧
        isIfaceV (errV x35) = true ∧
        (∃ h36, Gh h34 h36 ∧ R32 (isNilV (errV x35)) h36)) (
        (∃ h37, Gh h29 h37 ∧ R32 false h37))) (
      (∃ h38, Gh h29 h38 ∧ R32 false h38))) ∧
  ∀ (_ : F) (x39 : Bool) (h40 : H), R32 x39 h40 →
  VRet h40 (Value.bool x39) post

def f16_sem (h0 : H) (post : Value → H → Prop) : Prop :=
  SemCall Go.Proofs.Try.prog 17 (List.toArray [(Value.int .i64 (2 : Int))]) h0 fun v1 h2 =>
  ∃ x3 : Option Addr, ∃ x4 : Option (TypeId × Value), v1 = (Value.tuple (List.toArray [(Value.pointer x3), (errV x4)])) ∧
  ∃ R5 : Bool → H → Prop, (
    isIfaceV (errV x4) = true ∧
    VIf (!(isNilV (errV x4))) (
      (∃ h6, Gh h2 h6 ∧ R5 true h6)) (
      SemCall Go.Proofs.Try.prog 21 (List.toArray [(Value.pointer x3), (Value.int .i64 (5 : Int))]) h2 fun v7 h8 =>
      ∃ x9 : Option (TypeId × Value), v7 = (errV x9) ∧
      isIfaceV (errV x9) = true ∧
      (∃ h10, Gh h8 h10 ∧ R5 (!(isNilV (errV x9))) h10))) ∧
  ∀ (_ : F) (x11 : Bool) (h12 : H), R5 x11 h12 →
  VIf x11 (
    VRet h12 (Value.bool false) post) (
    ∃ R13 : H → Prop, (
      ∃ I14 : Nat → Int → H → Prop, (∃ n15, (∃ h17, Gh h12 h17 ∧ I14 n15 (0 : Int) h17)) ∧
      ∀ (n15 : Nat) (_ : F) (x18_i : Int) (h19 : H), I14 n15 x18_i h19 →
      f16_L1 post x3 R13 I14 n15 x18_i h19) ∧
    ∀ (_ : F) (h27 : H), R13 h27 →
    f16_J2 post x3 h27)

def f16_hint : Hint := (.node .leaf (.node .leaf (.node (.node (.join [(19, .bool)] .leaf) .leaf) (.node (.node .leaf (.join [] (.node (.loop [(3, .int)] .leaf) .leaf))) (.node .leaf (.node (.join [(0, .bool)] .leaf) .leaf))))))

theorem f16_eq (h0 : H) (post : Value → H → Prop) : exec Try.prog (bodyOf Try.f16) f16_hint (retQ Try.prog Try.f16 post) (F0 []) h0 = f16_sem h0 post := by kernel_rfl

set_option maxRecDepth 20000 in
theorem f16_call (h0 : H) (post : Value → H → Prop) (hx : f16_sem h0 post) : SemCall Try.prog 16 (List.toArray []) h0 post :=
  sem_of_exec (g := f16_hint) mixed Try.func16 (bodyOf_eq (by kernel_rfl)) (by kernel_rfl) ((f16_eq h0 post).mpr hx)

/- latchgarth/deque.New -/
def f17_sem (p0_n : Int) (h0 : H) (post : Value → H → Prop) : Prop :=
  SemCall Go.Proofs.Try.prog 29 (List.toArray [(Value.int .i64 p0_n)]) h0 fun v1 h2 =>
  ∃ x3 : Option (TypeId × Value), v1 = (errV x3) ∧
  isIfaceV (errV x3) = true ∧
  VIf (!(isNilV (errV x3))) (
    VRet h2 (Value.tuple (List.toArray [(Value.pointer none), (errV x3)])) post) (
    0 ≤ p0_n ∧ p0_n ≤ p0_n ∧ ((32 : Nat) : Int) * p0_n ≤ 140737488355328 ∧ p0_n ≤ 1000000000 ∧
    H.new h2 (repl (p0_n).toNat [(Value.int .i64 (0 : Int)), (Value.int .i64 (0 : Int)), (Value.int .i64 (0 : Int)), (Value.int .i64 (0 : Int))]) fun r4 h5 =>
    H.new h5 [(Value.int .i64 (0 : Int)), (Value.int .i64 (0 : Int)), (Value.int .i64 (0 : Int)), (Value.int .i64 (0 : Int)), (Value.int .i64 (0 : Int)), (Value.int .i64 (0 : Int)), (Value.int .i64 (0 : Int)), (Value.int .i64 (0 : Int)), (Value.int .i64 (0 : Int)), (Value.int .i64 (0 : Int)), (Value.slice (some (Addr.mk r4 0 none)) ((p0_n).toNat) ((p0_n).toNat))] fun r6 h7 =>
    VRet h7 (Value.tuple (List.toArray [(Value.pointer (some (Addr.mk r6 0 none))), Value.nilIface])) post)

def f17_hint : Hint := .leaf

theorem f17_eq (p0_n : Int) (h0 : H) (post : Value → H → Prop) : exec Try.prog (bodyOf Try.f17) f17_hint (retQ Try.prog Try.f17 post) (F0 [(Value.int .i64 p0_n)]) h0 = f17_sem p0_n h0 post := by kernel_rfl

set_option maxRecDepth 20000 in
theorem f17_call (p0_n : Int) (h0 : H) (post : Value → H → Prop) (hx : f17_sem p0_n h0 post) : SemCall Try.prog 17 (List.toArray [(Value.int .i64 p0_n)]) h0 post :=
  sem_of_exec (g := f17_hint) mixed Try.func17 (bodyOf_eq (by kernel_rfl)) (by kernel_rfl) ((f17_eq p0_n h0 post).mpr hx)

/- latchgarth/latchgarthlaw4.taken -/
def f18_J1 (p0_d : Option Addr) (x6_next : Int) (x7_pushes : Bool) (x25_l : SV) (R32 : Int → Bool → H → Prop) (x40 : Bool) (h41 : H) : Prop :=
  VIf x40 (
    SemCall Go.Proofs.Try.prog 21 (List.toArray [(Value.pointer p0_d), (Value.int .i64 x6_next)]) h41 fun v42 h43 =>
    ∃ x44 : Option (TypeId × Value), v42 = (errV x44) ∧
    isIfaceV (errV x44) = true ∧
    VIf (isNilV (errV x44)) (
      In64 (x6_next + (1 : Int)) ∧
      (∃ h45, Gh h43 h45 ∧ R32 (x6_next + (1 : Int)) true h45)) (
      (∃ h46, Gh h43 h46 ∧ R32 x6_next x7_pushes h46))) (
    ∃ b47 : Addr, x25_l.a = some b47 ∧ 0 ≤ (0 : Int) ∧ (0 : Int) < ((x25_l.len : Nat) : Int) ∧
    ∃ x48 : Int, H.rd h41 (Addr.add (Addr.add b47 (((0 : Int)).toNat * 1)) 0) (Value.int .i64 x48) ∧
    VIf (x48 == (0 : Int)) (
      SemCall Go.Proofs.Try.prog 22 (List.toArray [(Value.pointer p0_d)]) h41 fun v49 h50 =>
      ∃ x51 : Option (TypeId × Value), v49 = (errV x51) ∧
      isIfaceV (errV x51) = true ∧
      VIf (isNilV (errV x51)) (
        (∃ h52, Gh h50 h52 ∧ R32 x6_next false h52)) (
        (∃ h53, Gh h50 h53 ∧ R32 x6_next x7_pushes h53))) (
      ∃ b54 : Addr, x25_l.a = some b54 ∧ 0 ≤ (0 : Int) ∧ (0 : Int) < ((x25_l.len : Nat) : Int) ∧
      ∃ x55 : Int, H.rd h41 (Addr.add (Addr.add b54 (((0 : Int)).toNat * 1)) 0) (Value.int .i64 x55) ∧
      SemCall Go.Proofs.Try.prog 28 (List.toArray [(Value.pointer p0_d), (Value.int .i64 x55)]) h41 fun v56 h57 =>
      ∃ x58 : Option (TypeId × Value), v56 = (errV x58) ∧
      (∃ h59, Gh h57 h59 ∧ R32 x6_next x7_pushes h59)))

def f18_J2 (I2 : Nat → Int → Bool → Int → SV → SV → Int → H → Prop) (n3 : Nat) (x8_pushed : Int) (x9_popped : SV) (x10_stolen : SV) (x11_i : Int) (x61_next : Int) (x62_pushes : Bool) (x69 : Int) (x91 : Bool) (h92 : H) : Prop :=
  VIf x91 (
    H.new h92 [(Value.int .i64 x69)] fun r93 h94 =>
    appVC Go.Proofs.Try.prog 36 (Value.slice x9_popped.a x9_popped.len x9_popped.cap) (Value.slice (some (Addr.mk r93 0 none)) 1 1) h94 fun x95 h96 =>
    In64 (x11_i + (1 : Int)) ∧
    ∃ m4, m4 < n3 ∧ (∃ h97, Gh h96 h97 ∧ I2 m4 x61_next x62_pushes x8_pushed x95 x10_stolen (x11_i + (1 : Int)) h97)) (
    VIf (decide (x69 ≥ (0 : Int))) (
      H.new h92 [(Value.int .i64 x69)] fun r98 h99 =>
      appVC Go.Proofs.Try.prog 36 (Value.slice x10_stolen.a x10_stolen.len x10_stolen.cap) (Value.slice (some (Addr.mk r98 0 none)) 1 1) h99 fun x100 h101 =>
      In64 (x11_i + (1 : Int)) ∧
      ∃ m4, m4 < n3 ∧ (∃ h102, Gh h101 h102 ∧ I2 m4 x61_next x62_pushes x8_pushed x9_popped x100 (x11_i + (1 : Int)) h102)) (
      In64 (x11_i + (1 : Int)) ∧
      ∃ m4, m4 < n3 ∧ (∃ h103, Gh h92 h103 ∧ I2 m4 x61_next x62_pushes x8_pushed x9_popped x10_stolen (x11_i + (1 : Int)) h103)))

def f18_J3 (I2 : Nat → Int → Bool → Int → SV → SV → Int → H → Prop) (n3 : Nat) (x8_pushed : Int) (x9_popped : SV) (x10_stolen : SV) (x11_i : Int) (x25_l : SV) (x61_next : Int) (x62_pushes : Bool) (x69 : Int) (x82 : Bool) (h83 : H) : Prop :=
  VIf x82 (
    VIf (x69 == (-2 : Int)) (
      In64 (x61_next - (1 : Int)) ∧
      In64 (x11_i + (1 : Int)) ∧
      ∃ m4, m4 < n3 ∧ (∃ h84, Gh h83 h84 ∧ I2 m4 (x61_next - (1 : Int)) x62_pushes x8_pushed x9_popped x10_stolen (x11_i + (1 : Int)) h84)) (
      In64 (x8_pushed + (1 : Int)) ∧
      In64 (x11_i + (1 : Int)) ∧
      ∃ m4, m4 < n3 ∧ (∃ h85, Gh h83 h85 ∧ I2 m4 x61_next x62_pushes (x8_pushed + (1 : Int)) x9_popped x10_stolen (x11_i + (1 : Int)) h85))) (
    ∃ R86 : Bool → H → Prop, (
      ∃ b87 : Addr, x25_l.a = some b87 ∧ 0 ≤ (0 : Int) ∧ (0 : Int) < ((x25_l.len : Nat) : Int) ∧
      ∃ x88 : Int, H.rd h83 (Addr.add (Addr.add b87 (((0 : Int)).toNat * 1)) 0) (Value.int .i64 x88) ∧
      VIf (x88 == (0 : Int)) (
        (∃ h89, Gh h83 h89 ∧ R86 (decide (x69 ≥ (0 : Int))) h89)) (
        (∃ h90, Gh h83 h90 ∧ R86 false h90))) ∧
    ∀ (_ : F) (x91 : Bool) (h92 : H), R86 x91 h92 →
    f18_J2 I2 n3 x8_pushed x9_popped x10_stolen x11_i x61_next x62_pushes x69 x91 h92)

def f18_J4 (I2 : Nat → Int → Bool → Int → SV → SV → Int → H → Prop) (n3 : Nat) (x8_pushed : Int) (x9_popped : SV) (x10_stolen : SV) (x11_i : Int) (x25_l : SV) (x61_next : Int) (x62_pushes : Bool) (x69 : Int) (x74 : Bool) (h75 : H) : Prop :=
  VIf x74 (
    In64 (x11_i + (1 : Int)) ∧
    ∃ m4, m4 < n3 ∧ (∃ h76, Gh h75 h76 ∧ I2 m4 x61_next x62_pushes x8_pushed x9_popped x10_stolen (x11_i + (1 : Int)) h76)) (
    ∃ R77 : Bool → H → Prop, (
      ∃ b78 : Addr, x25_l.a = some b78 ∧ 0 ≤ (0 : Int) ∧ (0 : Int) < ((x25_l.len : Nat) : Int) ∧
      ∃ x79 : Int, H.rd h75 (Addr.add (Addr.add b78 (((0 : Int)).toNat * 1)) 0) (Value.int .i64 x79) ∧
      VIf (x79 == (0 : Int)) (
        (∃ h80, Gh h75 h80 ∧ R77 x62_pushes h80)) (
        (∃ h81, Gh h75 h81 ∧ R77 false h81))) ∧
    ∀ (_ : F) (x82 : Bool) (h83 : H), R77 x82 h83 →
    f18_J3 I2 n3 x8_pushed x9_popped x10_stolen x11_i x25_l x61_next x62_pushes x69 x82 h83)

def f18_J5 (p0_d : Option Addr) (I2 : Nat → Int → Bool → Int → SV → SV → Int → H → Prop) (n3 : Nat) (x8_pushed : Int) (x9_popped : SV) (x10_stolen : SV) (x11_i : Int) (x25_l : SV) (x61_next : Int) (x62_pushes : Bool) (h63 : H) : Prop :=
  VIf (((x25_l.len : Nat) : Int) == (1 : Int)) (
    ∃ b64 : Addr, x25_l.a = some b64 ∧ 0 ≤ (0 : Int) ∧ (0 : Int) < ((x25_l.len : Nat) : Int) ∧
    ∃ x65 : Int, H.rd h63 (Addr.add (Addr.add b64 (((0 : Int)).toNat * 1)) 0) (Value.int .i64 x65) ∧
    SemCall Go.Proofs.Try.prog 23 (List.toArray [(Value.pointer p0_d), (Value.int .i64 x65)]) h63 fun v66 h67 =>
    ∃ x68 : Bool, ∃ x69 : Int, ∃ x70 : Option (TypeId × Value), v66 = (Value.tuple (List.toArray [(Value.bool x68), (Value.int .i64 x69), (errV x70)])) ∧
    ∃ R71 : Bool → H → Prop, (
      isIfaceV (errV x70) = true ∧
      VIf (!(isNilV (errV x70))) (
        (∃ h72, Gh h67 h72 ∧ R71 true h72)) (
        (∃ h73, Gh h67 h73 ∧ R71 (!x68) h73))) ∧
    ∀ (_ : F) (x74 : Bool) (h75 : H), R71 x74 h75 →
    f18_J4 I2 n3 x8_pushed x9_popped x10_stolen x11_i x25_l x61_next x62_pushes x69 x74 h75) (
    In64 (x11_i + (1 : Int)) ∧
    ∃ m4, m4 < n3 ∧ (∃ h104, Gh h63 h104 ∧ I2 m4 x61_next x62_pushes x8_pushed x9_popped x10_stolen (x11_i + (1 : Int)) h104))

def f18_J6 (p0_d : Option Addr) (I2 : Nat → Int → Bool → Int → SV → SV → Int → H → Prop) (n3 : Nat) (x6_next : Int) (x7_pushes : Bool) (x8_pushed : Int) (x9_popped : SV) (x10_stolen : SV) (x11_i : Int) (x25_l : SV) (x30 : Bool) (h31 : H) : Prop :=
  ∃ R32 : Int → Bool → H → Prop, (
    VIf x30 (
      ∃ R33 : Bool → H → Prop, (
        ∃ b34 : Addr, x25_l.a = some b34 ∧ 0 ≤ (0 : Int) ∧ (0 : Int) < ((x25_l.len : Nat) : Int) ∧
        ∃ x35 : Int, H.rd h31 (Addr.add (Addr.add b34 (((0 : Int)).toNat * 1)) 0) (Value.int .i64 x35) ∧
        VIf (x35 == (0 : Int)) (
          ∃ b36 : Addr, x25_l.a = some b36 ∧ 0 ≤ (1 : Int) ∧ (1 : Int) < ((x25_l.len : Nat) : Int) ∧
          ∃ x37 : Int, H.rd h31 (Addr.add (Addr.add b36 (((1 : Int)).toNat * 1)) 0) (Value.int .i64 x37) ∧
          (∃ h38, Gh h31 h38 ∧ R33 (decide (x37 ≥ (0 : Int))) h38)) (
          (∃ h39, Gh h31 h39 ∧ R33 false h39))) ∧
      ∀ (_ : F) (x40 : Bool) (h41 : H), R33 x40 h41 →
      f18_J1 p0_d x6_next x7_pushes x25_l R32 x40 h41) (
      (∃ h60, Gh h31 h60 ∧ R32 x6_next x7_pushes h60))) ∧
  ∀ (_ : F) (x61_next : Int) (x62_pushes : Bool) (h63 : H), R32 x61_next x62_pushes h63 →
  f18_J5 p0_d I2 n3 x8_pushed x9_popped x10_stolen x11_i x25_l x61_next x62_pushes h63

def f18_J7 (p0_d : Option Addr) (p2_steps : SV) (I2 : Nat → Int → Bool → Int → SV → SV → Int → H → Prop) (n3 : Nat) (x6_next : Int) (x7_pushes : Bool) (x8_pushed : Int) (x9_popped : SV) (x10_stolen : SV) (x11_i : Int) (r13 : Nat) (x18 : Bool) (h19 : H) : Prop :=
  ∃ R20 : SV → H → Prop, (
    VIf x18 (
      ∃ b21 : Addr, p2_steps.a = some b21 ∧ 0 ≤ x11_i ∧ x11_i < ((p2_steps.len : Nat) : Int) ∧
      ∃ x22 : SV, H.rd h19 (Addr.add (Addr.add b21 ((x11_i).toNat * 1)) 0) (Value.slice x22.a x22.len x22.cap) ∧
      (∃ h23, Gh h19 h23 ∧ R20 x22 h23)) (
      (∃ h24, Gh h19 h24 ∧ R20 (SV.mk (some (Addr.mk r13 0 none)) 1 1) h24))) ∧
  ∀ (_ : F) (x25_l : SV) (h26 : H), R20 x25_l h26 →
  ∃ R27 : Bool → H → Prop, (
    VIf (((x25_l.len : Nat) : Int) == (2 : Int)) (
      (∃ h28, Gh h26 h28 ∧ R27 (decide (x11_i < (280 : Int))) h28)) (
      (∃ h29, Gh h26 h29 ∧ R27 false h29))) ∧
  ∀ (_ : F) (x30 : Bool) (h31 : H), R27 x30 h31 →
  f18_J6 p0_d I2 n3 x6_next x7_pushes x8_pushed x9_popped x10_stolen x11_i x25_l x30 h31

def f18_L8 (p0_d : Option Addr) (p1_n : Int) (p2_steps : SV) (R1 : Int → SV → SV → H → Prop) (I2 : Nat → Int → Bool → Int → SV → SV → Int → H → Prop) (n3 : Nat) (x6_next : Int) (x7_pushes : Bool) (x8_pushed : Int) (x9_popped : SV) (x10_stolen : SV) (x11_i : Int) (h12 : H) : Prop :=
  VIf (decide (x11_i < (360 : Int))) (
    p1_n ≠ 0 ∧
    H.new h12 [(Value.int .i64 (Int.tmod x11_i p1_n))] fun r13 h14 =>
    ∃ R15 : Bool → H → Prop, (
      VIf (decide (x11_i < ((p2_steps.len : Nat) : Int))) (
        (∃ h16, Gh h14 h16 ∧ R15 (decide (x11_i < (280 : Int))) h16)) (
        (∃ h17, Gh h14 h17 ∧ R15 false h17))) ∧
    ∀ (_ : F) (x18 : Bool) (h19 : H), R15 x18 h19 →
    f18_J7 p0_d p2_steps I2 n3 x6_next x7_pushes x8_pushed x9_popped x10_stolen x11_i r13 x18 h19) (
    (∃ h105, Gh h12 h105 ∧ R1 x8_pushed x9_popped x10_stolen h105))

def f18_sem (p0_d : Option Addr) (p1_n : Int) (p2_steps : SV) (h0 : H) (post : Value → H → Prop) : Prop :=
  ∃ R1 : Int → SV → SV → H → Prop, (
    ∃ I2 : Nat → Int → Bool → Int → SV → SV → Int → H → Prop, (∃ n3, (∃ h5, Gh h0 h5 ∧ I2 n3 (0 : Int) false (0 : Int) (SV.mk none 0 0) (SV.mk none 0 0) (0 : Int) h5)) ∧
    ∀ (n3 : Nat) (_ : F) (x6_next : Int) (x7_pushes : Bool) (x8_pushed : Int) (x9_popped : SV) (x10_stolen : SV) (x11_i : Int) (h12 : H), I2 n3 x6_next x7_pushes x8_pushed x9_popped x10_stolen x11_i h12 →
    f18_L8 p0_d p1_n p2_steps R1 I2 n3 x6_next x7_pushes x8_pushed x9_popped x10_stolen x11_i h12) ∧
  ∀ (_ : F) (x106_pushed : Int) (x107_popped : SV) (x108_stolen : SV) (h109 : H), R1 x106_pushed x107_popped x108_stolen h109 →
  VRet h109 (Value.tuple (List.toArray [(Value.int .i64 x106_pushed), (Value.slice x107_popped.a x107_popped.len x107_popped.cap), (Value.slice x108_stolen.a x108_stolen.len x108_stolen.cap)])) post

def f18_hint : Hint := (.node .leaf (.node .leaf (.node .leaf (.node .leaf (.node .leaf (.node (.node .leaf (.join [(11, .int), (12, .sl), (13, .sl)] (.node (.loop [(9, .int), (10, .bool), (11, .int), (12, .sl), (13, .sl), (14, .int)] (.node .leaf (.node (.node (.node .leaf (.node (.node (.join [(34, .bool)] .leaf) (.join [(15, .sl)] .leaf)) (.node (.node (.join [(45, .bool)] .leaf) (.join [(9, .int), (10, .bool)] (.node (.node (.join [(55, .bool)] .leaf) .leaf) .leaf))) (.node .leaf (.node (.node .leaf (.node (.node (.join [(91, .bool)] .leaf) .leaf) (.node (.join [(98, .bool)] .leaf) (.node .leaf (.node (.join [(112, .bool)] .leaf) .leaf))))) .leaf))))) .leaf) .leaf))) .leaf))) .leaf))))))

theorem f18_eq (p0_d : Option Addr) (p1_n : Int) (p2_steps : SV) (h0 : H) (post : Value → H → Prop) : exec Try.prog (bodyOf Try.f18) f18_hint (retQ Try.prog Try.f18 post) (F0 [(Value.pointer p0_d), (Value.int .i64 p1_n), (Value.slice p2_steps.a p2_steps.len p2_steps.cap)]) h0 = f18_sem p0_d p1_n p2_steps h0 post := by kernel_rfl

set_option maxRecDepth 20000 in
theorem f18_call (p0_d : Option Addr) (p1_n : Int) (p2_steps : SV) (h0 : H) (post : Value → H → Prop) (hx : f18_sem p0_d p1_n p2_steps h0 post) : SemCall Try.prog 18 (List.toArray [(Value.pointer p0_d), (Value.int .i64 p1_n), (Value.slice p2_steps.a p2_steps.len p2_steps.cap)]) h0 post :=
  sem_of_exec (g := f18_hint) mixed Try.func18 (bodyOf_eq (by kernel_rfl)) (by kernel_rfl) ((f18_eq p0_d p1_n p2_steps h0 post).mpr hx)

/- (*latchgarth/deque.Deque).Ends -/
def f20_sem (p0_d : Option Addr) (h0 : H) (post : Value → H → Prop) : Prop :=
  ∃ a1 : Addr, p0_d = some a1 ∧
  ∃ x2 : Int, H.rd h0 (Addr.add (Addr.add a1 8) 0) (Value.int .i64 x2) ∧
  ∃ a3 : Addr, p0_d = some a3 ∧
  ∃ x4 : Int, H.rd h0 (Addr.add (Addr.add a3 9) 0) (Value.int .i64 x4) ∧
  VRet h0 (Value.tuple (List.toArray [(Value.int .i64 x2), (Value.int .i64 x4)])) post

def f20_hint : Hint := .leaf

theorem f20_eq (p0_d : Option Addr) (h0 : H) (post : Value → H → Prop) : exec Try.prog (bodyOf Try.f20) f20_hint (retQ Try.prog Try.f20 post) (F0 [(Value.pointer p0_d)]) h0 = f20_sem p0_d h0 post := by kernel_rfl

set_option maxRecDepth 20000 in
theorem f20_call (p0_d : Option Addr) (h0 : H) (post : Value → H → Prop) (hx : f20_sem p0_d h0 post) : SemCall Try.prog 20 (List.toArray [(Value.pointer p0_d)]) h0 post :=
  sem_of_exec (g := f20_hint) mixed Try.func20 (bodyOf_eq (by kernel_rfl)) (by kernel_rfl) ((f20_eq p0_d h0 post).mpr hx)

/- (*latchgarth/deque.Deque).Push -/
def f21_sem (p0_d : Option Addr) (p1_value : Int) (h0 : H) (post : Value → H → Prop) : Prop :=
  SemCall Go.Proofs.Try.prog 24 (List.toArray [(Value.int .i64 p1_value), (Value.int .i64 (0 : Int)), (Value.int .i64 (1000 : Int))]) h0 fun v1 h2 =>
  ∃ x3 : Bool, v1 = (Value.bool x3) ∧
  VIf (!x3) (
    VRet h2 (Value.iface 51 (Value.int .i64 (1 : Int))) post) (
    SemCall Go.Proofs.Try.prog 30 (List.toArray [(Value.pointer p0_d), (Value.int .i64 (0 : Int)), (Value.int .i64 (1 : Int)), (Value.int .i64 p1_value)]) h2 fun v4 h5 =>
    ∃ x6 : Option (TypeId × Value), v4 = (errV x6) ∧
    VRet h5 (errV x6) post)

def f21_hint : Hint := .leaf

theorem f21_eq (p0_d : Option Addr) (p1_value : Int) (h0 : H) (post : Value → H → Prop) : exec Try.prog (bodyOf Try.f21) f21_hint (retQ Try.prog Try.f21 post) (F0 [(Value.pointer p0_d), (Value.int .i64 p1_value)]) h0 = f21_sem p0_d p1_value h0 post := by kernel_rfl

set_option maxRecDepth 20000 in
theorem f21_call (p0_d : Option Addr) (p1_value : Int) (h0 : H) (post : Value → H → Prop) (hx : f21_sem p0_d p1_value h0 post) : SemCall Try.prog 21 (List.toArray [(Value.pointer p0_d), (Value.int .i64 p1_value)]) h0 post :=
  sem_of_exec (g := f21_hint) mixed Try.func21 (bodyOf_eq (by kernel_rfl)) (by kernel_rfl) ((f21_eq p0_d p1_value h0 post).mpr hx)

/- (*latchgarth/deque.Deque).Pop -/
def f22_sem (p0_d : Option Addr) (h0 : H) (post : Value → H → Prop) : Prop :=
  SemCall Go.Proofs.Try.prog 30 (List.toArray [(Value.pointer p0_d), (Value.int .i64 (0 : Int)), (Value.int .i64 (4 : Int)), (Value.int .i64 (0 : Int))]) h0 fun v1 h2 =>
  ∃ x3 : Option (TypeId × Value), v1 = (errV x3) ∧
  VRet h2 (errV x3) post

def f22_hint : Hint := .leaf

theorem f22_eq (p0_d : Option Addr) (h0 : H) (post : Value → H → Prop) : exec Try.prog (bodyOf Try.f22) f22_hint (retQ Try.prog Try.f22 post) (F0 [(Value.pointer p0_d)]) h0 = f22_sem p0_d h0 post := by kernel_rfl

set_option maxRecDepth 20000 in
theorem f22_call (p0_d : Option Addr) (h0 : H) (post : Value → H → Prop) (hx : f22_sem p0_d h0 post) : SemCall Try.prog 22 (List.toArray [(Value.pointer p0_d)]) h0 post :=
  sem_of_exec (g := f22_hint) mixed Try.func22 (bodyOf_eq (by kernel_rfl)) (by kernel_rfl) ((f22_eq p0_d h0 post).mpr hx)

/- (*latchgarth/deque.Deque).Step -/
def f23_sem (p0_d : Option Addr) (p1_p : Int) (h0 : H) (post : Value → H → Prop) : Prop :=
  ∃ a1 : Addr, p0_d = some a1 ∧
  ∃ x2 : SV, H.rd h0 (Addr.add (Addr.add a1 10) 0) (Value.slice x2.a x2.len x2.cap) ∧
  In64 (((x2.len : Nat) : Int) - (1 : Int)) ∧
  SemCall Go.Proofs.Try.prog 24 (List.toArray [(Value.int .i64 p1_p), (Value.int .i64 (0 : Int)), (Value.int .i64 (((x2.len : Nat) : Int) - (1 : Int)))]) h0 fun v3 h4 =>
  ∃ x5 : Bool, v3 = (Value.bool x5) ∧
  VIf (!x5) (
    VRet h4 (Value.tuple (List.toArray [(Value.bool false), (Value.int .i64 (0 : Int)), (Value.iface 51 (Value.int .i64 (1 : Int)))])) post) (
    ∃ a6 : Addr, p0_d = some a6 ∧
    ∃ x7 : SV, H.rd h4 (Addr.add (Addr.add a6 10) 0) (Value.slice x7.a x7.len x7.cap) ∧
    ∃ b8 : Addr, x7.a = some b8 ∧ 0 ≤ p1_p ∧ p1_p < ((x7.len : Nat) : Int) ∧
    H.new h4 [(Value.pointer none)] fun r9 h10 =>
    H.wr h10 (Addr.mk r9 0 none) ([(Value.pointer (some (Addr.add b8 ((p1_p).toNat * 4))))]) fun h11 =>
    ∃ x12 : Option Addr, H.rd h11 (Addr.add (Addr.mk r9 0 none) 0) (Value.pointer x12) ∧
    ∃ a13 : Addr, x12 = some a13 ∧
    ∃ x14 : Int, H.rd h11 (Addr.add (Addr.add a13 0) 0) (Value.int .i64 x14) ∧
    In64 (x14 + (1 : Int)) ∧
    ∃ x15 : Option Addr, H.rd h11 (Addr.add (Addr.mk r9 0 none) 0) (Value.pointer x15) ∧
    ∃ a16 : Addr, x15 = some a16 ∧
    ∃ x17 : Int, H.rd h11 (Addr.add (Addr.add a16 0) 0) (Value.int .i64 x17) ∧
    VIf (x17 == (0 : Int)) (
      VRet h11 (Value.tuple (List.toArray [(Value.bool false), (Value.int .i64 (0 : Int)), (Value.iface 51 (Value.int .i64 (7 : Int)))])) post) (
      ∃ R18 : Int → H → Prop, (
        VIf (x17 == (1 : Int)) (
          ∃ a19 : Addr, p0_d = some a19 ∧
          ∃ x20 : Int, H.rd h11 (Addr.add (Addr.add a19 9) 0) (Value.int .i64 x20) ∧
          ∃ a21 : Addr, p0_d = some a21 ∧
          ∃ x22 : Int, H.rd h11 (Addr.add (Addr.add a21 8) 0) (Value.int .i64 x22) ∧
          In64 (x20 - x22) ∧
          VIf (decide ((x20 - x22) ≥ (8 : Int))) (
            SemCall Go.Proofs.Try.prog 31 (List.toArray [(Value.int .i64 (-2 : Int)), (Value.pointer (some (Addr.mk r9 0 none)))]) h11 fun v23 h24 =>
            ∃ x25 : Bool, ∃ x26 : Int, ∃ x27 : Option (TypeId × Value), v23 = (Value.tuple (List.toArray [(Value.bool x25), (Value.int .i64 x26), (errV x27)])) ∧
            VRet h24 (Value.tuple (List.toArray [(Value.bool x25), (Value.int .i64 x26), (errV x27)])) post) (
            (∃ h28, Gh h11 h28 ∧ R18 (x14 + (1 : Int)) h28))) (
          VIf (x17 == (2 : Int)) (
            ∃ a29 : Addr, p0_d = some a29 ∧
            (
              ∃ x30 : Int, H.rd h11 (Addr.add (Addr.add a29 9) 0) (Value.int .i64 x30) ∧
              (
                SemCall Go.Proofs.Try.prog 32 (List.toArray [(Value.pointer p0_d), (Value.int .i64 x30)]) h11 fun v31 h32 =>
                ∃ x33 : Option Addr, v31 = (Value.pointer x33) ∧
                ∃ x34 : Option Addr, H.rd h32 (Addr.add (Addr.mk r9 0 none) 0) (Value.pointer x34) ∧
                ∃ a35 : Addr, x34 = some a35 ∧
                ∃ x36 : Int, H.rd h32 (Addr.add (Addr.add a35 1) 0) (Value.int .i64 x36) ∧
                ∃ a37 : Addr, x33 = some a37 ∧
                H.wr h32 a37 ([(Value.int .i64 x36)]) fun h38 =>
                (∃ h39, Gh h38 h39 ∧ R18 (x14 + (1 : Int)) h39)) ∧
              (
                ∃ x40 : Option Addr, H.rd h11 (Addr.add (Addr.mk r9 0 none) 0) (Value.pointer x40) ∧
                ∃ a41 : Addr, x40 = some a41 ∧
                (
                SemCall Go.Proofs.Try.prog 32 (List.toArray [(Value.pointer p0_d), (Value.int .i64 x30)]) h11 fun v42 h43 =>
                ∃ x44 : Option Addr, v42 = (Value.pointer x44) ∧
                ∃ x45 : Int, H.rd h43 (Addr.add (Addr.add a41 1) 0) (Value.int .i64 x45) ∧
                ∃ a46 : Addr, x44 = some a46 ∧
                H.wr h43 a46 ([(Value.int .i64 x45)]) fun h47 =>
                (∃ h48, Gh h47 h48 ∧ R18 (x14 + (1 : Int)) h48)) ∧
                (
                ∃ x49 : Int, H.rd h11 (Addr.add (Addr.add a41 1) 0) (Value.int .i64 x49) ∧
                SemCall Go.Proofs.Try.prog 32 (List.toArray [(Value.pointer p0_d), (Value.int .i64 x30)]) h11 fun v50 h51 =>
                ∃ x52 : Option Addr, v50 = (Value.pointer x52) ∧
                ∃ a53 : Addr, x52 = some a53 ∧
                H.wr h51 a53 ([(Value.int .i64 x49)]) fun h54 =>
                (∃ h55, Gh h54 h55 ∧ R18 (x14 + (1 : Int)) h55)))) ∧
            (
              ∃ x56 : Option Addr, H.rd h11 (Addr.add (Addr.mk r9 0 none) 0) (Value.pointer x56) ∧
              ∃ a57 : Addr, x56 = some a57 ∧
              (
                ∃ x58 : Int, H.rd h11 (Addr.add (Addr.add a29 9) 0) (Value.int .i64 x58) ∧
                (
                SemCall Go.Proofs.Try.prog 32 (List.toArray [(Value.pointer p0_d), (Value.int .i64 x58)]) h11 fun v59 h60 =>
                ∃ x61 : Option Addr, v59 = (Value.pointer x61) ∧
                ∃ x62 : Int, H.rd h60 (Addr.add (Addr.add a57 1) 0) (Value.int .i64 x62) ∧
                ∃ a63 : Addr, x61 = some a63 ∧
                H.wr h60 a63 ([(Value.int .i64 x62)]) fun h64 =>
                (∃ h65, Gh h64 h65 ∧ R18 (x14 + (1 : Int)) h65)) ∧
                (
                ∃ x66 : Int, H.rd h11 (Addr.add (Addr.add a57 1) 0) (Value.int .i64 x66) ∧
                SemCall Go.Proofs.Try.prog 32 (List.toArray [(Value.pointer p0_d), (Value.int .i64 x58)]) h11 fun v67 h68 =>
                ∃ x69 : Option Addr, v67 = (Value.pointer x69) ∧
                ∃ a70 : Addr, x69 = some a70 ∧
                H.wr h68 a70 ([(Value.int .i64 x66)]) fun h71 =>
                (∃ h72, Gh h71 h72 ∧ R18 (x14 + (1 : Int)) h72))) ∧
              (
                ∃ x73 : Int, H.rd h11 (Addr.add (Addr.add a57 1) 0) (Value.int .i64 x73) ∧
                ∃ x74 : Int, H.rd h11 (Addr.add (Addr.add a29 9) 0) (Value.int .i64 x74) ∧
                SemCall Go.Proofs.Try.prog 32 (List.toArray [(Value.pointer p0_d), (Value.int .i64 x74)]) h11 fun v75 h76 =>
                ∃ x77 : Option Addr, v75 = (Value.pointer x77) ∧
                ∃ a78 : Addr, x77 = some a78 ∧
                H.wr h76 a78 ([(Value.int .i64 x73)]) fun h79 =>
                (∃ h80, Gh h79 h80 ∧ R18 (x14 + (1 : Int)) h80)))) (
            VIf (x17 == (3 : Int)) (
              ∃ a81 : Addr, p0_d = some a81 ∧
              ∃ x82 : Int, H.rd h11 (Addr.add (Addr.add a81 9) 0) (Value.int .i64 x82) ∧
              In64 (x82 + (1 : Int)) ∧
              ∃ a83 : Addr, p0_d = some a83 ∧
              H.wr h11 (Addr.add a83 9) ([(Value.int .i64 (x82 + (1 : Int)))]) fun h84 =>
              SemCall Go.Proofs.Try.prog 31 (List.toArray [(Value.int .i64 (-1 : Int)), (Value.pointer (some (Addr.mk r9 0 none)))]) h84 fun v85 h86 =>
              ∃ x87 : Bool, ∃ x88 : Int, ∃ x89 : Option (TypeId × Value), v85 = (Value.tuple (List.toArray [(Value.bool x87), (Value.int .i64 x88), (errV x89)])) ∧
              VRet h86 (Value.tuple (List.toArray [(Value.bool x87), (Value.int .i64 x88), (errV x89)])) post) (
              VIf (x17 == (4 : Int)) (
                ∃ a90 : Addr, p0_d = some a90 ∧
                ∃ x91 : Int, H.rd h11 (Addr.add (Addr.add a90 9) 0) (Value.int .i64 x91) ∧
                In64 (x91 - (1 : Int)) ∧
                ∃ a92 : Addr, p0_d = some a92 ∧
                H.wr h11 (Addr.add a92 9) ([(Value.int .i64 (x91 - (1 : Int)))]) fun h93 =>
                ∃ x94 : Option Addr, H.rd h93 (Addr.add (Addr.mk r9 0 none) 0) (Value.pointer x94) ∧
                ∃ a95 : Addr, p0_d = some a95 ∧
                ∃ x96 : Int, H.rd h93 (Addr.add (Addr.add a95 9) 0) (Value.int .i64 x96) ∧
                ∃ a97 : Addr, x94 = some a97 ∧
                H.wr h93 (Addr.add a97 3) ([(Value.int .i64 x96)]) fun h98 =>
                (∃ h99, Gh h98 h99 ∧ R18 (x14 + (1 : Int)) h99)) (
                VIf (x17 == (5 : Int)) (
                ∃ x100 : Option Addr, H.rd h11 (Addr.add (Addr.mk r9 0 none) 0) (Value.pointer x100) ∧
                ∃ a101 : Addr, p0_d = some a101 ∧
                ∃ x102 : Int, H.rd h11 (Addr.add (Addr.add a101 8) 0) (Value.int .i64 x102) ∧
                ∃ a103 : Addr, x100 = some a103 ∧
                H.wr h11 (Addr.add a103 2) ([(Value.int .i64 x102)]) fun h104 =>
                ∃ x105 : Option Addr, H.rd h104 (Addr.add (Addr.mk r9 0 none) 0) (Value.pointer x105) ∧
                ∃ a106 : Addr, x105 = some a106 ∧
                ∃ x107 : Int, H.rd h104 (Addr.add (Addr.add a106 3) 0) (Value.int .i64 x107) ∧
                ∃ x108 : Option Addr, H.rd h104 (Addr.add (Addr.mk r9 0 none) 0) (Value.pointer x108) ∧
                ∃ a109 : Addr, x108 = some a109 ∧
                ∃ x110 : Int, H.rd h104 (Addr.add (Addr.add a109 2) 0) (Value.int .i64 x110) ∧
                VIf (decide (x107 > x110)) (
                ∃ x111 : Option Addr, H.rd h104 (Addr.add (Addr.mk r9 0 none) 0) (Value.pointer x111) ∧
                ∃ a112 : Addr, x111 = some a112 ∧
                ∃ x113 : Int, H.rd h104 (Addr.add (Addr.add a112 3) 0) (Value.int .i64 x113) ∧
                SemCall Go.Proofs.Try.prog 32 (List.toArray [(Value.pointer p0_d), (Value.int .i64 x113)]) h104 fun v114 h115 =>
                ∃ x116 : Option Addr, v114 = (Value.pointer x116) ∧
                ∃ a117 : Addr, x116 = some a117 ∧
                ∃ x118 : Int, H.rd h115 (Addr.add a117 0) (Value.int .i64 x118) ∧
                SemCall Go.Proofs.Try.prog 31 (List.toArray [(Value.int .i64 x118), (Value.pointer (some (Addr.mk r9 0 none)))]) h115 fun v119 h120 =>
                ∃ x121 : Bool, ∃ x122 : Int, ∃ x123 : Option (TypeId × Value), v119 = (Value.tuple (List.toArray [(Value.bool x121), (Value.int .i64 x122), (errV x123)])) ∧
                VRet h120 (Value.tuple (List.toArray [(Value.bool x121), (Value.int .i64 x122), (errV x123)])) post) (
                ∃ x124 : Option Addr, H.rd h104 (Addr.add (Addr.mk r9 0 none) 0) (Value.pointer x124) ∧
                ∃ a125 : Addr, x124 = some a125 ∧
                ∃ x126 : Int, H.rd h104 (Addr.add (Addr.add a125 3) 0) (Value.int .i64 x126) ∧
                ∃ x127 : Option Addr, H.rd h104 (Addr.add (Addr.mk r9 0 none) 0) (Value.pointer x127) ∧
                ∃ a128 : Addr, x127 = some a128 ∧
                ∃ x129 : Int, H.rd h104 (Addr.add (Addr.add a128 2) 0) (Value.int .i64 x129) ∧
                VIf (x126 == x129) (
                (∃ h130, Gh h104 h130 ∧ R18 (7 : Int) h130)) (
                (∃ h131, Gh h104 h131 ∧ R18 (x14 + (1 : Int)) h131)))) (
                VIf (x17 == (6 : Int)) (
                ∃ x132 : Option Addr, H.rd h11 (Addr.add (Addr.mk r9 0 none) 0) (Value.pointer x132) ∧
                ∃ a133 : Addr, x132 = some a133 ∧
                ∃ x134 : Int, H.rd h11 (Addr.add (Addr.add a133 2) 0) (Value.int .i64 x134) ∧
                ∃ a135 : Addr, p0_d = some a135 ∧
                H.wr h11 (Addr.add a135 9) ([(Value.int .i64 x134)]) fun h136 =>
                SemCall Go.Proofs.Try.prog 31 (List.toArray [(Value.int .i64 (-1 : Int)), (Value.pointer (some (Addr.mk r9 0 none)))]) h136 fun v137 h138 =>
                ∃ x139 : Bool, ∃ x140 : Int, ∃ x141 : Option (TypeId × Value), v137 = (Value.tuple (List.toArray [(Value.bool x139), (Value.int .i64 x140), (errV x141)])) ∧
                VRet h138 (Value.tuple (List.toArray [(Value.bool x139), (Value.int .i64 x140), (errV x141)])) post) (
                VIf (x17 == (7 : Int)) (
                ∃ x142 : Option Addr, H.rd h11 (Addr.add (Addr.mk r9 0 none) 0) (Value.pointer x142) ∧
                ∃ a143 : Addr, x142 = some a143 ∧
                H.wr h11 (Addr.add a143 1) ([(Value.int .i64 (-1 : Int))]) fun h144 =>
                ∃ a145 : Addr, p0_d = some a145 ∧
                ∃ x146 : Option Addr, H.rd h144 (Addr.add (Addr.mk r9 0 none) 0) (Value.pointer x146) ∧
                ∃ a147 : Addr, x146 = some a147 ∧
                ∃ x148 : Int, H.rd h144 (Addr.add (Addr.add a147 2) 0) (Value.int .i64 x148) ∧
                ∃ x149 : Option Addr, H.rd h144 (Addr.add (Addr.mk r9 0 none) 0) (Value.pointer x149) ∧
                ∃ a150 : Addr, x149 = some a150 ∧
                ∃ x151 : Int, H.rd h144 (Addr.add (Addr.add a150 2) 0) (Value.int .i64 x151) ∧
                In64 (x151 + (1 : Int)) ∧
                SemCall Go.Proofs.Try.prog 33 (List.toArray [(Value.pointer (some (Addr.add a145 8))), (Value.int .i64 x148), (Value.int .i64 (x151 + (1 : Int)))]) h144 fun v152 h153 =>
                ∃ x154 : Bool, v152 = (Value.bool x154) ∧
                VIf x154 (
                (
                ∃ x155 : Option Addr, H.rd h153 (Addr.add (Addr.mk r9 0 none) 0) (Value.pointer x155) ∧
                ∃ x156 : Option Addr, H.rd h153 (Addr.add (Addr.mk r9 0 none) 0) (Value.pointer x156) ∧
                ∃ a157 : Addr, x156 = some a157 ∧
                ∃ x158 : Int, H.rd h153 (Addr.add (Addr.add a157 3) 0) (Value.int .i64 x158) ∧
                SemCall Go.Proofs.Try.prog 32 (List.toArray [(Value.pointer p0_d), (Value.int .i64 x158)]) h153 fun v159 h160 =>
                ∃ x161 : Option Addr, v159 = (Value.pointer x161) ∧
                ∃ a162 : Addr, x161 = some a162 ∧
                ∃ x163 : Int, H.rd h160 (Addr.add a162 0) (Value.int .i64 x163) ∧
                ∃ a164 : Addr, x155 = some a164 ∧
                H.wr h160 (Addr.add a164 1) ([(Value.int .i64 x163)]) fun h165 =>
                (∃ h166, Gh h165 h166 ∧ R18 (x14 + (1 : Int)) h166)) ∧
                (
                ∃ x167 : Option Addr, H.rd h153 (Addr.add (Addr.mk r9 0 none) 0) (Value.pointer x167) ∧
                ∃ a168 : Addr, x167 = some a168 ∧
                (
                ∃ x169 : Option Addr, H.rd h153 (Addr.add (Addr.mk r9 0 none) 0) (Value.pointer x169) ∧
                ∃ x170 : Int, H.rd h153 (Addr.add (Addr.add a168 3) 0) (Value.int .i64 x170) ∧
                SemCall Go.Proofs.Try.prog 32 (List.toArray [(Value.pointer p0_d), (Value.int .i64 x170)]) h153 fun v171 h172 =>
                ∃ x173 : Option Addr, v171 = (Value.pointer x173) ∧
                ∃ a174 : Addr, x173 = some a174 ∧
                ∃ x175 : Int, H.rd h172 (Addr.add a174 0) (Value.int .i64 x175) ∧
                ∃ a176 : Addr, x169 = some a176 ∧
                H.wr h172 (Addr.add a176 1) ([(Value.int .i64 x175)]) fun h177 =>
                (∃ h178, Gh h177 h178 ∧ R18 (x14 + (1 : Int)) h178)) ∧
                (
                ∃ x179 : Int, H.rd h153 (Addr.add (Addr.add a168 3) 0) (Value.int .i64 x179) ∧
                (
                ∃ x180 : Option Addr, H.rd h153 (Addr.add (Addr.mk r9 0 none) 0) (Value.pointer x180) ∧
                SemCall Go.Proofs.Try.prog 32 (List.toArray [(Value.pointer p0_d), (Value.int .i64 x179)]) h153 fun v181 h182 =>
                ∃ x183 : Option Addr, v181 = (Value.pointer x183) ∧
                ∃ a184 : Addr, x183 = some a184 ∧
                ∃ x185 : Int, H.rd h182 (Addr.add a184 0) (Value.int .i64 x185) ∧
                ∃ a186 : Addr, x180 = some a186 ∧
                H.wr h182 (Addr.add a186 1) ([(Value.int .i64 x185)]) fun h187 =>
                (∃ h188, Gh h187 h188 ∧ R18 (x14 + (1 : Int)) h188)) ∧
                (
                SemCall Go.Proofs.Try.prog 32 (List.toArray [(Value.pointer p0_d), (Value.int .i64 x179)]) h153 fun v189 h190 =>
                ∃ x191 : Option Addr, v189 = (Value.pointer x191) ∧
                ∃ a192 : Addr, x191 = some a192 ∧
                (
                ∃ x193 : Option Addr, H.rd h190 (Addr.add (Addr.mk r9 0 none) 0) (Value.pointer x193) ∧
                ∃ x194 : Int, H.rd h190 (Addr.add a192 0) (Value.int .i64 x194) ∧
                ∃ a195 : Addr, x193 = some a195 ∧
                H.wr h190 (Addr.add a195 1) ([(Value.int .i64 x194)]) fun h196 =>
                (∃ h197, Gh h196 h197 ∧ R18 (x14 + (1 : Int)) h197)) ∧
                (
                ∃ x198 : Int, H.rd h190 (Addr.add a192 0) (Value.int .i64 x198) ∧
                ∃ x199 : Option Addr, H.rd h190 (Addr.add (Addr.mk r9 0 none) 0) (Value.pointer x199) ∧
                ∃ a200 : Addr, x199 = some a200 ∧
                H.wr h190 (Addr.add a200 1) ([(Value.int .i64 x198)]) fun h201 =>
                (∃ h202, Gh h201 h202 ∧ R18 (x14 + (1 : Int)) h202)))))) (
                (∃ h203, Gh h153 h203 ∧ R18 (x14 + (1 : Int)) h203))) (
                VIf (x17 == (8 : Int)) (
                ∃ x204 : Option Addr, H.rd h11 (Addr.add (Addr.mk r9 0 none) 0) (Value.pointer x204) ∧
                ∃ a205 : Addr, x204 = some a205 ∧
                ∃ x206 : Int, H.rd h11 (Addr.add (Addr.add a205 2) 0) (Value.int .i64 x206) ∧
                In64 (x206 + (1 : Int)) ∧
                ∃ a207 : Addr, p0_d = some a207 ∧
                H.wr h11 (Addr.add a207 9) ([(Value.int .i64 (x206 + (1 : Int)))]) fun h208 =>
                ∃ x209 : Option Addr, H.rd h208 (Addr.add (Addr.mk r9 0 none) 0) (Value.pointer x209) ∧
                ∃ a210 : Addr, x209 = some a210 ∧
                ∃ x211 : Int, H.rd h208 (Addr.add (Addr.add a210 1) 0) (Value.int .i64 x211) ∧
                SemCall Go.Proofs.Try.prog 31 (List.toArray [(Value.int .i64 x211), (Value.pointer (some (Addr.mk r9 0 none)))]) h208 fun v212 h213 =>
                ∃ x214 : Bool, ∃ x215 : Int, ∃ x216 : Option (TypeId × Value), v212 = (Value.tuple (List.toArray [(Value.bool x214), (Value.int .i64 x215), (errV x216)])) ∧
                VRet h213 (Value.tuple (List.toArray [(Value.bool x214), (Value.int .i64 x215), (errV x216)])) post) (
                VIf (x17 == (9 : Int)) (
                ∃ x217 : Option Addr, H.rd h11 (Addr.add (Addr.mk r9 0 none) 0) (Value.pointer x217) ∧
                ∃ a218 : Addr, p0_d = some a218 ∧
                ∃ x219 : Int, H.rd h11 (Addr.add (Addr.add a218 8) 0) (Value.int .i64 x219) ∧
                ∃ a220 : Addr, x217 = some a220 ∧
                H.wr h11 (Addr.add a220 2) ([(Value.int .i64 x219)]) fun h221 =>
                (∃ h222, Gh h221 h222 ∧ R18 (x14 + (1 : Int)) h222)) (
                VIf (x17 == (10 : Int)) (
                ∃ a223 : Addr, p0_d = some a223 ∧
                ∃ x224 : Int, H.rd h11 (Addr.add (Addr.add a223 9) 0) (Value.int .i64 x224) ∧
                ∃ x225 : Option Addr, H.rd h11 (Addr.add (Addr.mk r9 0 none) 0) (Value.pointer x225) ∧
                ∃ a226 : Addr, x225 = some a226 ∧
                ∃ x227 : Int, H.rd h11 (Addr.add (Addr.add a226 2) 0) (Value.int .i64 x227) ∧
                VIf (decide (x224 ≤ x227)) (
                SemCall Go.Proofs.Try.prog 31 (List.toArray [(Value.int .i64 (-1 : Int)), (Value.pointer (some (Addr.mk r9 0 none)))]) h11 fun v228 h229 =>
                ∃ x230 : Bool, ∃ x231 : Int, ∃ x232 : Option (TypeId × Value), v228 = (Value.tuple (List.toArray [(Value.bool x230), (Value.int .i64 x231), (errV x232)])) ∧
                VRet h229 (Value.tuple (List.toArray [(Value.bool x230), (Value.int .i64 x231), (errV x232)])) post) (
                (∃ h233, Gh h11 h233 ∧ R18 (x14 + (1 : Int)) h233))) (
                VIf (x17 == (11 : Int)) (
                (
                ∃ x234 : Option Addr, H.rd h11 (Addr.add (Addr.mk r9 0 none) 0) (Value.pointer x234) ∧
                ∃ x235 : Option Addr, H.rd h11 (Addr.add (Addr.mk r9 0 none) 0) (Value.pointer x235) ∧
                ∃ a236 : Addr, x235 = some a236 ∧
                ∃ x237 : Int, H.rd h11 (Addr.add (Addr.add a236 2) 0) (Value.int .i64 x237) ∧
                SemCall Go.Proofs.Try.prog 32 (List.toArray [(Value.pointer p0_d), (Value.int .i64 x237)]) h11 fun v238 h239 =>
                ∃ x240 : Option Addr, v238 = (Value.pointer x240) ∧
                ∃ a241 : Addr, x240 = some a241 ∧
                ∃ x242 : Int, H.rd h239 (Addr.add a241 0) (Value.int .i64 x242) ∧
                ∃ a243 : Addr, x234 = some a243 ∧
                H.wr h239 (Addr.add a243 1) ([(Value.int .i64 x242)]) fun h244 =>
                (∃ h245, Gh h244 h245 ∧ R18 (x14 + (1 : Int)) h245)) ∧
                (
                ∃ x246 : Option Addr, H.rd h11 (Addr.add (Addr.mk r9 0 none) 0) (Value.pointer x246) ∧
                ∃ a247 : Addr, x246 = some a247 ∧
                (
                ∃ x248 : Option Addr, H.rd h11 (Addr.add (Addr.mk r9 0 none) 0) (Value.pointer x248) ∧
                ∃ x249 : Int, H.rd h11 (Addr.add (Addr.add a247 2) 0) (Value.int .i64 x249) ∧
                SemCall Go.Proofs.Try.prog 32 (List.toArray [(Value.pointer p0_d), (Value.int .i64 x249)]) h11 fun v250 h251 =>
                ∃ x252 : Option Addr, v250 = (Value.pointer x252) ∧
                ∃ a253 : Addr, x252 = some a253 ∧
                ∃ x254 : Int, H.rd h251 (Addr.add a253 0) (Value.int .i64 x254) ∧
                ∃ a255 : Addr, x248 = some a255 ∧
                H.wr h251 (Addr.add a255 1) ([(Value.int .i64 x254)]) fun h256 =>
                (∃ h257, Gh h256 h257 ∧ R18 (x14 + (1 : Int)) h257)) ∧
                (
                ∃ x258 : Int, H.rd h11 (Addr.add (Addr.add a247 2) 0) (Value.int .i64 x258) ∧
                (
                ∃ x259 : Option Addr, H.rd h11 (Addr.add (Addr.mk r9 0 none) 0) (Value.pointer x259) ∧
                SemCall Go.Proofs.Try.prog 32 (List.toArray [(Value.pointer p0_d), (Value.int .i64 x258)]) h11 fun v260 h261 =>
                ∃ x262 : Option Addr, v260 = (Value.pointer x262) ∧
                ∃ a263 : Addr, x262 = some a263 ∧
                ∃ x264 : Int, H.rd h261 (Addr.add a263 0) (Value.int .i64 x264) ∧
                ∃ a265 : Addr, x259 = some a265 ∧
                H.wr h261 (Addr.add a265 1) ([(Value.int .i64 x264)]) fun h266 =>
                (∃ h267, Gh h266 h267 ∧ R18 (x14 + (1 : Int)) h267)) ∧
                (
                SemCall Go.Proofs.Try.prog 32 (List.toArray [(Value.pointer p0_d), (Value.int .i64 x258)]) h11 fun v268 h269 =>
                ∃ x270 : Option Addr, v268 = (Value.pointer x270) ∧
                ∃ a271 : Addr, x270 = some a271 ∧
                (
                ∃ x272 : Option Addr, H.rd h269 (Addr.add (Addr.mk r9 0 none) 0) (Value.pointer x272) ∧
                ∃ x273 : Int, H.rd h269 (Addr.add a271 0) (Value.int .i64 x273) ∧
                ∃ a274 : Addr, x272 = some a274 ∧
                H.wr h269 (Addr.add a274 1) ([(Value.int .i64 x273)]) fun h275 =>
                (∃ h276, Gh h275 h276 ∧ R18 (x14 + (1 : Int)) h276)) ∧
                (
                ∃ x277 : Int, H.rd h269 (Addr.add a271 0) (Value.int .i64 x277) ∧
                ∃ x278 : Option Addr, H.rd h269 (Addr.add (Addr.mk r9 0 none) 0) (Value.pointer x278) ∧
                ∃ a279 : Addr, x278 = some a279 ∧
                H.wr h269 (Addr.add a279 1) ([(Value.int .i64 x277)]) fun h280 =>
                (∃ h281, Gh h280 h281 ∧ R18 (x14 + (1 : Int)) h281)))))) (
                VIf (x17 == (12 : Int)) (
                ∃ a282 : Addr, p0_d = some a282 ∧
                ∃ x283 : Option Addr, H.rd h11 (Addr.add (Addr.mk r9 0 none) 0) (Value.pointer x283) ∧
                ∃ a284 : Addr, x283 = some a284 ∧
                ∃ x285 : Int, H.rd h11 (Addr.add (Addr.add a284 2) 0) (Value.int .i64 x285) ∧
                ∃ x286 : Option Addr, H.rd h11 (Addr.add (Addr.mk r9 0 none) 0) (Value.pointer x286) ∧
                ∃ a287 : Addr, x286 = some a287 ∧
                ∃ x288 : Int, H.rd h11 (Addr.add (Addr.add a287 2) 0) (Value.int .i64 x288) ∧
                In64 (x288 + (1 : Int)) ∧
                SemCall Go.Proofs.Try.prog 33 (List.toArray [(Value.pointer (some (Addr.add a282 8))), (Value.int .i64 x285), (Value.int .i64 (x288 + (1 : Int)))]) h11 fun v289 h290 =>
                ∃ x291 : Bool, v289 = (Value.bool x291) ∧
                VIf (!x291) (
                SemCall Go.Proofs.Try.prog 31 (List.toArray [(Value.int .i64 (-2 : Int)), (Value.pointer (some (Addr.mk r9 0 none)))]) h290 fun v292 h293 =>
                ∃ x294 : Bool, ∃ x295 : Int, ∃ x296 : Option (TypeId × Value), v292 = (Value.tuple (List.toArray [(Value.bool x294), (Value.int .i64 x295), (errV x296)])) ∧
                VRet h293 (Value.tuple (List.toArray [(Value.bool x294), (Value.int .i64 x295), (errV x296)])) post) (
                ∃ x297 : Option Addr, H.rd h290 (Addr.add (Addr.mk r9 0 none) 0) (Value.pointer x297) ∧
                ∃ a298 : Addr, x297 = some a298 ∧
                ∃ x299 : Int, H.rd h290 (Addr.add (Addr.add a298 1) 0) (Value.int .i64 x299) ∧
                SemCall Go.Proofs.Try.prog 31 (List.toArray [(Value.int .i64 x299), (Value.pointer (some (Addr.mk r9 0 none)))]) h290 fun v300 h301 =>
                ∃ x302 : Bool, ∃ x303 : Int, ∃ x304 : Option (TypeId × Value), v300 = (Value.tuple (List.toArray [(Value.bool x302), (Value.int .i64 x303), (errV x304)])) ∧
                VRet h301 (Value.tuple (List.toArray [(Value.bool x302), (Value.int .i64 x303), (errV x304)])) post)) (
                (∃ h305, Gh h11 h305 ∧ R18 (x14 + (1 : Int)) h305)))))))))))))) ∧
      ∀ (_ : F) (x306_next : Int) (h307 : H), R18 x306_next h307 →
      ∃ x308 : Option Addr, H.rd h307 (Addr.add (Addr.mk r9 0 none) 0) (Value.pointer x308) ∧
      ∃ a309 : Addr, x308 = some a309 ∧
      H.wr h307 (Addr.add a309 0) ([(Value.int .i64 x306_next)]) fun h310 =>
      VRet h310 (Value.tuple (List.toArray [(Value.bool false), (Value.int .i64 (0 : Int)), Value.nilIface])) post))

def f23_hint : Hint := (.node .leaf (.node .leaf (.node .leaf (.node .leaf (.node .leaf (.node (.node .leaf (.node (.node .leaf (.node .leaf (.node .leaf (.join [(9, .int)] (.node .leaf (.node .leaf (.node .any (.node .leaf (.node .leaf (.node .leaf (.node (.node .leaf (.tail 7)) (.node .leaf (.node (.node (.tail 7) .leaf) (.node .leaf (.node .leaf (.node .leaf (.node (.node .leaf (.node (.tail 12) (.node .any .leaf))) (.node .leaf (.node .leaf (.node .leaf (.node (.tail 7) (.node .leaf (.node .leaf (.node .leaf (.node .any (.node .leaf (.node (.node (.node (.tail 12) .leaf) .leaf) .leaf))))))))))))))))))))))))))) .leaf)) .leaf))))))

theorem f23_eq (p0_d : Option Addr) (p1_p : Int) (h0 : H) (post : Value → H → Prop) : exec Try.prog (bodyOf Try.f23) f23_hint (retQ Try.prog Try.f23 post) (F0 [(Value.pointer p0_d), (Value.int .i64 p1_p)]) h0 = f23_sem p0_d p1_p h0 post := by kernel_rfl

set_option maxRecDepth 20000 in
theorem f23_call (p0_d : Option Addr) (p1_p : Int) (h0 : H) (post : Value → H → Prop) (hx : f23_sem p0_d p1_p h0 post) : SemCall Try.prog 23 (List.toArray [(Value.pointer p0_d), (Value.int .i64 p1_p)]) h0 post :=
  sem_of_exec (g := f23_hint) mixed Try.func23 (bodyOf_eq (by kernel_rfl)) (by kernel_rfl) ((f23_eq p0_d p1_p h0 post).mpr hx)

/- (*latchgarth/deque.Deque).Steal -/
def f28_sem (p0_d : Option Addr) (p1_p : Int) (h0 : H) (post : Value → H → Prop) : Prop :=
  ∃ a1 : Addr, p0_d = some a1 ∧
  ∃ x2 : SV, H.rd h0 (Addr.add (Addr.add a1 10) 0) (Value.slice x2.a x2.len x2.cap) ∧
  In64 (((x2.len : Nat) : Int) - (1 : Int)) ∧
  SemCall Go.Proofs.Try.prog 24 (List.toArray [(Value.int .i64 p1_p), (Value.int .i64 (1 : Int)), (Value.int .i64 (((x2.len : Nat) : Int) - (1 : Int)))]) h0 fun v3 h4 =>
  ∃ x5 : Bool, v3 = (Value.bool x5) ∧
  VIf (!x5) (
    VRet h4 (Value.iface 51 (Value.int .i64 (1 : Int))) post) (
    SemCall Go.Proofs.Try.prog 30 (List.toArray [(Value.pointer p0_d), (Value.int .i64 p1_p), (Value.int .i64 (9 : Int)), (Value.int .i64 (0 : Int))]) h4 fun v6 h7 =>
    ∃ x8 : Option (TypeId × Value), v6 = (errV x8) ∧
    VRet h7 (errV x8) post)

def f28_hint : Hint := .leaf

theorem f28_eq (p0_d : Option Addr) (p1_p : Int) (h0 : H) (post : Value → H → Prop) : exec Try.prog (bodyOf Try.f28) f28_hint (retQ Try.prog Try.f28 post) (F0 [(Value.pointer p0_d), (Value.int .i64 p1_p)]) h0 = f28_sem p0_d p1_p h0 post := by kernel_rfl

set_option maxRecDepth 20000 in
theorem f28_call (p0_d : Option Addr) (p1_p : Int) (h0 : H) (post : Value → H → Prop) (hx : f28_sem p0_d p1_p h0 post) : SemCall Try.prog 28 (List.toArray [(Value.pointer p0_d), (Value.int .i64 p1_p)]) h0 post :=
  sem_of_exec (g := f28_hint) mixed Try.func28 (bodyOf_eq (by kernel_rfl)) (by kernel_rfl) ((f28_eq p0_d p1_p h0 post).mpr hx)

/- latchgarth/core.Hands -/
def f29_sem (p0_n : Int) (h0 : H) (post : Value → H → Prop) : Prop :=
  SemCall Go.Proofs.Try.prog 24 (List.toArray [(Value.int .i64 p0_n), (Value.int .i64 (1 : Int)), (Value.int .i64 (4 : Int))]) h0 fun v1 h2 =>
  ∃ x3 : Bool, v1 = (Value.bool x3) ∧
  VIf (!x3) (
    VRet h2 (Value.iface 51 (Value.int .i64 (1 : Int))) post) (
    VRet h2 Value.nilIface post)

def f29_hint : Hint := .leaf

theorem f29_eq (p0_n : Int) (h0 : H) (post : Value → H → Prop) : exec Try.prog (bodyOf Try.f29) f29_hint (retQ Try.prog Try.f29 post) (F0 [(Value.int .i64 p0_n)]) h0 = f29_sem p0_n h0 post := by kernel_rfl

set_option maxRecDepth 20000 in
theorem f29_call (p0_n : Int) (h0 : H) (post : Value → H → Prop) (hx : f29_sem p0_n h0 post) : SemCall Try.prog 29 (List.toArray [(Value.int .i64 p0_n)]) h0 post :=
  sem_of_exec (g := f29_hint) mixed Try.func29 (bodyOf_eq (by kernel_rfl)) (by kernel_rfl) ((f29_eq p0_n h0 post).mpr hx)

/- (*latchgarth/deque.Deque).begin -/
def f30_sem (p0_d : Option Addr) (p1_p : Int) (p2_at : Int) (p3_value : Int) (h0 : H) (post : Value → H → Prop) : Prop :=
  ∃ a1 : Addr, p0_d = some a1 ∧
  ∃ x2 : SV, H.rd h0 (Addr.add (Addr.add a1 10) 0) (Value.slice x2.a x2.len x2.cap) ∧
  ∃ b3 : Addr, x2.a = some b3 ∧ 0 ≤ p1_p ∧ p1_p < ((x2.len : Nat) : Int) ∧
  ∃ x4 : Int, H.rd h0 (Addr.add (Addr.add (Addr.add b3 ((p1_p).toNat * 4)) 0) 0) (Value.int .i64 x4) ∧
  VIf (x4 != (0 : Int)) (
    VRet h0 (Value.iface 51 (Value.int .i64 (7 : Int))) post) (
    ∃ a5 : Addr, p0_d = some a5 ∧
    ∃ x6 : SV, H.rd h0 (Addr.add (Addr.add a5 10) 0) (Value.slice x6.a x6.len x6.cap) ∧
    ∃ b7 : Addr, x6.a = some b7 ∧ 0 ≤ p1_p ∧ p1_p < ((x6.len : Nat) : Int) ∧
    ([(Value.int .i64 p2_at), (Value.int .i64 p3_value), (Value.int .i64 (0 : Int)), (Value.int .i64 (0 : Int))]).length = 4 ∧ (Program.underlying Go.Proofs.Try.prog 69).isSome = true ∧
    H.wr h0 (Addr.add b7 ((p1_p).toNat * 4)) ([(Value.int .i64 p2_at), (Value.int .i64 p3_value), (Value.int .i64 (0 : Int)), (Value.int .i64 (0 : Int))]) fun h8 =>
    VRet h8 Value.nilIface post)

def f30_hint : Hint := .leaf

theorem f30_eq (p0_d : Option Addr) (p1_p : Int) (p2_at : Int) (p3_value : Int) (h0 : H) (post : Value → H → Prop) : exec Try.prog (bodyOf Try.f30) f30_hint (retQ Try.prog Try.f30 post) (F0 [(Value.pointer p0_d), (Value.int .i64 p1_p), (Value.int .i64 p2_at), (Value.int .i64 p3_value)]) h0 = f30_sem p0_d p1_p p2_at p3_value h0 post := by kernel_rfl

set_option maxRecDepth 20000 in
theorem f30_call (p0_d : Option Addr) (p1_p : Int) (p2_at : Int) (p3_value : Int) (h0 : H) (post : Value → H → Prop) (hx : f30_sem p0_d p1_p p2_at p3_value h0 post) : SemCall Try.prog 30 (List.toArray [(Value.pointer p0_d), (Value.int .i64 p1_p), (Value.int .i64 p2_at), (Value.int .i64 p3_value)]) h0 post :=
  sem_of_exec (g := f30_hint) mixed Try.func30 (bodyOf_eq (by kernel_rfl)) (by kernel_rfl) ((f30_eq p0_d p1_p p2_at p3_value h0 post).mpr hx)

/- (*latchgarth/deque.Deque).Step$1 -/
def f31_sem (p0_value : Int) (c0 : Addr) (h0 : H) (post : Value → H → Prop) : Prop :=
  ∃ x1 : Option Addr, H.rd h0 (Addr.add c0 0) (Value.pointer x1) ∧
  ∃ a2 : Addr, x1 = some a2 ∧
  ([(Value.int .i64 (0 : Int)), (Value.int .i64 (0 : Int)), (Value.int .i64 (0 : Int)), (Value.int .i64 (0 : Int))]).length = 4 ∧ (Program.underlying Go.Proofs.Try.prog 69).isSome = true ∧
  H.wr h0 a2 ([(Value.int .i64 (0 : Int)), (Value.int .i64 (0 : Int)), (Value.int .i64 (0 : Int)), (Value.int .i64 (0 : Int))]) fun h3 =>
  VRet h3 (Value.tuple (List.toArray [(Value.bool true), (Value.int .i64 p0_value), Value.nilIface])) post

def f31_hint : Hint := .leaf

theorem f31_eq (p0_value : Int) (c0 : Addr) (h0 : H) (post : Value → H → Prop) : exec Try.prog (bodyOf Try.f31) f31_hint (retQ Try.prog Try.f31 post) (F0 [(Value.int .i64 p0_value), (Value.pointer (some c0))]) h0 = f31_sem p0_value c0 h0 post := by kernel_rfl

set_option maxRecDepth 20000 in
theorem f31_call (p0_value : Int) (c0 : Addr) (h0 : H) (post : Value → H → Prop) (hx : f31_sem p0_value c0 h0 post) : SemCall Try.prog 31 (List.toArray [(Value.int .i64 p0_value), (Value.pointer (some c0))]) h0 post :=
  sem_of_exec (g := f31_hint) mixed Try.func31 (bodyOf_eq (by kernel_rfl)) (by kernel_rfl) ((f31_eq p0_value c0 h0 post).mpr hx)

/- (*latchgarth/deque.Deque).place -/
def f32_sem (p0_d : Option Addr) (p1_i : Int) (h0 : H) (post : Value → H → Prop) : Prop :=
  (8 : Int) ≠ 0 ∧
  ∃ a1 : Addr, p0_d = some a1 ∧
  0 ≤ (Int.tmod p1_i (8 : Int)) ∧ (Int.tmod p1_i (8 : Int)) < ((8 : Nat) : Int) ∧
  VRet h0 (Value.pointer (some (Addr.add (Addr.add a1 0) (((Int.tmod p1_i (8 : Int))).toNat * 1)))) post

def f32_hint : Hint := .leaf

theorem f32_eq (p0_d : Option Addr) (p1_i : Int) (h0 : H) (post : Value → H → Prop) : exec Try.prog (bodyOf Try.f32) f32_hint (retQ Try.prog Try.f32 post) (F0 [(Value.pointer p0_d), (Value.int .i64 p1_i)]) h0 = f32_sem p0_d p1_i h0 post := by kernel_rfl

set_option maxRecDepth 20000 in
theorem f32_call (p0_d : Option Addr) (p1_i : Int) (h0 : H) (post : Value → H → Prop) (hx : f32_sem p0_d p1_i h0 post) : SemCall Try.prog 32 (List.toArray [(Value.pointer p0_d), (Value.int .i64 p1_i)]) h0 post :=
  sem_of_exec (g := f32_hint) mixed Try.func32 (bodyOf_eq (by kernel_rfl)) (by kernel_rfl) ((f32_eq p0_d p1_i h0 post).mpr hx)

/- latchgarth/core.Cas[int] -/
def f33_sem (p0_word : Option Addr) (p1_old : Int) (p2_new : Int) (h0 : H) (post : Value → H → Prop) : Prop :=
  ∃ a1 : Addr, p0_word = some a1 ∧
  ∃ x2 : Int, H.rd h0 (Addr.add a1 0) (Value.int .i64 x2) ∧
  VIf (x2 != p1_old) (
    VRet h0 (Value.bool false) post) (
    ∃ a3 : Addr, p0_word = some a3 ∧
    H.wr h0 a3 ([(Value.int .i64 p2_new)]) fun h4 =>
    VRet h4 (Value.bool true) post)

def f33_hint : Hint := .leaf

theorem f33_eq (p0_word : Option Addr) (p1_old : Int) (p2_new : Int) (h0 : H) (post : Value → H → Prop) : exec Try.prog (bodyOf Try.f33) f33_hint (retQ Try.prog Try.f33 post) (F0 [(Value.pointer p0_word), (Value.int .i64 p1_old), (Value.int .i64 p2_new)]) h0 = f33_sem p0_word p1_old p2_new h0 post := by kernel_rfl

set_option maxRecDepth 20000 in
theorem f33_call (p0_word : Option Addr) (p1_old : Int) (p2_new : Int) (h0 : H) (post : Value → H → Prop) (hx : f33_sem p0_word p1_old p2_new h0 post) : SemCall Try.prog 33 (List.toArray [(Value.pointer p0_word), (Value.int .i64 p1_old), (Value.int .i64 p2_new)]) h0 post :=
  sem_of_exec (g := f33_hint) mixed Try.func33 (bodyOf_eq (by kernel_rfl)) (by kernel_rfl) ((f33_eq p0_word p1_old p2_new h0 post).mpr hx)

end Go.Proofs.Ytiaopgnnibidlaa
