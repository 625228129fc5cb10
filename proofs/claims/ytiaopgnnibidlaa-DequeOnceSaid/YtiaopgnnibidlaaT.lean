import Derived.Test.YtiaopgnnibidlaaEngG
import Derived.Test.YtiaopgnnibidlaaRows
namespace Go.Proofs.Ytiaopgnnibidlaa
open Go.Eng
theorem mixed : Try.prog.follows .mixedOrders = true := by kernel_rfl
/- latchgarth/latchgarthlaw4.DineGoes -/
def f3_L1 (p0_n : Int) (x6 : Option Addr) (r15 : Nat) (R17 : H → Prop) (I18 : Nat → Int → H → Prop) (n19 : Nat) (x22_k : Int) (h23 : H) : Prop :=
  VIf (decide (x22_k < p0_n)) (
    SemCall Go.Proofs.Try.prog 11 (List.toArray [(Value.pointer x6), (Value.int .i64 x22_k)]) h23 fun v24 h25 =>
    ∃ x26 : Int, v24 = (Value.int .i64 x26) ∧
    ∃ b27 : Addr, (some (Addr.mk r15 0 none)) = some b27 ∧ 0 ≤ x22_k ∧ x22_k < (((p0_n).toNat : Nat) : Int) ∧
    H.wr h25 (Addr.add b27 ((x22_k).toNat * 1)) ([(Value.bool (x26 == (1 : Int)))]) fun h28 =>
    In64 (x22_k + (1 : Int)) ∧
    ∃ m20, m20 < n19 ∧ (∃ h29, Gh h28 h29 ∧ I18 m20 (x22_k + (1 : Int)) h29)) (
    (∃ h30, Gh h23 h30 ∧ R17 h30))

def f3_J2 (p0_n : Int) (post : Value → H → Prop) (x6 : Option Addr) (r15 : Nat) (I41 : Nat → Int → H → Prop) (n42 : Nat) (x45_k : Int) (h64 : H) : Prop :=
  SemCall Go.Proofs.Try.prog 14 (List.toArray [(Value.pointer x6), (Value.int .i64 x45_k)]) h64 fun v65 h66 =>
  ∃ x67 : Bool, ∃ x68 : Option (TypeId × Value), v65 = (Value.tuple (List.toArray [(Value.bool x67), (errV x68)])) ∧
  isIfaceV (errV x68) = true ∧
  VIf (!(isNilV (errV x68))) (
    VRet h66 (Value.bool false) post) (
    SemCall Go.Proofs.Try.prog 11 (List.toArray [(Value.pointer x6), (Value.int .i64 x45_k)]) h66 fun v69 h70 =>
    ∃ x71 : Int, v69 = (Value.int .i64 x71) ∧
    VIf (x71 == (2 : Int)) (
      ∃ b72 : Addr, (some (Addr.mk r15 0 none)) = some b72 ∧ 0 ≤ x45_k ∧ x45_k < (((p0_n).toNat : Nat) : Int) ∧
      H.wr h70 (Addr.add b72 ((x45_k).toNat * 1)) ([(Value.bool false)]) fun h73 =>
      In64 (x45_k + (1 : Int)) ∧
      ∃ m43, m43 < n42 ∧ (∃ h74, Gh h73 h74 ∧ I41 m43 (x45_k + (1 : Int)) h74)) (
      In64 (x45_k + (1 : Int)) ∧
      ∃ m43, m43 < n42 ∧ (∃ h75, Gh h70 h75 ∧ I41 m43 (x45_k + (1 : Int)) h75)))

def f3_L3 (p0_n : Int) (post : Value → H → Prop) (x6 : Option Addr) (r15 : Nat) (R40 : H → Prop) (I41 : Nat → Int → H → Prop) (n42 : Nat) (x45_k : Int) (h46 : H) : Prop :=
  VIf (decide (x45_k < p0_n)) (
    SemCall Go.Proofs.Try.prog 11 (List.toArray [(Value.pointer x6), (Value.int .i64 x45_k)]) h46 fun v47 h48 =>
    ∃ x49 : Int, v47 = (Value.int .i64 x49) ∧
    ∃ R50 : H → Prop, (
      VIf (x49 == (2 : Int)) (
        ∃ R51 : Bool → H → Prop, (
          SemCall Go.Proofs.Try.prog 12 (List.toArray [(Value.pointer x6), (Value.int .i64 x45_k)]) h48 fun v52 h53 =>
          ∃ x54 : Option (TypeId × Value), v52 = (errV x54) ∧
          isIfaceV (errV x54) = true ∧
          VIf (!(isNilV (errV x54))) (
            (∃ h55, Gh h53 h55 ∧ R51 true h55)) (
            SemCall Go.Proofs.Try.prog 13 (List.toArray [(Value.pointer x6), (Value.int .i64 x45_k)]) h53 fun v56 h57 =>
            ∃ x58 : Option (TypeId × Value), v56 = (errV x58) ∧
            isIfaceV (errV x58) = true ∧
            (∃ h59, Gh h57 h59 ∧ R51 (!(isNilV (errV x58))) h59))) ∧
        ∀ (_ : F) (x60 : Bool) (h61 : H), R51 x60 h61 →
        VIf x60 (
          VRet h61 (Value.bool false) post) (
          (∃ h62, Gh h61 h62 ∧ R50 h62))) (
        (∃ h63, Gh h48 h63 ∧ R50 h63))) ∧
    ∀ (_ : F) (h64 : H), R50 h64 →
    f3_J2 p0_n post x6 r15 I41 n42 x45_k h64) (
    (∃ h76, Gh h46 h76 ∧ R40 h76))

def f3_L4 (p0_n : Int) (post : Value → H → Prop) (x6 : Option Addr) (r15 : Nat) (R32 : H → Prop) (I33 : Nat → Int → H → Prop) (n34 : Nat) (x37_round : Int) (h38 : H) : Prop :=
  VIf (decide (x37_round < (100 : Int))) (
    ∃ R39 : H → Prop, (
      ∃ R40 : H → Prop, (
        ∃ I41 : Nat → Int → H → Prop, (∃ n42, (∃ h44, Gh h38 h44 ∧ I41 n42 (0 : Int) h44)) ∧
        ∀ (n42 : Nat) (_ : F) (x45_k : Int) (h46 : H), I41 n42 x45_k h46 →
        f3_L3 p0_n post x6 r15 R40 I41 n42 x45_k h46) ∧
      ∀ (_ : F) (h77 : H), R40 h77 →
      (∃ h78, Gh h77 h78 ∧ R39 h78)) ∧
    ∀ (_ : F) (h79 : H), R39 h79 →
    In64 (x37_round + (1 : Int)) ∧
    ∃ m35, m35 < n34 ∧ (∃ h80, Gh h79 h80 ∧ I33 m35 (x37_round + (1 : Int)) h80)) (
    (∃ h81, Gh h38 h81 ∧ R32 h81))

def f3_L5 (p0_n : Int) (post : Value → H → Prop) (r15 : Nat) (R83 : H → Prop) (I84 : Nat → Int → H → Prop) (n85 : Nat) (x88_k : Int) (h89 : H) : Prop :=
  VIf (decide (x88_k < p0_n)) (
    ∃ b90 : Addr, (some (Addr.mk r15 0 none)) = some b90 ∧ 0 ≤ x88_k ∧ x88_k < (((p0_n).toNat : Nat) : Int) ∧
    ∃ x91 : Bool, H.rd h89 (Addr.add (Addr.add b90 ((x88_k).toNat * 1)) 0) (Value.bool x91) ∧
    VIf x91 (
      VRet h89 (Value.bool false) post) (
      In64 (x88_k + (1 : Int)) ∧
      ∃ m86, m86 < n85 ∧ (∃ h92, Gh h89 h92 ∧ I84 m86 (x88_k + (1 : Int)) h92))) (
    (∃ h93, Gh h89 h93 ∧ R83 h93))

def f3_J6 (p0_n : Int) (post : Value → H → Prop) (x6 : Option Addr) (r15 : Nat) (h31 : H) : Prop :=
  ∃ R32 : H → Prop, (
    ∃ I33 : Nat → Int → H → Prop, (∃ n34, (∃ h36, Gh h31 h36 ∧ I33 n34 (0 : Int) h36)) ∧
    ∀ (n34 : Nat) (_ : F) (x37_round : Int) (h38 : H), I33 n34 x37_round h38 →
    f3_L4 p0_n post x6 r15 R32 I33 n34 x37_round h38) ∧
  ∀ (_ : F) (h82 : H), R32 h82 →
  ∃ R83 : H → Prop, (
    ∃ I84 : Nat → Int → H → Prop, (∃ n85, (∃ h87, Gh h82 h87 ∧ I84 n85 (0 : Int) h87)) ∧
    ∀ (n85 : Nat) (_ : F) (x88_k : Int) (h89 : H), I84 n85 x88_k h89 →
    f3_L5 p0_n post r15 R83 I84 n85 x88_k h89) ∧
  ∀ (_ : F) (h94 : H), R83 h94 →
  VRet h94 (Value.bool true) post

def f3_sem (p0_n : Int) (p1_steps : SV) (h0 : H) (post : Value → H → Prop) : Prop :=
  SemCall Go.Proofs.Try.prog 8 (List.toArray []) h0 fun v1 h2 =>
  ∃ x3 : Bool, v1 = (Value.bool x3) ∧
  VIf (!x3) (
    VRet h2 (Value.bool false) post) (
    SemCall Go.Proofs.Try.prog 9 (List.toArray [(Value.int .i64 p0_n)]) h2 fun v4 h5 =>
    ∃ x6 : Option Addr, ∃ x7 : Option (TypeId × Value), v4 = (Value.tuple (List.toArray [(Value.pointer x6), (errV x7)])) ∧
    isIfaceV (errV x7) = true ∧
    VIf (!(isNilV (errV x7))) (
      ∃ R8 : Bool → H → Prop, (
        VIf (decide (p0_n < (3 : Int))) (
          (∃ h9, Gh h5 h9 ∧ R8 true h9)) (
          (∃ h10, Gh h5 h10 ∧ R8 (decide (p0_n > (6 : Int))) h10))) ∧
      ∀ (_ : F) (x11 : Bool) (h12 : H), R8 x11 h12 →
      VRet h12 (Value.bool x11) post) (
      SemCall Go.Proofs.Try.prog 10 (List.toArray [(Value.pointer x6), (Value.slice p1_steps.a p1_steps.len p1_steps.cap)]) h5 fun v13 h14 =>
      v13 = (Value.tuple (List.toArray [])) ∧
      0 ≤ p0_n ∧ p0_n ≤ p0_n ∧ ((1 : Nat) : Int) * p0_n ≤ 140737488355328 ∧ p0_n ≤ 1000000000 ∧
      H.new h14 (repl (p0_n).toNat [(Value.bool false)]) fun r15 h16 =>
      ∃ R17 : H → Prop, (
        ∃ I18 : Nat → Int → H → Prop, (∃ n19, (∃ h21, Gh h16 h21 ∧ I18 n19 (0 : Int) h21)) ∧
        ∀ (n19 : Nat) (_ : F) (x22_k : Int) (h23 : H), I18 n19 x22_k h23 →
        f3_L1 p0_n x6 r15 R17 I18 n19 x22_k h23) ∧
      ∀ (_ : F) (h31 : H), R17 h31 →
      f3_J6 p0_n post x6 r15 h31))

def f3_hint : Hint := (.node .leaf (.node .leaf (.node .leaf (.node .leaf (.node (.node .leaf (.node (.node (.join [(4, .bool)] .leaf) .leaf) .leaf)) (.node .leaf (.node .leaf (.node (.node .leaf (.join [] (.node (.loop [(9, .int)] .leaf) .leaf))) (.node (.node .leaf (.join [] (.node (.loop [(10, .int)] (.node .leaf (.node (.join [] (.node (.node .leaf (.join [] (.node (.loop [(11, .int)] (.node .leaf (.node (.node (.node (.node .leaf (.join [] (.node (.node (.join [(70, .bool)] .leaf) .leaf) .leaf))) .leaf) .leaf) .leaf))) .leaf))) .leaf)) .leaf))) .leaf))) (.node (.node .leaf (.join [] (.node (.loop [(14, .int)] .leaf) .leaf))) .leaf))))))))))

theorem f3_eq (p0_n : Int) (p1_steps : SV) (h0 : H) (post : Value → H → Prop) : exec Try.prog (bodyOf Try.f3) f3_hint (retQ Try.prog Try.f3 post) (F0 [(Value.int .i64 p0_n), (Value.slice p1_steps.a p1_steps.len p1_steps.cap)]) h0 = f3_sem p0_n p1_steps h0 post := by kernel_rfl

set_option maxRecDepth 20000 in
theorem f3_call (p0_n : Int) (p1_steps : SV) (h0 : H) (post : Value → H → Prop) (hx : f3_sem p0_n p1_steps h0 post) : SemCall Try.prog 3 (List.toArray [(Value.int .i64 p0_n), (Value.slice p1_steps.a p1_steps.len p1_steps.cap)]) h0 post :=
  sem_of_exec (g := f3_hint) mixed Try.func3 (bodyOf_eq (by kernel_rfl)) (by kernel_rfl) ((f3_eq p0_n p1_steps h0 post).mpr hx)

/- latchgarth/latchgarthlaw4.DineKnot -/
def f4_L1 (p0_n : Int) (post : Value → H → Prop) (x14 : Option Addr) (R23 : Bool → H → Prop) (I24 : Nat → Bool → Int → H → Prop) (n25 : Nat) (x28_hungers : Bool) (x29_g : Int) (h30 : H) : Prop :=
  VIf (decide (x29_g < p0_n)) (
    SemCall Go.Proofs.Try.prog 11 (List.toArray [(Value.pointer x14), (Value.int .i64 x29_g)]) h30 fun v31 h32 =>
    ∃ x33 : Int, v31 = (Value.int .i64 x33) ∧
    VIf (x33 == (2 : Int)) (
      VRet h32 (Value.bool true) post) (
      ∃ R34 : Bool → H → Prop, (
        VIf x28_hungers (
          (∃ h35, Gh h32 h35 ∧ R34 true h35)) (
          SemCall Go.Proofs.Try.prog 11 (List.toArray [(Value.pointer x14), (Value.int .i64 x29_g)]) h32 fun v36 h37 =>
          ∃ x38 : Int, v36 = (Value.int .i64 x38) ∧
          (∃ h39, Gh h37 h39 ∧ R34 (x38 == (1 : Int)) h39))) ∧
      ∀ (_ : F) (x40_hungers : Bool) (h41 : H), R34 x40_hungers h41 →
      In64 (x29_g + (1 : Int)) ∧
      ∃ m26, m26 < n25 ∧ (∃ h42, Gh h41 h42 ∧ I24 m26 x40_hungers (x29_g + (1 : Int)) h42))) (
    (∃ h43, Gh h30 h43 ∧ R23 x28_hungers h43))

def f4_L2 (p0_n : Int) (p1_steps : SV) (post : Value → H → Prop) (R4 : H → Prop) (I5 : Nat → Int → H → Prop) (n6 : Nat) (x9_k : Int) (h10 : H) : Prop :=
  VIf (decide (x9_k < (6 : Int))) (
    ∃ R11 : H → Prop, (
      SemCall Go.Proofs.Try.prog 9 (List.toArray [(Value.int .i64 p0_n)]) h10 fun v12 h13 =>
      ∃ x14 : Option Addr, ∃ x15 : Option (TypeId × Value), v12 = (Value.tuple (List.toArray [(Value.pointer x14), (errV x15)])) ∧
      isIfaceV (errV x15) = true ∧
      VIf (!(isNilV (errV x15))) (
        ∃ R16 : Bool → H → Prop, (
          VIf (decide (p0_n < (3 : Int))) (
            (∃ h17, Gh h13 h17 ∧ R16 true h17)) (
            (∃ h18, Gh h13 h18 ∧ R16 (decide (p0_n > (6 : Int))) h18))) ∧
        ∀ (_ : F) (x19 : Bool) (h20 : H), R16 x19 h20 →
        VRet h20 (Value.bool x19) post) (
        SemCall Go.Proofs.Try.prog 10 (List.toArray [(Value.pointer x14), (Value.slice p1_steps.a p1_steps.len p1_steps.cap)]) h13 fun v21 h22 =>
        v21 = (Value.tuple (List.toArray [])) ∧
        ∃ R23 : Bool → H → Prop, (
          ∃ I24 : Nat → Bool → Int → H → Prop, (∃ n25, (∃ h27, Gh h22 h27 ∧ I24 n25 false (0 : Int) h27)) ∧
          ∀ (n25 : Nat) (_ : F) (x28_hungers : Bool) (x29_g : Int) (h30 : H), I24 n25 x28_hungers x29_g h30 →
          f4_L1 p0_n post x14 R23 I24 n25 x28_hungers x29_g h30) ∧
        ∀ (_ : F) (x44_hungers : Bool) (h45 : H), R23 x44_hungers h45 →
        VIf (!x44_hungers) (
          VRet h45 (Value.bool true) post) (
          SemCall Go.Proofs.Try.prog 14 (List.toArray [(Value.pointer x14), (Value.int .i64 x9_k)]) h45 fun v46 h47 =>
          ∃ x48 : Bool, ∃ x49 : Option (TypeId × Value), v46 = (Value.tuple (List.toArray [(Value.bool x48), (errV x49)])) ∧
          VIf x48 (
            VRet h47 (Value.bool true) post) (
            (∃ h50, Gh h47 h50 ∧ R11 h50))))) ∧
    ∀ (_ : F) (h51 : H), R11 h51 →
    In64 (x9_k + (1 : Int)) ∧
    ∃ m7, m7 < n6 ∧ (∃ h52, Gh h51 h52 ∧ I5 m7 (x9_k + (1 : Int)) h52)) (
    (∃ h53, Gh h10 h53 ∧ R4 h53))

def f4_sem (p0_n : Int) (p1_steps : SV) (h0 : H) (post : Value → H → Prop) : Prop :=
  SemCall Go.Proofs.Try.prog 8 (List.toArray []) h0 fun v1 h2 =>
  ∃ x3 : Bool, v1 = (Value.bool x3) ∧
  VIf (!x3) (
    VRet h2 (Value.bool false) post) (
    ∃ R4 : H → Prop, (
      ∃ I5 : Nat → Int → H → Prop, (∃ n6, (∃ h8, Gh h2 h8 ∧ I5 n6 (0 : Int) h8)) ∧
      ∀ (n6 : Nat) (_ : F) (x9_k : Int) (h10 : H), I5 n6 x9_k h10 →
      f4_L2 p0_n p1_steps post R4 I5 n6 x9_k h10) ∧
    ∀ (_ : F) (h54 : H), R4 h54 →
    VRet h54 (Value.bool false) post)

def f4_hint : Hint := (.node .leaf (.node .leaf (.node .leaf (.node (.node .leaf (.join [] (.node (.loop [(6, .int)] (.node .leaf (.node (.join [] (.node (.node .leaf (.node (.node .leaf (.node (.node (.join [(4, .bool)] .leaf) .leaf) .leaf)) (.node .leaf (.node .leaf (.node (.node .leaf (.join [(9, .bool)] (.node (.loop [(9, .bool), (10, .int)] (.node .leaf (.node (.node (.node .leaf (.join [(9, .bool)] .leaf)) .leaf) .leaf))) .leaf))) .leaf))))) .leaf)) .leaf))) .leaf))) .leaf))))

theorem f4_eq (p0_n : Int) (p1_steps : SV) (h0 : H) (post : Value → H → Prop) : exec Try.prog (bodyOf Try.f4) f4_hint (retQ Try.prog Try.f4 post) (F0 [(Value.int .i64 p0_n), (Value.slice p1_steps.a p1_steps.len p1_steps.cap)]) h0 = f4_sem p0_n p1_steps h0 post := by kernel_rfl

set_option maxRecDepth 20000 in
theorem f4_call (p0_n : Int) (p1_steps : SV) (h0 : H) (post : Value → H → Prop) (hx : f4_sem p0_n p1_steps h0 post) : SemCall Try.prog 4 (List.toArray [(Value.int .i64 p0_n), (Value.slice p1_steps.a p1_steps.len p1_steps.cap)]) h0 post :=
  sem_of_exec (g := f4_hint) mixed Try.func4 (bodyOf_eq (by kernel_rfl)) (by kernel_rfl) ((f4_eq p0_n p1_steps h0 post).mpr hx)

/- latchgarth/latchgarthlaw4.DineApart -/
def f5_J1 (p0_n : Int) (post : Value → H → Prop) (x6 : Option Addr) (x34 : SV) (x35 : SV) (I42 : Nat → Int → H → Prop) (n43 : Nat) (x46_k : Int) (x63 : Bool) (h64 : H) : Prop :=
  VIf x63 (
    VRet h64 (Value.bool false) post) (
    ∃ R65 : Bool → H → Prop, (
      ∃ b66 : Addr, x34.a = some b66 ∧ 0 ≤ x46_k ∧ x46_k < ((x34.len : Nat) : Int) ∧
      ∃ x67 : Int, H.rd h64 (Addr.add (Addr.add b66 ((x46_k).toNat * 1)) 0) (Value.int .i64 x67) ∧
      VIf (x67 != x46_k) (
        ∃ b68 : Addr, x34.a = some b68 ∧ 0 ≤ x46_k ∧ x46_k < ((x34.len : Nat) : Int) ∧
        ∃ x69 : Int, H.rd h64 (Addr.add (Addr.add b68 ((x46_k).toNat * 1)) 0) (Value.int .i64 x69) ∧
        VIf (x69 != (Int.tmod (x46_k + (1 : Int)) p0_n)) (
          (∃ h70, Gh h64 h70 ∧ R65 true h70)) (
          ∃ b71 : Addr, x35.a = some b71 ∧ 0 ≤ x46_k ∧ x46_k < ((x35.len : Nat) : Int) ∧
          ∃ x72 : Bool, H.rd h64 (Addr.add (Addr.add b71 ((x46_k).toNat * 1)) 0) (Value.bool x72) ∧
          VIf (!x72) (
            ∃ b73 : Addr, x34.a = some b73 ∧ 0 ≤ x46_k ∧ x46_k < ((x34.len : Nat) : Int) ∧
            ∃ x74 : Int, H.rd h64 (Addr.add (Addr.add b73 ((x46_k).toNat * 1)) 0) (Value.int .i64 x74) ∧
            SemCall Go.Proofs.Try.prog 11 (List.toArray [(Value.pointer x6), (Value.int .i64 x74)]) h64 fun v75 h76 =>
            ∃ x77 : Int, v75 = (Value.int .i64 x77) ∧
            (∃ h78, Gh h76 h78 ∧ R65 (x77 != (1 : Int)) h78)) (
            (∃ h79, Gh h64 h79 ∧ R65 false h79)))) (
        ∃ b80 : Addr, x35.a = some b80 ∧ 0 ≤ x46_k ∧ x46_k < ((x35.len : Nat) : Int) ∧
        ∃ x81 : Bool, H.rd h64 (Addr.add (Addr.add b80 ((x46_k).toNat * 1)) 0) (Value.bool x81) ∧
        VIf (!x81) (
          ∃ b82 : Addr, x34.a = some b82 ∧ 0 ≤ x46_k ∧ x46_k < ((x34.len : Nat) : Int) ∧
          ∃ x83 : Int, H.rd h64 (Addr.add (Addr.add b82 ((x46_k).toNat * 1)) 0) (Value.int .i64 x83) ∧
          SemCall Go.Proofs.Try.prog 11 (List.toArray [(Value.pointer x6), (Value.int .i64 x83)]) h64 fun v84 h85 =>
          ∃ x86 : Int, v84 = (Value.int .i64 x86) ∧
          (∃ h87, Gh h85 h87 ∧ R65 (x86 != (1 : Int)) h87)) (
          (∃ h88, Gh h64 h88 ∧ R65 false h88)))) ∧
    ∀ (_ : F) (x89 : Bool) (h90 : H), R65 x89 h90 →
    VIf x89 (
      VRet h90 (Value.bool false) post) (
      In64 (x46_k + (1 : Int)) ∧
      ∃ m44, m44 < n43 ∧ (∃ h91, Gh h90 h91 ∧ I42 m44 (x46_k + (1 : Int)) h91)))

def f5_L2 (p0_n : Int) (post : Value → H → Prop) (x6 : Option Addr) (x34 : SV) (x35 : SV) (R41 : H → Prop) (I42 : Nat → Int → H → Prop) (n43 : Nat) (x46_k : Int) (h47 : H) : Prop :=
  VIf (decide (x46_k < p0_n)) (
    In64 (x46_k + (1 : Int)) ∧
    p0_n ≠ 0 ∧
    ∃ R48 : Bool → H → Prop, (
      SemCall Go.Proofs.Try.prog 11 (List.toArray [(Value.pointer x6), (Value.int .i64 x46_k)]) h47 fun v49 h50 =>
      ∃ x51 : Int, v49 = (Value.int .i64 x51) ∧
      VIf (x51 == (2 : Int)) (
        SemCall Go.Proofs.Try.prog 11 (List.toArray [(Value.pointer x6), (Value.int .i64 (Int.tmod (x46_k + (1 : Int)) p0_n))]) h50 fun v52 h53 =>
        ∃ x54 : Int, v52 = (Value.int .i64 x54) ∧
        VIf (x54 == (2 : Int)) (
          (∃ h55, Gh h53 h55 ∧ R48 true h55)) (
          ∃ b56 : Addr, x34.a = some b56 ∧ 0 ≤ x46_k ∧ x46_k < ((x34.len : Nat) : Int) ∧
          ∃ x57 : Int, H.rd h53 (Addr.add (Addr.add b56 ((x46_k).toNat * 1)) 0) (Value.int .i64 x57) ∧
          VIf (x57 != x46_k) (
            (∃ h58, Gh h53 h58 ∧ R48 true h58)) (
            In64 (x46_k + p0_n) ∧
            In64 ((x46_k + p0_n) - (1 : Int)) ∧
            p0_n ≠ 0 ∧
            ∃ b59 : Addr, x34.a = some b59 ∧ 0 ≤ (Int.tmod ((x46_k + p0_n) - (1 : Int)) p0_n) ∧ (Int.tmod ((x46_k + p0_n) - (1 : Int)) p0_n) < ((x34.len : Nat) : Int) ∧
            ∃ x60 : Int, H.rd h53 (Addr.add (Addr.add b59 (((Int.tmod ((x46_k + p0_n) - (1 : Int)) p0_n)).toNat * 1)) 0) (Value.int .i64 x60) ∧
            (∃ h61, Gh h53 h61 ∧ R48 (x60 != x46_k) h61)))) (
        (∃ h62, Gh h50 h62 ∧ R48 false h62))) ∧
    ∀ (_ : F) (x63 : Bool) (h64 : H), R48 x63 h64 →
    f5_J1 p0_n post x6 x34 x35 I42 n43 x46_k x63 h64) (
    (∃ h92, Gh h47 h92 ∧ R41 h92))

def f5_J3 (p0_n : Int) (post : Value → H → Prop) (x6 : Option Addr) (R25 : H → Prop) (h31 : H) : Prop :=
  SemCall Go.Proofs.Try.prog 15 (List.toArray [(Value.pointer x6)]) h31 fun v32 h33 =>
  ∃ x34 : SV, ∃ x35 : SV, v32 = (Value.tuple (List.toArray [(Value.slice x34.a x34.len x34.cap), (Value.slice x35.a x35.len x35.cap)])) ∧
  ∃ R36 : Bool → H → Prop, (
    VIf (((x34.len : Nat) : Int) != p0_n) (
      (∃ h37, Gh h33 h37 ∧ R36 true h37)) (
      (∃ h38, Gh h33 h38 ∧ R36 (((x35.len : Nat) : Int) != p0_n) h38))) ∧
  ∀ (_ : F) (x39 : Bool) (h40 : H), R36 x39 h40 →
  VIf x39 (
    VRet h40 (Value.bool false) post) (
    ∃ R41 : H → Prop, (
      ∃ I42 : Nat → Int → H → Prop, (∃ n43, (∃ h45, Gh h40 h45 ∧ I42 n43 (0 : Int) h45)) ∧
      ∀ (n43 : Nat) (_ : F) (x46_k : Int) (h47 : H), I42 n43 x46_k h47 →
      f5_L2 p0_n post x6 x34 x35 R41 I42 n43 x46_k h47) ∧
    ∀ (_ : F) (h93 : H), R41 h93 →
    (∃ h94, Gh h93 h94 ∧ R25 h94))

def f5_J4 (p0_n : Int) (p1_steps : SV) (post : Value → H → Prop) (x6 : Option Addr) (R13 : H → Prop) (I14 : Nat → Int → H → Prop) (n15 : Nat) (x18_i : Int) (x23 : Bool) (h24 : H) : Prop :=
  VIf x23 (
    ∃ R25 : H → Prop, (
      ∃ R26 : H → Prop, (
        VIf (decide (x18_i > (0 : Int))) (
          In64 (x18_i - (1 : Int)) ∧
          0 ≤ x18_i ∧ x18_i ≤ ((p1_steps.cap : Nat) : Int) ∧ 0 ≤ (x18_i - (1 : Int)) ∧ (x18_i - (1 : Int)) ≤ x18_i ∧
          SemCall Go.Proofs.Try.prog 10 (List.toArray [(Value.pointer x6), (Value.slice (if p1_steps.cap = ((x18_i - (1 : Int))).toNat then p1_steps.a else Option.map (fun z => Addr.add z (((x18_i - (1 : Int))).toNat * 1)) p1_steps.a) ((x18_i).toNat - ((x18_i - (1 : Int))).toNat) (p1_steps.cap - ((x18_i - (1 : Int))).toNat))]) h24 fun v27 h28 =>
          v27 = (Value.tuple (List.toArray [])) ∧
          (∃ h29, Gh h28 h29 ∧ R26 h29)) (
          (∃ h30, Gh h24 h30 ∧ R26 h30))) ∧
      ∀ (_ : F) (h31 : H), R26 h31 →
      f5_J3 p0_n post x6 R25 h31) ∧
    ∀ (_ : F) (h95 : H), R25 h95 →
    In64 (x18_i + (1 : Int)) ∧
    ∃ m16, m16 < n15 ∧ (∃ h96, Gh h95 h96 ∧ I14 m16 (x18_i + (1 : Int)) h96)) (
    (∃ h97, Gh h24 h97 ∧ R13 h97))

def f5_L5 (p0_n : Int) (p1_steps : SV) (post : Value → H → Prop) (x6 : Option Addr) (R13 : H → Prop) (I14 : Nat → Int → H → Prop) (n15 : Nat) (x18_i : Int) (h19 : H) : Prop :=
  ∃ R20 : Bool → H → Prop, (
    VIf (decide (x18_i ≤ ((p1_steps.len : Nat) : Int))) (
      (∃ h21, Gh h19 h21 ∧ R20 (decide (x18_i < (150 : Int))) h21)) (
      (∃ h22, Gh h19 h22 ∧ R20 false h22))) ∧
  ∀ (_ : F) (x23 : Bool) (h24 : H), R20 x23 h24 →
  f5_J4 p0_n p1_steps post x6 R13 I14 n15 x18_i x23 h24

def f5_sem (p0_n : Int) (p1_steps : SV) (h0 : H) (post : Value → H → Prop) : Prop :=
  SemCall Go.Proofs.Try.prog 8 (List.toArray []) h0 fun v1 h2 =>
  ∃ x3 : Bool, v1 = (Value.bool x3) ∧
  VIf (!x3) (
    VRet h2 (Value.bool false) post) (
    SemCall Go.Proofs.Try.prog 9 (List.toArray [(Value.int .i64 p0_n)]) h2 fun v4 h5 =>
    ∃ x6 : Option Addr, ∃ x7 : Option (TypeId × Value), v4 = (Value.tuple (List.toArray [(Value.pointer x6), (errV x7)])) ∧
    isIfaceV (errV x7) = true ∧
    VIf (!(isNilV (errV x7))) (
      ∃ R8 : Bool → H → Prop, (
        VIf (decide (p0_n < (3 : Int))) (
          (∃ h9, Gh h5 h9 ∧ R8 true h9)) (
          (∃ h10, Gh h5 h10 ∧ R8 (decide (p0_n > (6 : Int))) h10))) ∧
      ∀ (_ : F) (x11 : Bool) (h12 : H), R8 x11 h12 →
      VRet h12 (Value.bool x11) post) (
      ∃ R13 : H → Prop, (
        ∃ I14 : Nat → Int → H → Prop, (∃ n15, (∃ h17, Gh h5 h17 ∧ I14 n15 (0 : Int) h17)) ∧
        ∀ (n15 : Nat) (_ : F) (x18_i : Int) (h19 : H), I14 n15 x18_i h19 →
        f5_L5 p0_n p1_steps post x6 R13 I14 n15 x18_i h19) ∧
      ∀ (_ : F) (h98 : H), R13 h98 →
      VRet h98 (Value.bool true) post))

def f5_hint : Hint := (.node .leaf (.node .leaf (.node .leaf (.node .leaf (.node (.node .leaf (.node (.node (.join [(4, .bool)] .leaf) .leaf) .leaf)) (.node (.node .leaf (.join [] (.node (.loop [(8, .int)] (.node (.node (.join [(36, .bool)] .leaf) .leaf) (.node (.join [] (.node (.node (.node .leaf (.join [] .leaf)) (.node .leaf (.node (.node (.join [(62, .bool)] .leaf) .leaf) (.node .leaf (.join [] (.node (.loop [(11, .int)] (.node .leaf (.node (.node (.node .leaf (.node (.node (.join [(102, .bool)] .leaf) .leaf) (.node (.join [(132, .bool)] .leaf) .leaf))) .leaf) .leaf))) .leaf)))))) .leaf)) .leaf))) .leaf))) .leaf))))))

theorem f5_eq (p0_n : Int) (p1_steps : SV) (h0 : H) (post : Value → H → Prop) : exec Try.prog (bodyOf Try.f5) f5_hint (retQ Try.prog Try.f5 post) (F0 [(Value.int .i64 p0_n), (Value.slice p1_steps.a p1_steps.len p1_steps.cap)]) h0 = f5_sem p0_n p1_steps h0 post := by kernel_rfl

set_option maxRecDepth 20000 in
theorem f5_call (p0_n : Int) (p1_steps : SV) (h0 : H) (post : Value → H → Prop) (hx : f5_sem p0_n p1_steps h0 post) : SemCall Try.prog 5 (List.toArray [(Value.int .i64 p0_n), (Value.slice p1_steps.a p1_steps.len p1_steps.cap)]) h0 post :=
  sem_of_exec (g := f5_hint) mixed Try.func5 (bodyOf_eq (by kernel_rfl)) (by kernel_rfl) ((f5_eq p0_n p1_steps h0 post).mpr hx)

/- latchgarth/latchgarthlaw4.dineFact -/
def f8_J1 (post : Value → H → Prop) (x3 : Option Addr) (x11 : Bool) (h12 : H) : Prop :=
  VIf x11 (
    VRet h12 (Value.bool false) post) (
    SemCall Go.Proofs.Try.prog 14 (List.toArray [(Value.pointer x3), (Value.int .i64 (0 : Int))]) h12 fun v13 h14 =>
    ∃ x15 : Bool, ∃ x16 : Option (TypeId × Value), v13 = (Value.tuple (List.toArray [(Value.bool x15), (errV x16)])) ∧
    ∃ R17 : Bool → H → Prop, (
      isIfaceV (errV x16) = true ∧
      VIf (isNilV (errV x16)) (
        VIf x15 (
          SemCall Go.Proofs.Try.prog 11 (List.toArray [(Value.pointer x3), (Value.int .i64 (0 : Int))]) h14 fun v18 h19 =>
          ∃ x20 : Int, v18 = (Value.int .i64 x20) ∧
          VIf (x20 == (2 : Int)) (
            SemCall Go.Proofs.Try.prog 11 (List.toArray [(Value.pointer x3), (Value.int .i64 (1 : Int))]) h19 fun v21 h22 =>
            ∃ x23 : Int, v21 = (Value.int .i64 x23) ∧
            (∃ h24, Gh h22 h24 ∧ R17 (x23 == (0 : Int)) h24)) (
            (∃ h25, Gh h19 h25 ∧ R17 false h25))) (
          (∃ h26, Gh h14 h26 ∧ R17 false h26))) (
        (∃ h27, Gh h14 h27 ∧ R17 false h27))) ∧
    ∀ (_ : F) (x28 : Bool) (h29 : H), R17 x28 h29 →
    VRet h29 (Value.bool x28) post)

def f8_sem (h0 : H) (post : Value → H → Prop) : Prop :=
  SemCall Go.Proofs.Try.prog 9 (List.toArray [(Value.int .i64 (3 : Int))]) h0 fun v1 h2 =>
  ∃ x3 : Option Addr, ∃ x4 : Option (TypeId × Value), v1 = (Value.tuple (List.toArray [(Value.pointer x3), (errV x4)])) ∧
  ∃ R5 : Bool → H → Prop, (
    isIfaceV (errV x4) = true ∧
    VIf (!(isNilV (errV x4))) (
      (∃ h6, Gh h2 h6 ∧ R5 true h6)) (
      SemCall Go.Proofs.Try.prog 13 (List.toArray [(Value.pointer x3), (Value.int .i64 (0 : Int))]) h2 fun v7 h8 =>
      ∃ x9 : Option (TypeId × Value), v7 = (errV x9) ∧
      isIfaceV (errV x9) = true ∧
      (∃ h10, Gh h8 h10 ∧ R5 (!(isNilV (errV x9))) h10))) ∧
  ∀ (_ : F) (x11 : Bool) (h12 : H), R5 x11 h12 →
  f8_J1 post x3 x11 h12

def f8_hint : Hint := (.node .leaf (.node .leaf (.node (.node (.join [(15, .bool)] .leaf) .leaf) (.node .leaf (.node (.join [(0, .bool)] .leaf) .leaf)))))

theorem f8_eq (h0 : H) (post : Value → H → Prop) : exec Try.prog (bodyOf Try.f8) f8_hint (retQ Try.prog Try.f8 post) (F0 []) h0 = f8_sem h0 post := by kernel_rfl

set_option maxRecDepth 20000 in
theorem f8_call (h0 : H) (post : Value → H → Prop) (hx : f8_sem h0 post) : SemCall Try.prog 8 (List.toArray []) h0 post :=
  sem_of_exec (g := f8_hint) mixed Try.func8 (bodyOf_eq (by kernel_rfl)) (by kernel_rfl) ((f8_eq h0 post).mpr hx)

/- latchgarth/dine.New -/
def f9_L1 (p0_n : Int) (r6 : Nat) (R8 : H → Prop) (I9 : Nat → Int → H → Prop) (n10 : Nat) (x13 : Int) (h14 : H) : Prop :=
  VIf (decide (x13 < p0_n)) (
    In64 (x13 + (1 : Int)) ∧
    p0_n ≠ 0 ∧
    ∃ a15 : Addr, (some (Addr.mk r6 0 none)) = some a15 ∧
    ∃ x16 : SV, H.rd h14 (Addr.add (Addr.add a15 1) 0) (Value.slice x16.a x16.len x16.cap) ∧
    H.new h14 [(Value.int .i64 (if (Int.tmod (x13 + (1 : Int)) p0_n) < x13 then (Int.tmod (x13 + (1 : Int)) p0_n) else x13)), (Value.int .i64 (if (Int.tmod (x13 + (1 : Int)) p0_n) > x13 then (Int.tmod (x13 + (1 : Int)) p0_n) else x13)), (Value.bool true)] fun r17 h18 =>
    appVC Go.Proofs.Try.prog 52 (Value.slice x16.a x16.len x16.cap) (Value.slice (some (Addr.mk r17 0 none)) 1 1) h18 fun x19 h20 =>
    ∃ a21 : Addr, (some (Addr.mk r6 0 none)) = some a21 ∧
    H.wr h20 (Addr.add a21 1) ([(Value.slice x19.a x19.len x19.cap)]) fun h22 =>
    In64 (x13 + (1 : Int)) ∧
    ∃ m11, m11 < n10 ∧ (∃ h23, Gh h22 h23 ∧ I9 m11 (x13 + (1 : Int)) h23)) (
    (∃ h24, Gh h14 h24 ∧ R8 h24))

def f9_sem (p0_n : Int) (h0 : H) (post : Value → H → Prop) : Prop :=
  SemCall Go.Proofs.Try.prog 24 (List.toArray [(Value.int .i64 p0_n), (Value.int .i64 (3 : Int)), (Value.int .i64 (6 : Int))]) h0 fun v1 h2 =>
  ∃ x3 : Bool, v1 = (Value.bool x3) ∧
  VIf (!x3) (
    VRet h2 (Value.tuple (List.toArray [(Value.pointer none), (Value.iface 51 (Value.int .i64 (1 : Int)))])) post) (
    0 ≤ p0_n ∧ p0_n ≤ p0_n ∧ ((8 : Nat) : Int) * p0_n ≤ 140737488355328 ∧ p0_n ≤ 1000000000 ∧
    H.new h2 (repl (p0_n).toNat [(Value.int .i64 (0 : Int))]) fun r4 h5 =>
    H.new h5 [(Value.slice (some (Addr.mk r4 0 none)) ((p0_n).toNat) ((p0_n).toNat)), (Value.slice none 0 0)] fun r6 h7 =>
    ∃ R8 : H → Prop, (
      ∃ I9 : Nat → Int → H → Prop, (∃ n10, (∃ h12, Gh h7 h12 ∧ I9 n10 (0 : Int) h12)) ∧
      ∀ (n10 : Nat) (_ : F) (x13 : Int) (h14 : H), I9 n10 x13 h14 →
      f9_L1 p0_n r6 R8 I9 n10 x13 h14) ∧
    ∀ (_ : F) (h25 : H), R8 h25 →
    VRet h25 (Value.tuple (List.toArray [(Value.pointer (some (Addr.mk r6 0 none))), Value.nilIface])) post)

def f9_hint : Hint := (.node .leaf (.node .leaf (.node .leaf (.node (.node .leaf (.join [] (.node (.loop [(16, .int)] .leaf) .leaf))) .leaf))))

theorem f9_eq (p0_n : Int) (h0 : H) (post : Value → H → Prop) : exec Try.prog (bodyOf Try.f9) f9_hint (retQ Try.prog Try.f9 post) (F0 [(Value.int .i64 p0_n)]) h0 = f9_sem p0_n h0 post := by kernel_rfl

set_option maxRecDepth 20000 in
theorem f9_call (p0_n : Int) (h0 : H) (post : Value → H → Prop) (hx : f9_sem p0_n h0 post) : SemCall Try.prog 9 (List.toArray [(Value.int .i64 p0_n)]) h0 post :=
  sem_of_exec (g := f9_hint) mixed Try.func9 (bodyOf_eq (by kernel_rfl)) (by kernel_rfl) ((f9_eq p0_n h0 post).mpr hx)

/- latchgarth/latchgarthlaw4.happens -/
def f10_J1 (p0_t : Option Addr) (I2 : Nat → Int → H → Prop) (n3 : Nat) (x6_i : Int) (x14 : SV) (h40 : H) : Prop :=
  ∃ R41 : Bool → H → Prop, (
    VIf (((x14.len : Nat) : Int) == (2 : Int)) (
      ∃ b42 : Addr, x14.a = some b42 ∧ 0 ≤ (1 : Int) ∧ (1 : Int) < ((x14.len : Nat) : Int) ∧
      ∃ x43 : Int, H.rd h40 (Addr.add (Addr.add b42 (((1 : Int)).toNat * 1)) 0) (Value.int .i64 x43) ∧
      (∃ h44, Gh h40 h44 ∧ R41 (x43 != (0 : Int)) h44)) (
      (∃ h45, Gh h40 h45 ∧ R41 false h45))) ∧
  ∀ (_ : F) (x46 : Bool) (h47 : H), R41 x46 h47 →
  VIf x46 (
    ∃ b48 : Addr, x14.a = some b48 ∧ 0 ≤ (0 : Int) ∧ (0 : Int) < ((x14.len : Nat) : Int) ∧
    ∃ x49 : Int, H.rd h47 (Addr.add (Addr.add b48 (((0 : Int)).toNat * 1)) 0) (Value.int .i64 x49) ∧
    SemCall Go.Proofs.Try.prog 12 (List.toArray [(Value.pointer p0_t), (Value.int .i64 x49)]) h47 fun v50 h51 =>
    ∃ x52 : Option (TypeId × Value), v50 = (errV x52) ∧
    In64 (x6_i + (1 : Int)) ∧
    ∃ m4, m4 < n3 ∧ (∃ h53, Gh h51 h53 ∧ I2 m4 (x6_i + (1 : Int)) h53)) (
    In64 (x6_i + (1 : Int)) ∧
    ∃ m4, m4 < n3 ∧ (∃ h54, Gh h47 h54 ∧ I2 m4 (x6_i + (1 : Int)) h54))

def f10_J2 (p0_t : Option Addr) (I2 : Nat → Int → H → Prop) (n3 : Nat) (x6_i : Int) (x14 : SV) (x30 : Bool) (h31 : H) : Prop :=
  ∃ R32 : H → Prop, (
    VIf x30 (
      ∃ b33 : Addr, x14.a = some b33 ∧ 0 ≤ (0 : Int) ∧ (0 : Int) < ((x14.len : Nat) : Int) ∧
      ∃ x34 : Int, H.rd h31 (Addr.add (Addr.add b33 (((0 : Int)).toNat * 1)) 0) (Value.int .i64 x34) ∧
      SemCall Go.Proofs.Try.prog 13 (List.toArray [(Value.pointer p0_t), (Value.int .i64 x34)]) h31 fun v35 h36 =>
      ∃ x37 : Option (TypeId × Value), v35 = (errV x37) ∧
      (∃ h38, Gh h36 h38 ∧ R32 h38)) (
      (∃ h39, Gh h31 h39 ∧ R32 h39))) ∧
  ∀ (_ : F) (h40 : H), R32 h40 →
  f10_J1 p0_t I2 n3 x6_i x14 h40

def f10_J3 (p0_t : Option Addr) (p1_steps : SV) (R1 : H → Prop) (I2 : Nat → Int → H → Prop) (n3 : Nat) (x6_i : Int) (x11 : Bool) (h12 : H) : Prop :=
  VIf x11 (
    ∃ b13 : Addr, p1_steps.a = some b13 ∧ 0 ≤ x6_i ∧ x6_i < ((p1_steps.len : Nat) : Int) ∧
    ∃ x14 : SV, H.rd h12 (Addr.add (Addr.add b13 ((x6_i).toNat * 1)) 0) (Value.slice x14.a x14.len x14.cap) ∧
    ∃ R15 : H → Prop, (
      VIf (((x14.len : Nat) : Int) == (1 : Int)) (
        ∃ b16 : Addr, x14.a = some b16 ∧ 0 ≤ (0 : Int) ∧ (0 : Int) < ((x14.len : Nat) : Int) ∧
        ∃ x17 : Int, H.rd h12 (Addr.add (Addr.add b16 (((0 : Int)).toNat * 1)) 0) (Value.int .i64 x17) ∧
        SemCall Go.Proofs.Try.prog 14 (List.toArray [(Value.pointer p0_t), (Value.int .i64 x17)]) h12 fun v18 h19 =>
        ∃ x20 : Bool, ∃ x21 : Option (TypeId × Value), v18 = (Value.tuple (List.toArray [(Value.bool x20), (errV x21)])) ∧
        (∃ h22, Gh h19 h22 ∧ R15 h22)) (
        (∃ h23, Gh h12 h23 ∧ R15 h23))) ∧
    ∀ (_ : F) (h24 : H), R15 h24 →
    ∃ R25 : Bool → H → Prop, (
      VIf (((x14.len : Nat) : Int) == (2 : Int)) (
        ∃ b26 : Addr, x14.a = some b26 ∧ 0 ≤ (1 : Int) ∧ (1 : Int) < ((x14.len : Nat) : Int) ∧
        ∃ x27 : Int, H.rd h24 (Addr.add (Addr.add b26 (((1 : Int)).toNat * 1)) 0) (Value.int .i64 x27) ∧
        (∃ h28, Gh h24 h28 ∧ R25 (x27 == (0 : Int)) h28)) (
        (∃ h29, Gh h24 h29 ∧ R25 false h29))) ∧
    ∀ (_ : F) (x30 : Bool) (h31 : H), R25 x30 h31 →
    f10_J2 p0_t I2 n3 x6_i x14 x30 h31) (
    (∃ h55, Gh h12 h55 ∧ R1 h55))

def f10_L4 (p0_t : Option Addr) (p1_steps : SV) (R1 : H → Prop) (I2 : Nat → Int → H → Prop) (n3 : Nat) (x6_i : Int) (h7 : H) : Prop :=
  ∃ R8 : Bool → H → Prop, (
    VIf (decide (x6_i < ((p1_steps.len : Nat) : Int))) (
      (∃ h9, Gh h7 h9 ∧ R8 (decide (x6_i < (150 : Int))) h9)) (
      (∃ h10, Gh h7 h10 ∧ R8 false h10))) ∧
  ∀ (_ : F) (x11 : Bool) (h12 : H), R8 x11 h12 →
  f10_J3 p0_t p1_steps R1 I2 n3 x6_i x11 h12

def f10_sem (p0_t : Option Addr) (p1_steps : SV) (h0 : H) (post : Value → H → Prop) : Prop :=
  ∃ R1 : H → Prop, (
    ∃ I2 : Nat → Int → H → Prop, (∃ n3, (∃ h5, Gh h0 h5 ∧ I2 n3 (0 : Int) h5)) ∧
    ∀ (n3 : Nat) (_ : F) (x6_i : Int) (h7 : H), I2 n3 x6_i h7 →
    f10_L4 p0_t p1_steps R1 I2 n3 x6_i h7) ∧
  ∀ (_ : F) (h56 : H), R1 h56 →
  VRet h56 (Value.tuple (List.toArray [])) post

def f10_hint : Hint := (.node .leaf (.join [] (.node (.loop [(4, .int)] (.node (.node (.join [(13, .bool)] .leaf) .leaf) (.node (.node (.node .leaf (.node (.node .leaf (.join [] .leaf)) (.node (.node (.join [(36, .bool)] .leaf) (.join [] .leaf)) (.node (.join [(50, .bool)] .leaf) .leaf)))) .leaf) .leaf))) .leaf)))

theorem f10_eq (p0_t : Option Addr) (p1_steps : SV) (h0 : H) (post : Value → H → Prop) : exec Try.prog (bodyOf Try.f10) f10_hint (retQ Try.prog Try.f10 post) (F0 [(Value.pointer p0_t), (Value.slice p1_steps.a p1_steps.len p1_steps.cap)]) h0 = f10_sem p0_t p1_steps h0 post := by kernel_rfl

set_option maxRecDepth 20000 in
theorem f10_call (p0_t : Option Addr) (p1_steps : SV) (h0 : H) (post : Value → H → Prop) (hx : f10_sem p0_t p1_steps h0 post) : SemCall Try.prog 10 (List.toArray [(Value.pointer p0_t), (Value.slice p1_steps.a p1_steps.len p1_steps.cap)]) h0 post :=
  sem_of_exec (g := f10_hint) mixed Try.func10 (bodyOf_eq (by kernel_rfl)) (by kernel_rfl) ((f10_eq p0_t p1_steps h0 post).mpr hx)

/- (*latchgarth/dine.Table).Guest -/
def f11_sem (p0_t : Option Addr) (p1_i : Int) (h0 : H) (post : Value → H → Prop) : Prop :=
  SemCall Go.Proofs.Try.prog 25 (List.toArray [(Value.pointer p0_t), (Value.int .i64 p1_i)]) h0 fun v1 h2 =>
  ∃ x3 : Bool, v1 = (Value.bool x3) ∧
  VIf (!x3) (
    VRet h2 (Value.int .i64 (-1 : Int)) post) (
    ∃ a4 : Addr, p0_t = some a4 ∧
    ∃ x5 : SV, H.rd h2 (Addr.add (Addr.add a4 0) 0) (Value.slice x5.a x5.len x5.cap) ∧
    ∃ b6 : Addr, x5.a = some b6 ∧ 0 ≤ p1_i ∧ p1_i < ((x5.len : Nat) : Int) ∧
    ∃ x7 : Int, H.rd h2 (Addr.add (Addr.add b6 ((p1_i).toNat * 1)) 0) (Value.int .i64 x7) ∧
    VRet h2 (Value.int .i64 x7) post)

def f11_hint : Hint := .leaf

theorem f11_eq (p0_t : Option Addr) (p1_i : Int) (h0 : H) (post : Value → H → Prop) : exec Try.prog (bodyOf Try.f11) f11_hint (retQ Try.prog Try.f11 post) (F0 [(Value.pointer p0_t), (Value.int .i64 p1_i)]) h0 = f11_sem p0_t p1_i h0 post := by kernel_rfl

set_option maxRecDepth 20000 in
theorem f11_call (p0_t : Option Addr) (p1_i : Int) (h0 : H) (post : Value → H → Prop) (hx : f11_sem p0_t p1_i h0 post) : SemCall Try.prog 11 (List.toArray [(Value.pointer p0_t), (Value.int .i64 p1_i)]) h0 post :=
  sem_of_exec (g := f11_hint) mixed Try.func11 (bodyOf_eq (by kernel_rfl)) (by kernel_rfl) ((f11_eq p0_t p1_i h0 post).mpr hx)

/- (*latchgarth/dine.Table).Rest -/
def f12_sem (p0_t : Option Addr) (p1_i : Int) (h0 : H) (post : Value → H → Prop) : Prop :=
  SemCall Go.Proofs.Try.prog 25 (List.toArray [(Value.pointer p0_t), (Value.int .i64 p1_i)]) h0 fun v1 h2 =>
  ∃ x3 : Bool, v1 = (Value.bool x3) ∧
  VIf (!x3) (
    VRet h2 (Value.iface 51 (Value.int .i64 (1 : Int))) post) (
    ∃ a4 : Addr, p0_t = some a4 ∧
    ∃ x5 : SV, H.rd h2 (Addr.add (Addr.add a4 0) 0) (Value.slice x5.a x5.len x5.cap) ∧
    ∃ b6 : Addr, x5.a = some b6 ∧ 0 ≤ p1_i ∧ p1_i < ((x5.len : Nat) : Int) ∧
    ∃ x7 : Int, H.rd h2 (Addr.add (Addr.add b6 ((p1_i).toNat * 1)) 0) (Value.int .i64 x7) ∧
    VIf (x7 != (2 : Int)) (
      VRet h2 (Value.iface 51 (Value.int .i64 (7 : Int))) post) (
      ∃ a8 : Addr, p0_t = some a8 ∧
      ∃ x9 : SV, H.rd h2 (Addr.add (Addr.add a8 0) 0) (Value.slice x9.a x9.len x9.cap) ∧
      ∃ b10 : Addr, x9.a = some b10 ∧ 0 ≤ p1_i ∧ p1_i < ((x9.len : Nat) : Int) ∧
      H.wr h2 (Addr.add b10 ((p1_i).toNat * 1)) ([(Value.int .i64 (0 : Int))]) fun h11 =>
      VRet h11 Value.nilIface post))

def f12_hint : Hint := .leaf

theorem f12_eq (p0_t : Option Addr) (p1_i : Int) (h0 : H) (post : Value → H → Prop) : exec Try.prog (bodyOf Try.f12) f12_hint (retQ Try.prog Try.f12 post) (F0 [(Value.pointer p0_t), (Value.int .i64 p1_i)]) h0 = f12_sem p0_t p1_i h0 post := by kernel_rfl

set_option maxRecDepth 20000 in
theorem f12_call (p0_t : Option Addr) (p1_i : Int) (h0 : H) (post : Value → H → Prop) (hx : f12_sem p0_t p1_i h0 post) : SemCall Try.prog 12 (List.toArray [(Value.pointer p0_t), (Value.int .i64 p1_i)]) h0 post :=
  sem_of_exec (g := f12_hint) mixed Try.func12 (bodyOf_eq (by kernel_rfl)) (by kernel_rfl) ((f12_eq p0_t p1_i h0 post).mpr hx)

/- (*latchgarth/dine.Table).Hunger -/
def f13_sem (p0_t : Option Addr) (p1_i : Int) (h0 : H) (post : Value → H → Prop) : Prop :=
  SemCall Go.Proofs.Try.prog 25 (List.toArray [(Value.pointer p0_t), (Value.int .i64 p1_i)]) h0 fun v1 h2 =>
  ∃ x3 : Bool, v1 = (Value.bool x3) ∧
  VIf (!x3) (
    VRet h2 (Value.iface 51 (Value.int .i64 (1 : Int))) post) (
    ∃ a4 : Addr, p0_t = some a4 ∧
    ∃ x5 : SV, H.rd h2 (Addr.add (Addr.add a4 0) 0) (Value.slice x5.a x5.len x5.cap) ∧
    ∃ b6 : Addr, x5.a = some b6 ∧ 0 ≤ p1_i ∧ p1_i < ((x5.len : Nat) : Int) ∧
    ∃ x7 : Int, H.rd h2 (Addr.add (Addr.add b6 ((p1_i).toNat * 1)) 0) (Value.int .i64 x7) ∧
    VIf (x7 != (0 : Int)) (
      VRet h2 (Value.iface 51 (Value.int .i64 (7 : Int))) post) (
      ∃ a8 : Addr, p0_t = some a8 ∧
      ∃ x9 : SV, H.rd h2 (Addr.add (Addr.add a8 0) 0) (Value.slice x9.a x9.len x9.cap) ∧
      ∃ b10 : Addr, x9.a = some b10 ∧ 0 ≤ p1_i ∧ p1_i < ((x9.len : Nat) : Int) ∧
      H.wr h2 (Addr.add b10 ((p1_i).toNat * 1)) ([(Value.int .i64 (1 : Int))]) fun h11 =>
      VRet h11 Value.nilIface post))

def f13_hint : Hint := .leaf

theorem f13_eq (p0_t : Option Addr) (p1_i : Int) (h0 : H) (post : Value → H → Prop) : exec Try.prog (bodyOf Try.f13) f13_hint (retQ Try.prog Try.f13 post) (F0 [(Value.pointer p0_t), (Value.int .i64 p1_i)]) h0 = f13_sem p0_t p1_i h0 post := by kernel_rfl

set_option maxRecDepth 20000 in
theorem f13_call (p0_t : Option Addr) (p1_i : Int) (h0 : H) (post : Value → H → Prop) (hx : f13_sem p0_t p1_i h0 post) : SemCall Try.prog 13 (List.toArray [(Value.pointer p0_t), (Value.int .i64 p1_i)]) h0 post :=
  sem_of_exec (g := f13_hint) mixed Try.func13 (bodyOf_eq (by kernel_rfl)) (by kernel_rfl) ((f13_eq p0_t p1_i h0 post).mpr hx)

/- (*latchgarth/dine.Table).Step -/
def f14_J1 (p0_t : Option Addr) (p1_i : Int) (post : Value → H → Prop) (I13 : Nat → Bool → Int → H → Prop) (n14 : Nat) (x17_both : Bool) (x18 : Int) (x20 : Option Addr) (x31 : Bool) (h32 : H) : Prop :=
  VIf x31 (
    SemCall Go.Proofs.Try.prog 27 (List.toArray [(Value.pointer p0_t), (Value.int .i64 p1_i), (Value.int .i64 x18)]) h32 fun v33 h34 =>
    ∃ x35 : Int, v33 = (Value.int .i64 x35) ∧
    ∃ a36 : Addr, x20 = some a36 ∧
    H.wr h34 (Addr.add a36 0) ([(Value.int .i64 x35)]) fun h37 =>
    ∃ a38 : Addr, x20 = some a38 ∧
    H.wr h37 (Addr.add a38 2) ([(Value.bool false)]) fun h39 =>
    VRet h39 (Value.tuple (List.toArray [(Value.bool true), Value.nilIface])) post) (
    ∃ R40 : Bool → H → Prop, (
      VIf x17_both (
        ∃ a41 : Addr, x20 = some a41 ∧
        ∃ x42 : Int, H.rd h32 (Addr.add (Addr.add a41 0) 0) (Value.int .i64 x42) ∧
        (∃ h43, Gh h32 h43 ∧ R40 (x42 == p1_i) h43)) (
        (∃ h44, Gh h32 h44 ∧ R40 false h44))) ∧
    ∀ (_ : F) (x45_both : Bool) (h46 : H), R40 x45_both h46 →
    In64 (x18 + (1 : Int)) ∧
    ∃ m15, m15 < n14 ∧ (∃ h47, Gh h46 h47 ∧ I13 m15 x45_both (x18 + (1 : Int)) h47))

def f14_L2 (p0_t : Option Addr) (p1_i : Int) (post : Value → H → Prop) (x10 : Option Addr) (x11 : Option Addr) (R12 : Bool → H → Prop) (I13 : Nat → Bool → Int → H → Prop) (n14 : Nat) (x17_both : Bool) (x18 : Int) (h19 : H) : Prop :=
  VIf (decide (x18 < (2 : Int))) (
    0 ≤ x18 ∧ x18 < ((2 : Nat) : Int) ∧
    ∃ x20 : Option Addr, ([(Value.pointer x10), (Value.pointer x11)])[(x18).toNat * 1 + 0]? = some (Value.pointer x20) ∧
    ∃ R21 : Bool → H → Prop, (
      ∃ a22 : Addr, x20 = some a22 ∧
      ∃ x23 : Int, H.rd h19 (Addr.add (Addr.add a22 0) 0) (Value.int .i64 x23) ∧
      VIf (x23 == p1_i) (
        ∃ a24 : Addr, x20 = some a24 ∧
        ∃ x25 : Bool, H.rd h19 (Addr.add (Addr.add a24 2) 0) (Value.bool x25) ∧
        VIf x25 (
          ∃ a26 : Addr, x20 = some a26 ∧
          ∃ x27 : Int, H.rd h19 (Addr.add (Addr.add a26 1) 0) (Value.int .i64 x27) ∧
          (∃ h28, Gh h19 h28 ∧ R21 (x27 == p1_i) h28)) (
          (∃ h29, Gh h19 h29 ∧ R21 false h29))) (
        (∃ h30, Gh h19 h30 ∧ R21 false h30))) ∧
    ∀ (_ : F) (x31 : Bool) (h32 : H), R21 x31 h32 →
    f14_J1 p0_t p1_i post I13 n14 x17_both x18 x20 x31 h32) (
    (∃ h48, Gh h19 h48 ∧ R12 x17_both h48))

def f14_L3 (x61 : Option Addr) (x62 : Option Addr) (R63 : H → Prop) (I64 : Nat → Int → H → Prop) (n65 : Nat) (x68 : Int) (h69 : H) : Prop :=
  VIf (decide (x68 < (2 : Int))) (
    0 ≤ x68 ∧ x68 < ((2 : Nat) : Int) ∧
    ∃ x70 : Option Addr, ([(Value.pointer x61), (Value.pointer x62)])[(x68).toNat * 1 + 0]? = some (Value.pointer x70) ∧
    ∃ a71 : Addr, x70 = some a71 ∧
    H.wr h69 (Addr.add a71 2) ([(Value.bool true)]) fun h72 =>
    In64 (x68 + (1 : Int)) ∧
    ∃ m66, m66 < n65 ∧ (∃ h73, Gh h72 h73 ∧ I64 m66 (x68 + (1 : Int)) h73)) (
    (∃ h74, Gh h69 h74 ∧ R63 h74))

def f14_L4 (p0_t : Option Addr) (p1_i : Int) (post : Value → H → Prop) (x78 : Option Addr) (x79 : Option Addr) (R80 : H → Prop) (I81 : Nat → Int → H → Prop) (n82 : Nat) (x85 : Int) (h86 : H) : Prop :=
  VIf (decide (x85 < (2 : Int))) (
    0 ≤ x85 ∧ x85 < ((2 : Nat) : Int) ∧
    ∃ x87 : Option Addr, ([(Value.pointer x78), (Value.pointer x79)])[(x85).toNat * 1 + 0]? = some (Value.pointer x87) ∧
    ∃ R88 : Bool → H → Prop, (
      ∃ a89 : Addr, x87 = some a89 ∧
      ∃ x90 : Int, H.rd h86 (Addr.add (Addr.add a89 0) 0) (Value.int .i64 x90) ∧
      VIf (x90 != p1_i) (
        ∃ a91 : Addr, x87 = some a91 ∧
        ∃ x92 : Int, H.rd h86 (Addr.add (Addr.add a91 1) 0) (Value.int .i64 x92) ∧
        (∃ h93, Gh h86 h93 ∧ R88 (x92 == p1_i) h93)) (
        (∃ h94, Gh h86 h94 ∧ R88 false h94))) ∧
    ∀ (_ : F) (x95 : Bool) (h96 : H), R88 x95 h96 →
    VIf x95 (
      SemCall Go.Proofs.Try.prog 27 (List.toArray [(Value.pointer p0_t), (Value.int .i64 p1_i), (Value.int .i64 x85)]) h96 fun v97 h98 =>
      ∃ x99 : Int, v97 = (Value.int .i64 x99) ∧
      ∃ a100 : Addr, x87 = some a100 ∧
      H.wr h98 (Addr.add a100 1) ([(Value.int .i64 x99)]) fun h101 =>
      VRet h101 (Value.tuple (List.toArray [(Value.bool true), Value.nilIface])) post) (
      In64 (x85 + (1 : Int)) ∧
      ∃ m83, m83 < n82 ∧ (∃ h102, Gh h96 h102 ∧ I81 m83 (x85 + (1 : Int)) h102))) (
    (∃ h103, Gh h86 h103 ∧ R80 h103))

def f14_J5 (p0_t : Option Addr) (p1_i : Int) (post : Value → H → Prop) (x49_both : Bool) (h50 : H) : Prop :=
  ∃ a51 : Addr, p0_t = some a51 ∧
  ∃ x52 : SV, H.rd h50 (Addr.add (Addr.add a51 0) 0) (Value.slice x52.a x52.len x52.cap) ∧
  ∃ b53 : Addr, x52.a = some b53 ∧ 0 ≤ p1_i ∧ p1_i < ((x52.len : Nat) : Int) ∧
  ∃ x54 : Int, H.rd h50 (Addr.add (Addr.add b53 ((p1_i).toNat * 1)) 0) (Value.int .i64 x54) ∧
  VIf (x54 == (0 : Int)) (
    VRet h50 (Value.tuple (List.toArray [(Value.bool false), Value.nilIface])) post) (
    VIf x49_both (
      ∃ a55 : Addr, p0_t = some a55 ∧
      ∃ x56 : SV, H.rd h50 (Addr.add (Addr.add a55 0) 0) (Value.slice x56.a x56.len x56.cap) ∧
      ∃ b57 : Addr, x56.a = some b57 ∧ 0 ≤ p1_i ∧ p1_i < ((x56.len : Nat) : Int) ∧
      H.wr h50 (Addr.add b57 ((p1_i).toNat * 1)) ([(Value.int .i64 (2 : Int))]) fun h58 =>
      SemCall Go.Proofs.Try.prog 26 (List.toArray [(Value.pointer p0_t), (Value.int .i64 p1_i)]) h58 fun v59 h60 =>
      ∃ x61 : Option Addr, ∃ x62 : Option Addr, v59 = (Value.agg (List.toArray [(Value.pointer x61), (Value.pointer x62)])) ∧
      ∃ R63 : H → Prop, (
        ∃ I64 : Nat → Int → H → Prop, (∃ n65, (∃ h67, Gh h60 h67 ∧ I64 n65 (0 : Int) h67)) ∧
        ∀ (n65 : Nat) (_ : F) (x68 : Int) (h69 : H), I64 n65 x68 h69 →
        f14_L3 x61 x62 R63 I64 n65 x68 h69) ∧
      ∀ (_ : F) (h75 : H), R63 h75 →
      VRet h75 (Value.tuple (List.toArray [(Value.bool true), Value.nilIface])) post) (
      SemCall Go.Proofs.Try.prog 26 (List.toArray [(Value.pointer p0_t), (Value.int .i64 p1_i)]) h50 fun v76 h77 =>
      ∃ x78 : Option Addr, ∃ x79 : Option Addr, v76 = (Value.agg (List.toArray [(Value.pointer x78), (Value.pointer x79)])) ∧
      ∃ R80 : H → Prop, (
        ∃ I81 : Nat → Int → H → Prop, (∃ n82, (∃ h84, Gh h77 h84 ∧ I81 n82 (0 : Int) h84)) ∧
        ∀ (n82 : Nat) (_ : F) (x85 : Int) (h86 : H), I81 n82 x85 h86 →
        f14_L4 p0_t p1_i post x78 x79 R80 I81 n82 x85 h86) ∧
      ∀ (_ : F) (h104 : H), R80 h104 →
      VRet h104 (Value.tuple (List.toArray [(Value.bool false), Value.nilIface])) post))

def f14_sem (p0_t : Option Addr) (p1_i : Int) (h0 : H) (post : Value → H → Prop) : Prop :=
  SemCall Go.Proofs.Try.prog 25 (List.toArray [(Value.pointer p0_t), (Value.int .i64 p1_i)]) h0 fun v1 h2 =>
  ∃ x3 : Bool, v1 = (Value.bool x3) ∧
  VIf (!x3) (
    VRet h2 (Value.tuple (List.toArray [(Value.bool false), (Value.iface 51 (Value.int .i64 (1 : Int)))])) post) (
    ∃ a4 : Addr, p0_t = some a4 ∧
    ∃ x5 : SV, H.rd h2 (Addr.add (Addr.add a4 0) 0) (Value.slice x5.a x5.len x5.cap) ∧
    ∃ b6 : Addr, x5.a = some b6 ∧ 0 ≤ p1_i ∧ p1_i < ((x5.len : Nat) : Int) ∧
    ∃ x7 : Int, H.rd h2 (Addr.add (Addr.add b6 ((p1_i).toNat * 1)) 0) (Value.int .i64 x7) ∧
    VIf (x7 == (2 : Int)) (
      VRet h2 (Value.tuple (List.toArray [(Value.bool false), Value.nilIface])) post) (
      SemCall Go.Proofs.Try.prog 26 (List.toArray [(Value.pointer p0_t), (Value.int .i64 p1_i)]) h2 fun v8 h9 =>
      ∃ x10 : Option Addr, ∃ x11 : Option Addr, v8 = (Value.agg (List.toArray [(Value.pointer x10), (Value.pointer x11)])) ∧
      ∃ R12 : Bool → H → Prop, (
        ∃ I13 : Nat → Bool → Int → H → Prop, (∃ n14, (∃ h16, Gh h9 h16 ∧ I13 n14 true (0 : Int) h16)) ∧
        ∀ (n14 : Nat) (_ : F) (x17_both : Bool) (x18 : Int) (h19 : H), I13 n14 x17_both x18 h19 →
        f14_L2 p0_t p1_i post x10 x11 R12 I13 n14 x17_both x18 h19) ∧
      ∀ (_ : F) (x49_both : Bool) (h50 : H), R12 x49_both h50 →
      f14_J5 p0_t p1_i post x49_both h50))

def f14_hint : Hint := (.node .leaf (.node .leaf (.node .leaf (.node .leaf (.node (.node .leaf (.join [(6, .bool)] (.node (.loop [(6, .bool), (29, .int)] (.node .leaf (.node .leaf (.node (.node (.node .leaf (.node (.node (.join [(52, .bool)] .leaf) .leaf) (.join [(6, .bool)] .leaf))) .leaf) .leaf)))) .leaf))) (.node .leaf (.node (.node .leaf (.node (.node .leaf (.node (.node .leaf (.join [] (.node (.loop [(91, .int)] .leaf) .leaf))) .leaf)) .leaf)) (.node (.node .leaf (.join [] (.node (.loop [(101, .int)] (.node .leaf (.node .leaf (.node (.node (.node .leaf (.node (.join [(118, .bool)] .leaf) .leaf)) .leaf) .leaf)))) .leaf))) .leaf))))))))

theorem f14_eq (p0_t : Option Addr) (p1_i : Int) (h0 : H) (post : Value → H → Prop) : exec Try.prog (bodyOf Try.f14) f14_hint (retQ Try.prog Try.f14 post) (F0 [(Value.pointer p0_t), (Value.int .i64 p1_i)]) h0 = f14_sem p0_t p1_i h0 post := by kernel_rfl

set_option maxRecDepth 20000 in
theorem f14_call (p0_t : Option Addr) (p1_i : Int) (h0 : H) (post : Value → H → Prop) (hx : f14_sem p0_t p1_i h0 post) : SemCall Try.prog 14 (List.toArray [(Value.pointer p0_t), (Value.int .i64 p1_i)]) h0 post :=
  sem_of_exec (g := f14_hint) mixed Try.func14 (bodyOf_eq (by kernel_rfl)) (by kernel_rfl) ((f14_eq p0_t p1_i h0 post).mpr hx)

/- (*latchgarth/dine.Table).Forks -/
def f15_L1 (x2 : SV) (R3 : SV → SV → H → Prop) (I4 : Nat → SV → SV → Int → H → Prop) (n5 : Nat) (x8_who : SV) (x9_dirty : SV) (x10 : Int) (h11 : H) : Prop :=
  VIf (decide (x10 < ((x2.len : Nat) : Int))) (
    ∃ b12 : Addr, x2.a = some b12 ∧ 0 ≤ x10 ∧ x10 < ((x2.len : Nat) : Int) ∧
    ∃ x13 : Int, H.rd h11 (Addr.add (Addr.add b12 ((x10).toNat * 3)) 0) (Value.int .i64 x13) ∧
    ∃ x14 : Int, H.rd h11 (Addr.add (Addr.add b12 ((x10).toNat * 3)) 1) (Value.int .i64 x14) ∧
    ∃ x15 : Bool, H.rd h11 (Addr.add (Addr.add b12 ((x10).toNat * 3)) 2) (Value.bool x15) ∧
    H.new h11 [(Value.int .i64 (0 : Int)), (Value.int .i64 (0 : Int)), (Value.bool false)] fun r16 h17 =>
    ([(Value.int .i64 x13), (Value.int .i64 x14), (Value.bool x15)]).length = 3 ∧ (Program.underlying Go.Proofs.Try.prog 56).isSome = true ∧
    H.wr h17 (Addr.mk r16 0 none) ([(Value.int .i64 x13), (Value.int .i64 x14), (Value.bool x15)]) fun h18 =>
    ∃ R19 : SV → SV → H → Prop, (
      (
        ∃ x20 : Int, H.rd h18 (Addr.add (Addr.add (Addr.mk r16 0 none) 0) 0) (Value.int .i64 x20) ∧
        (
          H.new h18 [(Value.int .i64 x20)] fun r21 h22 =>
          (
            appVC Go.Proofs.Try.prog 36 (Value.slice x8_who.a x8_who.len x8_who.cap) (Value.slice (some (Addr.mk r21 0 none)) 1 1) h22 fun x23 h24 =>
            ∃ x25 : Bool, H.rd h24 (Addr.add (Addr.add (Addr.mk r16 0 none) 2) 0) (Value.bool x25) ∧
            H.new h24 [(Value.bool x25)] fun r26 h27 =>
            appVC Go.Proofs.Try.prog 30 (Value.slice x9_dirty.a x9_dirty.len x9_dirty.cap) (Value.slice (some (Addr.mk r26 0 none)) 1 1) h27 fun x28 h29 =>
            (∃ h30, Gh h29 h30 ∧ R19 x23 x28 h30)) ∧
          (
            ∃ x31 : Bool, H.rd h22 (Addr.add (Addr.add (Addr.mk r16 0 none) 2) 0) (Value.bool x31) ∧
            (
              appVC Go.Proofs.Try.prog 36 (Value.slice x8_who.a x8_who.len x8_who.cap) (Value.slice (some (Addr.mk r21 0 none)) 1 1) h22 fun x32 h33 =>
              H.new h33 [(Value.bool x31)] fun r34 h35 =>
              appVC Go.Proofs.Try.prog 30 (Value.slice x9_dirty.a x9_dirty.len x9_dirty.cap) (Value.slice (some (Addr.mk r34 0 none)) 1 1) h35 fun x36 h37 =>
              (∃ h38, Gh h37 h38 ∧ R19 x32 x36 h38)) ∧
            (
              H.new h22 [(Value.bool x31)] fun r39 h40 =>
              appVC Go.Proofs.Try.prog 36 (Value.slice x8_who.a x8_who.len x8_who.cap) (Value.slice (some (Addr.mk r21 0 none)) 1 1) h40 fun x41 h42 =>
              appVC Go.Proofs.Try.prog 30 (Value.slice x9_dirty.a x9_dirty.len x9_dirty.cap) (Value.slice (some (Addr.mk r39 0 none)) 1 1) h42 fun x43 h44 =>
              (∃ h45, Gh h44 h45 ∧ R19 x41 x43 h45)))) ∧
        (
          ∃ x46 : Bool, H.rd h18 (Addr.add (Addr.add (Addr.mk r16 0 none) 2) 0) (Value.bool x46) ∧
          (
            H.new h18 [(Value.int .i64 x20)] fun r47 h48 =>
            (
              appVC Go.Proofs.Try.prog 36 (Value.slice x8_who.a x8_who.len x8_who.cap) (Value.slice (some (Addr.mk r47 0 none)) 1 1) h48 fun x49 h50 =>
              H.new h50 [(Value.bool x46)] fun r51 h52 =>
              appVC Go.Proofs.Try.prog 30 (Value.slice x9_dirty.a x9_dirty.len x9_dirty.cap) (Value.slice (some (Addr.mk r51 0 none)) 1 1) h52 fun x53 h54 =>
              (∃ h55, Gh h54 h55 ∧ R19 x49 x53 h55)) ∧
            (
              H.new h48 [(Value.bool x46)] fun r56 h57 =>
              appVC Go.Proofs.Try.prog 36 (Value.slice x8_who.a x8_who.len x8_who.cap) (Value.slice (some (Addr.mk r47 0 none)) 1 1) h57 fun x58 h59 =>
              appVC Go.Proofs.Try.prog 30 (Value.slice x9_dirty.a x9_dirty.len x9_dirty.cap) (Value.slice (some (Addr.mk r56 0 none)) 1 1) h59 fun x60 h61 =>
              (∃ h62, Gh h61 h62 ∧ R19 x58 x60 h62))) ∧
          (
            H.new h18 [(Value.bool x46)] fun r63 h64 =>
            H.new h64 [(Value.int .i64 x20)] fun r65 h66 =>
            appVC Go.Proofs.Try.prog 36 (Value.slice x8_who.a x8_who.len x8_who.cap) (Value.slice (some (Addr.mk r65 0 none)) 1 1) h66 fun x67 h68 =>
            appVC Go.Proofs.Try.prog 30 (Value.slice x9_dirty.a x9_dirty.len x9_dirty.cap) (Value.slice (some (Addr.mk r63 0 none)) 1 1) h68 fun x69 h70 =>
            (∃ h71, Gh h70 h71 ∧ R19 x67 x69 h71)))) ∧
      (
        ∃ x72 : Bool, H.rd h18 (Addr.add (Addr.add (Addr.mk r16 0 none) 2) 0) (Value.bool x72) ∧
        (
          ∃ x73 : Int, H.rd h18 (Addr.add (Addr.add (Addr.mk r16 0 none) 0) 0) (Value.int .i64 x73) ∧
          (
            H.new h18 [(Value.int .i64 x73)] fun r74 h75 =>
            (
              appVC Go.Proofs.Try.prog 36 (Value.slice x8_who.a x8_who.len x8_who.cap) (Value.slice (some (Addr.mk r74 0 none)) 1 1) h75 fun x76 h77 =>
              H.new h77 [(Value.bool x72)] fun r78 h79 =>
              appVC Go.Proofs.Try.prog 30 (Value.slice x9_dirty.a x9_dirty.len x9_dirty.cap) (Value.slice (some (Addr.mk r78 0 none)) 1 1) h79 fun x80 h81 =>
              (∃ h82, Gh h81 h82 ∧ R19 x76 x80 h82)) ∧
            (
              H.new h75 [(Value.bool x72)] fun r83 h84 =>
              appVC Go.Proofs.Try.prog 36 (Value.slice x8_who.a x8_who.len x8_who.cap) (Value.slice (some (Addr.mk r74 0 none)) 1 1) h84 fun x85 h86 =>
              appVC Go.Proofs.Try.prog 30 (Value.slice x9_dirty.a x9_dirty.len x9_dirty.cap) (Value.slice (some (Addr.mk r83 0 none)) 1 1) h86 fun x87 h88 =>
              (∃ h89, Gh h88 h89 ∧ R19 x85 x87 h89))) ∧
          (
            H.new h18 [(Value.bool x72)] fun r90 h91 =>
            H.new h91 [(Value.int .i64 x73)] fun r92 h93 =>
            appVC Go.Proofs.Try.prog 36 (Value.slice x8_who.a x8_who.len x8_who.cap) (Value.slice (some (Addr.mk r92 0 none)) 1 1) h93 fun x94 h95 =>
            appVC Go.Proofs.Try.prog 30 (Value.slice x9_dirty.a x9_dirty.len x9_dirty.cap) (Value.slice (some (Addr.mk r90 0 none)) 1 1) h95 fun x96 h97 =>
            (∃ h98, Gh h97 h98 ∧ R19 x94 x96 h98))) ∧
        (
          H.new h18 [(Value.bool x72)] fun r99 h100 =>
          ∃ x101 : Int, H.rd h100 (Addr.add (Addr.add (Addr.mk r16 0 none) 0) 0) (Value.int .i64 x101) ∧
          H.new h100 [(Value.int .i64 x101)] fun r102 h103 =>
          appVC Go.Proofs.Try.prog 36 (Value.slice x8_who.a x8_who.len x8_who.cap) (Value.slice (some (Addr.mk r102 0 none)) 1 1) h103 fun x104 h105 =>
          appVC Go.Proofs.Try.prog 30 (Value.slice x9_dirty.a x9_dirty.len x9_dirty.cap) (Value.slice (some (Addr.mk r99 0 none)) 1 1) h105 fun x106 h107 =>
          (∃ h108, Gh h107 h108 ∧ R19 x104 x106 h108)))) ∧
    ∀ (_ : F) (x109_who : SV) (x110_dirty : SV) (h111 : H), R19 x109_who x110_dirty h111 →
    In64 (x10 + (1 : Int)) ∧
    ∃ m6, m6 < n5 ∧ (∃ h112, Gh h111 h112 ∧ I4 m6 x109_who x110_dirty (x10 + (1 : Int)) h112)) (
    (∃ h113, Gh h11 h113 ∧ R3 x8_who x9_dirty h113))

def f15_sem (p0_t : Option Addr) (h0 : H) (post : Value → H → Prop) : Prop :=
  ∃ a1 : Addr, p0_t = some a1 ∧
  ∃ x2 : SV, H.rd h0 (Addr.add (Addr.add a1 1) 0) (Value.slice x2.a x2.len x2.cap) ∧
  ∃ R3 : SV → SV → H → Prop, (
    ∃ I4 : Nat → SV → SV → Int → H → Prop, (∃ n5, (∃ h7, Gh h0 h7 ∧ I4 n5 (SV.mk none 0 0) (SV.mk none 0 0) (0 : Int) h7)) ∧
    ∀ (n5 : Nat) (_ : F) (x8_who : SV) (x9_dirty : SV) (x10 : Int) (h11 : H), I4 n5 x8_who x9_dirty x10 h11 →
    f15_L1 x2 R3 I4 n5 x8_who x9_dirty x10 h11) ∧
  ∀ (_ : F) (x114_who : SV) (x115_dirty : SV) (h116 : H), R3 x114_who x115_dirty h116 →
  VRet h116 (Value.tuple (List.toArray [(Value.slice x114_who.a x114_who.len x114_who.cap), (Value.slice x115_dirty.a x115_dirty.len x115_dirty.cap)])) post

def f15_hint : Hint := (.node .leaf (.node .leaf (.node .leaf (.node (.node .leaf (.join [(4, .sl), (5, .sl)] (.node (.loop [(4, .sl), (5, .sl), (13, .int)] (.node .leaf (.node .leaf (.node (.node (.node .leaf (.join [(4, .sl), (5, .sl)] .any)) .leaf) .leaf)))) .leaf))) .leaf))))

theorem f15_eq (p0_t : Option Addr) (h0 : H) (post : Value → H → Prop) : exec Try.prog (bodyOf Try.f15) f15_hint (retQ Try.prog Try.f15 post) (F0 [(Value.pointer p0_t)]) h0 = f15_sem p0_t h0 post := by kernel_rfl

set_option maxRecDepth 20000 in
theorem f15_call (p0_t : Option Addr) (h0 : H) (post : Value → H → Prop) (hx : f15_sem p0_t h0 post) : SemCall Try.prog 15 (List.toArray [(Value.pointer p0_t)]) h0 post :=
  sem_of_exec (g := f15_hint) mixed Try.func15 (bodyOf_eq (by kernel_rfl)) (by kernel_rfl) ((f15_eq p0_t h0 post).mpr hx)

/- latchgarth/latchgarthlaw4.in -/
def f19_sem (p0_n : Int) (p1_low : Int) (p2_high : Int) (h0 : H) (post : Value → H → Prop) : Prop :=
  ∃ R1 : Bool → H → Prop, (
    VIf (decide (p0_n ≥ p1_low)) (
      (∃ h2, Gh h0 h2 ∧ R1 (decide (p0_n ≤ p2_high)) h2)) (
      (∃ h3, Gh h0 h3 ∧ R1 false h3))) ∧
  ∀ (_ : F) (x4 : Bool) (h5 : H), R1 x4 h5 →
  VRet h5 (Value.bool x4) post

def f19_hint : Hint := (.node .leaf (.node (.join [(6, .bool)] .leaf) .leaf))

theorem f19_eq (p0_n : Int) (p1_low : Int) (p2_high : Int) (h0 : H) (post : Value → H → Prop) : exec Try.prog (bodyOf Try.f19) f19_hint (retQ Try.prog Try.f19 post) (F0 [(Value.int .i64 p0_n), (Value.int .i64 p1_low), (Value.int .i64 p2_high)]) h0 = f19_sem p0_n p1_low p2_high h0 post := by kernel_rfl

set_option maxRecDepth 20000 in
theorem f19_call (p0_n : Int) (p1_low : Int) (p2_high : Int) (h0 : H) (post : Value → H → Prop) (hx : f19_sem p0_n p1_low p2_high h0 post) : SemCall Try.prog 19 (List.toArray [(Value.int .i64 p0_n), (Value.int .i64 p1_low), (Value.int .i64 p2_high)]) h0 post :=
  sem_of_exec (g := f19_hint) mixed Try.func19 (bodyOf_eq (by kernel_rfl)) (by kernel_rfl) ((f19_eq p0_n p1_low p2_high h0 post).mpr hx)

/- latchgarth/core.Within -/
def f24_sem (p0_n : Int) (p1_low : Int) (p2_high : Int) (h0 : H) (post : Value → H → Prop) : Prop :=
  ∃ R1 : Bool → H → Prop, (
    VIf (decide (p0_n ≥ p1_low)) (
      (∃ h2, Gh h0 h2 ∧ R1 (decide (p0_n ≤ p2_high)) h2)) (
      (∃ h3, Gh h0 h3 ∧ R1 false h3))) ∧
  ∀ (_ : F) (x4 : Bool) (h5 : H), R1 x4 h5 →
  VRet h5 (Value.bool x4) post

def f24_hint : Hint := (.node .leaf (.node (.join [(6, .bool)] .leaf) .leaf))

theorem f24_eq (p0_n : Int) (p1_low : Int) (p2_high : Int) (h0 : H) (post : Value → H → Prop) : exec Try.prog (bodyOf Try.f24) f24_hint (retQ Try.prog Try.f24 post) (F0 [(Value.int .i64 p0_n), (Value.int .i64 p1_low), (Value.int .i64 p2_high)]) h0 = f24_sem p0_n p1_low p2_high h0 post := by kernel_rfl

set_option maxRecDepth 20000 in
theorem f24_call (p0_n : Int) (p1_low : Int) (p2_high : Int) (h0 : H) (post : Value → H → Prop) (hx : f24_sem p0_n p1_low p2_high h0 post) : SemCall Try.prog 24 (List.toArray [(Value.int .i64 p0_n), (Value.int .i64 p1_low), (Value.int .i64 p2_high)]) h0 post :=
  sem_of_exec (g := f24_hint) mixed Try.func24 (bodyOf_eq (by kernel_rfl)) (by kernel_rfl) ((f24_eq p0_n p1_low p2_high h0 post).mpr hx)

/- (*latchgarth/dine.Table).is -/
def f25_sem (p0_t : Option Addr) (p1_i : Int) (h0 : H) (post : Value → H → Prop) : Prop :=
  ∃ a1 : Addr, p0_t = some a1 ∧
  ∃ x2 : SV, H.rd h0 (Addr.add (Addr.add a1 0) 0) (Value.slice x2.a x2.len x2.cap) ∧
  In64 (((x2.len : Nat) : Int) - (1 : Int)) ∧
  SemCall Go.Proofs.Try.prog 24 (List.toArray [(Value.int .i64 p1_i), (Value.int .i64 (0 : Int)), (Value.int .i64 (((x2.len : Nat) : Int) - (1 : Int)))]) h0 fun v3 h4 =>
  ∃ x5 : Bool, v3 = (Value.bool x5) ∧
  VRet h4 (Value.bool x5) post

def f25_hint : Hint := .leaf

theorem f25_eq (p0_t : Option Addr) (p1_i : Int) (h0 : H) (post : Value → H → Prop) : exec Try.prog (bodyOf Try.f25) f25_hint (retQ Try.prog Try.f25 post) (F0 [(Value.pointer p0_t), (Value.int .i64 p1_i)]) h0 = f25_sem p0_t p1_i h0 post := by kernel_rfl

set_option maxRecDepth 20000 in
theorem f25_call (p0_t : Option Addr) (p1_i : Int) (h0 : H) (post : Value → H → Prop) (hx : f25_sem p0_t p1_i h0 post) : SemCall Try.prog 25 (List.toArray [(Value.pointer p0_t), (Value.int .i64 p1_i)]) h0 post :=
  sem_of_exec (g := f25_hint) mixed Try.func25 (bodyOf_eq (by kernel_rfl)) (by kernel_rfl) ((f25_eq p0_t p1_i h0 post).mpr hx)

/- (*latchgarth/dine.Table).sides -/
def f26_sem (p0_t : Option Addr) (p1_i : Int) (h0 : H) (post : Value → H → Prop) : Prop :=
  H.new h0 [(Value.pointer none), (Value.pointer none)] fun r1 h2 =>
  ∃ a3 : Addr, p0_t = some a3 ∧
  ∃ x4 : SV, H.rd h2 (Addr.add (Addr.add a3 0) 0) (Value.slice x4.a x4.len x4.cap) ∧
  ∃ a5 : Addr, p0_t = some a5 ∧
  ∃ x6 : SV, H.rd h2 (Addr.add (Addr.add a5 1) 0) (Value.slice x6.a x6.len x6.cap) ∧
  In64 (p1_i + ((x4.len : Nat) : Int)) ∧
  In64 ((p1_i + ((x4.len : Nat) : Int)) - (1 : Int)) ∧
  ((x4.len : Nat) : Int) ≠ 0 ∧
  ∃ b7 : Addr, x6.a = some b7 ∧ 0 ≤ (Int.tmod ((p1_i + ((x4.len : Nat) : Int)) - (1 : Int)) ((x4.len : Nat) : Int)) ∧ (Int.tmod ((p1_i + ((x4.len : Nat) : Int)) - (1 : Int)) ((x4.len : Nat) : Int)) < ((x6.len : Nat) : Int) ∧
  ∃ a8 : Addr, p0_t = some a8 ∧
  ∃ x9 : SV, H.rd h2 (Addr.add (Addr.add a8 1) 0) (Value.slice x9.a x9.len x9.cap) ∧
  ∃ b10 : Addr, x9.a = some b10 ∧ 0 ≤ p1_i ∧ p1_i < ((x9.len : Nat) : Int) ∧
  ([(Value.pointer (some (Addr.add b7 (((Int.tmod ((p1_i + ((x4.len : Nat) : Int)) - (1 : Int)) ((x4.len : Nat) : Int))).toNat * 3)))), (Value.pointer (some (Addr.add b10 ((p1_i).toNat * 3))))]).length = 2 ∧ (Program.underlying Go.Proofs.Try.prog 59).isSome = true ∧
  H.wr h2 (Addr.mk r1 0 none) ([(Value.pointer (some (Addr.add b7 (((Int.tmod ((p1_i + ((x4.len : Nat) : Int)) - (1 : Int)) ((x4.len : Nat) : Int))).toNat * 3)))), (Value.pointer (some (Addr.add b10 ((p1_i).toNat * 3))))]) fun h11 =>
  ∃ x12 : Option Addr, H.rd h11 (Addr.add (Addr.mk r1 0 none) 0) (Value.pointer x12) ∧
  ∃ x13 : Option Addr, H.rd h11 (Addr.add (Addr.mk r1 0 none) 1) (Value.pointer x13) ∧
  VRet h11 (Value.agg (List.toArray [(Value.pointer x12), (Value.pointer x13)])) post

def f26_hint : Hint := (.node .leaf (.node .leaf (.node (.tail 18) .leaf)))

theorem f26_eq (p0_t : Option Addr) (p1_i : Int) (h0 : H) (post : Value → H → Prop) : exec Try.prog (bodyOf Try.f26) f26_hint (retQ Try.prog Try.f26 post) (F0 [(Value.pointer p0_t), (Value.int .i64 p1_i)]) h0 = f26_sem p0_t p1_i h0 post := by kernel_rfl

set_option maxRecDepth 20000 in
theorem f26_call (p0_t : Option Addr) (p1_i : Int) (h0 : H) (post : Value → H → Prop) (hx : f26_sem p0_t p1_i h0 post) : SemCall Try.prog 26 (List.toArray [(Value.pointer p0_t), (Value.int .i64 p1_i)]) h0 post :=
  sem_of_exec (g := f26_hint) mixed Try.func26 (bodyOf_eq (by kernel_rfl)) (by kernel_rfl) ((f26_eq p0_t p1_i h0 post).mpr hx)

/- (*latchgarth/dine.Table).other -/
def f27_sem (p0_t : Option Addr) (p1_i : Int) (p2_side : Int) (h0 : H) (post : Value → H → Prop) : Prop :=
  ∃ a1 : Addr, p0_t = some a1 ∧
  ∃ x2 : SV, H.rd h0 (Addr.add (Addr.add a1 0) 0) (Value.slice x2.a x2.len x2.cap) ∧
  In64 (p1_i + ((x2.len : Nat) : Int)) ∧
  In64 ((p1_i + ((x2.len : Nat) : Int)) - (1 : Int)) ∧
  In64 ((2 : Int) * p2_side) ∧
  In64 (((p1_i + ((x2.len : Nat) : Int)) - (1 : Int)) + ((2 : Int) * p2_side)) ∧
  ((x2.len : Nat) : Int) ≠ 0 ∧
  VRet h0 (Value.int .i64 (Int.tmod (((p1_i + ((x2.len : Nat) : Int)) - (1 : Int)) + ((2 : Int) * p2_side)) ((x2.len : Nat) : Int))) post

def f27_hint : Hint := .leaf

theorem f27_eq (p0_t : Option Addr) (p1_i : Int) (p2_side : Int) (h0 : H) (post : Value → H → Prop) : exec Try.prog (bodyOf Try.f27) f27_hint (retQ Try.prog Try.f27 post) (F0 [(Value.pointer p0_t), (Value.int .i64 p1_i), (Value.int .i64 p2_side)]) h0 = f27_sem p0_t p1_i p2_side h0 post := by kernel_rfl

set_option maxRecDepth 20000 in
theorem f27_call (p0_t : Option Addr) (p1_i : Int) (p2_side : Int) (h0 : H) (post : Value → H → Prop) (hx : f27_sem p0_t p1_i p2_side h0 post) : SemCall Try.prog 27 (List.toArray [(Value.pointer p0_t), (Value.int .i64 p1_i), (Value.int .i64 p2_side)]) h0 post :=
  sem_of_exec (g := f27_hint) mixed Try.func27 (bodyOf_eq (by kernel_rfl)) (by kernel_rfl) ((f27_eq p0_t p1_i p2_side h0 post).mpr hx)

end Go.Proofs.Ytiaopgnnibidlaa
