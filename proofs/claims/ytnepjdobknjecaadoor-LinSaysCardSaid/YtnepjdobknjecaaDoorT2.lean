import Derived.Test.YtnepjdobknjecaaDoorEngG
import Derived.Test.YtnepjdobknjecaaDoorRows
import Derived.Test.YtnepjdobknjecaaDoorT
namespace Go.Proofs.YtnepjdobknjecaaDoor
open Go.Eng
/- latchgarth/latchgarthlaw4.LinWide -/
def f8_J1 (p0_object : Int) (p1_h : SV) (p2_i : Int) (p3_from : Int) (p4_to : Int) (post : Value → H → Prop) (x6 : Bool) (x8 : Option (TypeId × Value)) (x28 : Bool) (h29 : H) : Prop :=
 VIf x28 (
 ∃ R30 : Bool → H → Prop, (
 VIf (!x6) (
 (∃ h31, Gh h29 h31 ∧ R30 true h31)) (
 isIfaceV (errV x8) = true ∧
 (∃ h32, Gh h29 h32 ∧ R30 (isNilV (errV x8)) h32))) ∧
 ∀ (_ : F) (x33 : Bool) (h34 : H), R30 x33 h34 →
 VRet h34 (Value.bool x33) post) (
 appVC Go.Proofs.Tryd.prog 47 (Value.slice none 0 0) (Value.slice p1_h.a p1_h.len p1_h.cap) h29 fun x35 h36 =>
 ∃ b37 : Addr, x35.a = some b37 ∧ 0 ≤ p2_i ∧ p2_i < ((x35.len : Nat) : Int) ∧
 H.wr h36 (Addr.add (Addr.add b37 ((p2_i).toNat * 6)) 4) ([(Value.int .i64 p3_from)]) fun h38 =>
 ∃ b39 : Addr, x35.a = some b39 ∧ 0 ≤ p2_i ∧ p2_i < ((x35.len : Nat) : Int) ∧
 H.wr h38 (Addr.add (Addr.add b39 ((p2_i).toNat * 6)) 5) ([(Value.int .i64 p4_to)]) fun h40 =>
 SemCall Go.Proofs.Tryd.prog 26 (List.toArray [(Value.int .i64 p0_object), (Value.slice x35.a x35.len x35.cap)]) h40 fun v41 h42 =>
 ∃ x43 : Bool, ∃ x44 : SV, ∃ x45 : Option (TypeId × Value), v41 = (Value.tuple (List.toArray [(Value.bool x43), (Value.slice x44.a x44.len x44.cap), (errV x45)])) ∧
 isIfaceV (errV x45) = true ∧
 VIf (!(isNilV (errV x45))) (
 SemCall Go.Proofs.Tryd.prog 14 (List.toArray [(errV x45), (Value.int .i64 (6 : Int))]) h42 fun v46 h47 =>
 ∃ x48 : Bool, v46 = (Value.bool x48) ∧
 VRet h47 (Value.bool x48) post) (
 VRet h42 (Value.bool x43) post))

def f8_sem (p0_object : Int) (p1_h : SV) (p2_i : Int) (p3_from : Int) (p4_to : Int) (h0 : H) (post : Value → H → Prop) : Prop :=
 SemCall Go.Proofs.Tryd.prog 27 (List.toArray []) h0 fun v1 h2 =>
 ∃ x3 : Bool, v1 = (Value.bool x3) ∧
 VIf (!x3) (
 VRet h2 (Value.bool false) post) (
 SemCall Go.Proofs.Tryd.prog 26 (List.toArray [(Value.int .i64 p0_object), (Value.slice p1_h.a p1_h.len p1_h.cap)]) h2 fun v4 h5 =>
 ∃ x6 : Bool, ∃ x7 : SV, ∃ x8 : Option (TypeId × Value), v4 = (Value.tuple (List.toArray [(Value.bool x6), (Value.slice x7.a x7.len x7.cap), (errV x8)])) ∧
 ∃ R9 : Bool → H → Prop, (
 isIfaceV (errV x8) = true ∧
 VIf (!(isNilV (errV x8))) (
 (∃ h10, Gh h5 h10 ∧ R9 true h10)) (
 VIf (!x6) (
 (∃ h11, Gh h5 h11 ∧ R9 true h11)) (
 In64 (((p1_h.len : Nat) : Int) - (1 : Int)) ∧
 SemCall Go.Proofs.Tryd.prog 12 (List.toArray [(Value.int .i64 p2_i), (Value.int .i64 0), (Value.int .i64 (((p1_h.len : Nat) : Int) - (1 : Int)))]) h5 fun v12 h13 =>
 ∃ x14 : Bool, v12 = (Value.bool x14) ∧
 VIf (!x14) (
 (∃ h15, Gh h13 h15 ∧ R9 true h15)) (
 ∃ b16 : Addr, p1_h.a = some b16 ∧ 0 ≤ p2_i ∧ p2_i < ((p1_h.len : Nat) : Int) ∧
 ∃ x17 : Int, H.rd h13 (Addr.add (Addr.add (Addr.add b16 ((p2_i).toNat * 6)) 4) 0) (Value.int .i64 x17) ∧
 SemCall Go.Proofs.Tryd.prog 12 (List.toArray [(Value.int .i64 p3_from), (Value.int .i64 0), (Value.int .i64 x17)]) h13 fun v18 h19 =>
 ∃ x20 : Bool, v18 = (Value.bool x20) ∧
 VIf (!x20) (
 (∃ h21, Gh h19 h21 ∧ R9 true h21)) (
 ∃ b22 : Addr, p1_h.a = some b22 ∧ 0 ≤ p2_i ∧ p2_i < ((p1_h.len : Nat) : Int) ∧
 ∃ x23 : Int, H.rd h19 (Addr.add (Addr.add (Addr.add b22 ((p2_i).toNat * 6)) 5) 0) (Value.int .i64 x23) ∧
 SemCall Go.Proofs.Tryd.prog 12 (List.toArray [(Value.int .i64 p4_to), (Value.int .i64 x23), (Value.int .i64 (1000 : Int))]) h19 fun v24 h25 =>
 ∃ x26 : Bool, v24 = (Value.bool x26) ∧
 (∃ h27, Gh h25 h27 ∧ R9 (!x26) h27)))))) ∧
 ∀ (_ : F) (x28 : Bool) (h29 : H), R9 x28 h29 →
 f8_J1 p0_object p1_h p2_i p3_from p4_to post x6 x8 x28 h29)

def f8_hint : Hint := (.node .leaf (.node .leaf (.node .leaf (.node .leaf (.node (.node (.join [(62, .bool)] .leaf) (.node (.node (.join [(10, .bool)] .leaf) .leaf) .leaf)) .leaf)))))

theorem f8_eq (p0_object : Int) (p1_h : SV) (p2_i : Int) (p3_from : Int) (p4_to : Int) (h0 : H) (post : Value → H → Prop) : exec Tryd.prog (bodyOf Tryd.f8) f8_hint (retQ Tryd.prog Tryd.f8 post) (F0 [(Value.int .i64 p0_object), (Value.slice p1_h.a p1_h.len p1_h.cap), (Value.int .i64 p2_i), (Value.int .i64 p3_from), (Value.int .i64 p4_to)]) h0 = f8_sem p0_object p1_h p2_i p3_from p4_to h0 post := by kernel_rfl

set_option maxRecDepth 20000 in
theorem f8_call (p0_object : Int) (p1_h : SV) (p2_i : Int) (p3_from : Int) (p4_to : Int) (h0 : H) (post : Value → H → Prop) (hx : f8_sem p0_object p1_h p2_i p3_from p4_to h0 post) : SemCall Tryd.prog 8 (List.toArray [(Value.int .i64 p0_object), (Value.slice p1_h.a p1_h.len p1_h.cap), (Value.int .i64 p2_i), (Value.int .i64 p3_from), (Value.int .i64 p4_to)]) h0 post :=
 sem_of_exec (g := f8_hint) mixed Tryd.func8 (bodyOf_eq (by kernel_rfl)) (by kernel_rfl) ((f8_eq p0_object p1_h p2_i p3_from p4_to h0 post).mpr hx)

/- latchgarth/latchgarthlaw4.LinSays -/
def f7_J1 (p0_object : Int) (p1_h : SV) (post : Value → H → Prop) (x3 : Int) (x9 : Bool) (x17_want : SV) (x18_may : Bool) (h19 : H) : Prop :=
 SemCall Go.Proofs.Tryd.prog 26 (List.toArray [(Value.int .i64 p0_object), (Value.slice p1_h.a p1_h.len p1_h.cap)]) h19 fun v20 h21 =>
 ∃ x22 : Bool, ∃ x23 : SV, ∃ x24 : Option (TypeId × Value), v20 = (Value.tuple (List.toArray [(Value.bool x22), (Value.slice x23.a x23.len x23.cap), (errV x24)])) ∧
 ∃ R25 : Bool → H → Prop, (
 VIf x9 (
 SemCall Go.Proofs.Tryd.prog 14 (List.toArray [(errV x24), (Value.int .i64 x3)]) h21 fun v26 h27 =>
 ∃ x28 : Bool, v26 = (Value.bool x28) ∧
 VIf x28 (
 VIf (x22 == x18_may) (
 SemCall Go.Proofs.Tryd.prog 17 (List.toArray [(Value.slice x23.a x23.len x23.cap), (Value.slice x17_want.a x17_want.len x17_want.cap)]) h27 fun v29 h30 =>
 ∃ x31 : Bool, v29 = (Value.bool x31) ∧
 (∃ h32, Gh h30 h32 ∧ R25 x31 h32)) (
 (∃ h33, Gh h27 h33 ∧ R25 false h33))) (
 (∃ h34, Gh h27 h34 ∧ R25 false h34))) (
 (∃ h35, Gh h21 h35 ∧ R25 false h35))) ∧
 ∀ (_ : F) (x36 : Bool) (h37 : H), R25 x36 h37 →
 VRet h37 (Value.bool x36) post

def f7_sem (p0_object : Int) (p1_h : SV) (h0 : H) (post : Value → H → Prop) : Prop :=
 SemCall Go.Proofs.Tryd.prog 23 (List.toArray [(Value.int .i64 p0_object), (Value.slice p1_h.a p1_h.len p1_h.cap)]) h0 fun v1 h2 =>
 ∃ x3 : Int, v1 = (Value.int .i64 x3) ∧
 SemCall Go.Proofs.Tryd.prog 24 (List.toArray [(Value.int .i64 p0_object), (Value.slice p1_h.a p1_h.len p1_h.cap)]) h2 fun v4 h5 =>
 ∃ x6 : Option (TypeId × Value), v4 = (errV x6) ∧
 SemCall Go.Proofs.Tryd.prog 14 (List.toArray [(errV x6), (Value.int .i64 x3)]) h5 fun v7 h8 =>
 ∃ x9 : Bool, v7 = (Value.bool x9) ∧
 ∃ R10 : SV → Bool → H → Prop, (
 VIf (x3 == (0 : Int)) (
 SemCall Go.Proofs.Tryd.prog 25 (List.toArray [(Value.int .i64 p0_object), (Value.slice p1_h.a p1_h.len p1_h.cap)]) h8 fun v11 h12 =>
 ∃ x13 : SV, ∃ x14 : Bool, v11 = (Value.tuple (List.toArray [(Value.slice x13.a x13.len x13.cap), (Value.bool x14)])) ∧
 (∃ h15, Gh h12 h15 ∧ R10 x13 x14 h15)) (
 (∃ h16, Gh h8 h16 ∧ R10 (SV.mk none 0 0) false h16))) ∧
 ∀ (_ : F) (x17_want : SV) (x18_may : Bool) (h19 : H), R10 x17_want x18_may h19 →
 f7_J1 p0_object p1_h post x3 x9 x17_want x18_may h19

def f7_hint : Hint := (.node .leaf (.node .leaf (.node .leaf (.node .leaf (.node .leaf (.node (.node .leaf (.join [(7, .sl), (8, .bool)] .leaf)) (.node .leaf (.node (.join [(4, .bool)] .leaf) .leaf))))))))

theorem f7_eq (p0_object : Int) (p1_h : SV) (h0 : H) (post : Value → H → Prop) : exec Tryd.prog (bodyOf Tryd.f7) f7_hint (retQ Tryd.prog Tryd.f7 post) (F0 [(Value.int .i64 p0_object), (Value.slice p1_h.a p1_h.len p1_h.cap)]) h0 = f7_sem p0_object p1_h h0 post := by kernel_rfl

set_option maxRecDepth 20000 in
theorem f7_call (p0_object : Int) (p1_h : SV) (h0 : H) (post : Value → H → Prop) (hx : f7_sem p0_object p1_h h0 post) : SemCall Tryd.prog 7 (List.toArray [(Value.int .i64 p0_object), (Value.slice p1_h.a p1_h.len p1_h.cap)]) h0 post :=
 sem_of_exec (g := f7_hint) mixed Tryd.func7 (bodyOf_eq (by kernel_rfl)) (by kernel_rfl) ((f7_eq p0_object p1_h h0 post).mpr hx)

/- latchgarth/latchgarthref4.Hist -/
def f23_L1 (p1_h : SV) (post : Value → H → Prop) (x9_i : Int) (r19 : Nat) (R57 : H → Prop) (I58 : Nat → Int → H → Prop) (n59 : Nat) (x62_j : Int) (h63 : H) : Prop :=
 VIf (decide (x62_j < x9_i)) (
 ∃ R64 : Bool → H → Prop, (
 ∃ b65 : Addr, p1_h.a = some b65 ∧ 0 ≤ x62_j ∧ x62_j < ((p1_h.len : Nat) : Int) ∧
 ∃ x66 : Int, H.rd h63 (Addr.add (Addr.add (Addr.add b65 ((x62_j).toNat * 6)) 0) 0) (Value.int .i64 x66) ∧
 ∃ x67 : Int, H.rd h63 (Addr.add (Addr.add (Addr.mk r19 0 none) 0) 0) (Value.int .i64 x67) ∧
 VIf (x66 == x67) (
 ∃ b68 : Addr, p1_h.a = some b68 ∧ 0 ≤ x62_j ∧ x62_j < ((p1_h.len : Nat) : Int) ∧
 ∃ x69 : Int, H.rd h63 (Addr.add (Addr.add (Addr.add b68 ((x62_j).toNat * 6)) 4) 0) (Value.int .i64 x69) ∧
 ∃ x70 : Int, H.rd h63 (Addr.add (Addr.add (Addr.mk r19 0 none) 5) 0) (Value.int .i64 x70) ∧
 VIf (decide (x69 < x70)) (
 ∃ x71 : Int, H.rd h63 (Addr.add (Addr.add (Addr.mk r19 0 none) 4) 0) (Value.int .i64 x71) ∧
 ∃ b72 : Addr, p1_h.a = some b72 ∧ 0 ≤ x62_j ∧ x62_j < ((p1_h.len : Nat) : Int) ∧
 ∃ x73 : Int, H.rd h63 (Addr.add (Addr.add (Addr.add b72 ((x62_j).toNat * 6)) 5) 0) (Value.int .i64 x73) ∧
 (∃ h74, Gh h63 h74 ∧ R64 (decide (x71 < x73)) h74)) (
 (∃ h75, Gh h63 h75 ∧ R64 false h75))) (
 (∃ h76, Gh h63 h76 ∧ R64 false h76))) ∧
 ∀ (_ : F) (x77 : Bool) (h78 : H), R64 x77 h78 →
 VIf x77 (
 VRet h78 (Value.int .i64 (6 : Int)) post) (
 In64 (x62_j + (1 : Int)) ∧
 ∃ m60, m60 < n59 ∧ (∃ h79, Gh h78 h79 ∧ I58 m60 (x62_j + (1 : Int)) h79))) (
 (∃ h80, Gh h63 h80 ∧ R57 h80))

def f23_J2 (p1_h : SV) (post : Value → H → Prop) (x9_i : Int) (R11 : H → Prop) (r19 : Nat) (x53 : Bool) (h54 : H) : Prop :=
 VIf x53 (
 VRet h54 (Value.int .i64 (1 : Int)) post) (
 ∃ x55 : Int, H.rd h54 (Addr.add (Addr.add (Addr.mk r19 0 none) 4) 0) (Value.int .i64 x55) ∧
 ∃ x56 : Int, H.rd h54 (Addr.add (Addr.add (Addr.mk r19 0 none) 5) 0) (Value.int .i64 x56) ∧
 VIf (decide (x55 ≥ x56)) (
 VRet h54 (Value.int .i64 (3 : Int)) post) (
 ∃ R57 : H → Prop, (
 ∃ I58 : Nat → Int → H → Prop, (∃ n59, (∃ h61, Gh h54 h61 ∧ I58 n59 (0 : Int) h61)) ∧
 ∀ (n59 : Nat) (_ : F) (x62_j : Int) (h63 : H), I58 n59 x62_j h63 →
 f23_L1 p1_h post x9_i r19 R57 I58 n59 x62_j h63) ∧
 ∀ (_ : F) (h81 : H), R57 h81 →
 (∃ h82, Gh h81 h82 ∧ R11 h82)))

def f23_L3 (p1_h : SV) (post : Value → H → Prop) (R4 : H → Prop) (I5 : Nat → Int → H → Prop) (n6 : Nat) (x9_i : Int) (h10 : H) : Prop :=
 VIf (decide (x9_i < ((p1_h.len : Nat) : Int))) (
 ∃ R11 : H → Prop, (
 ∃ b12 : Addr, p1_h.a = some b12 ∧ 0 ≤ x9_i ∧ x9_i < ((p1_h.len : Nat) : Int) ∧
 ∃ x13 : Int, H.rd h10 (Addr.add (Addr.add b12 ((x9_i).toNat * 6)) 0) (Value.int .i64 x13) ∧
 ∃ x14 : Int, H.rd h10 (Addr.add (Addr.add b12 ((x9_i).toNat * 6)) 1) (Value.int .i64 x14) ∧
 ∃ x15 : Int, H.rd h10 (Addr.add (Addr.add b12 ((x9_i).toNat * 6)) 2) (Value.int .i64 x15) ∧
 ∃ x16 : Int, H.rd h10 (Addr.add (Addr.add b12 ((x9_i).toNat * 6)) 3) (Value.int .i64 x16) ∧
 ∃ x17 : Int, H.rd h10 (Addr.add (Addr.add b12 ((x9_i).toNat * 6)) 4) (Value.int .i64 x17) ∧
 ∃ x18 : Int, H.rd h10 (Addr.add (Addr.add b12 ((x9_i).toNat * 6)) 5) (Value.int .i64 x18) ∧
 H.new h10 [(Value.int .i64 0), (Value.int .i64 0), (Value.int .i64 0), (Value.int .i64 0), (Value.int .i64 0), (Value.int .i64 0)] fun r19 h20 =>
 ([(Value.int .i64 x13), (Value.int .i64 x14), (Value.int .i64 x15), (Value.int .i64 x16), (Value.int .i64 x17), (Value.int .i64 x18)]).length = 6 ∧ (Program.underlying Go.Proofs.Tryd.prog 54).isSome = true ∧
 H.wr h20 (Addr.mk r19 0 none) ([(Value.int .i64 x13), (Value.int .i64 x14), (Value.int .i64 x15), (Value.int .i64 x16), (Value.int .i64 x17), (Value.int .i64 x18)]) fun h21 =>
 ∃ R22 : Bool → H → Prop, (
 ∃ x23 : Int, H.rd h21 (Addr.add (Addr.add (Addr.mk r19 0 none) 0) 0) (Value.int .i64 x23) ∧
 SemCall Go.Proofs.Tryd.prog 30 (List.toArray [(Value.int .i64 x23), (Value.int .i64 0), (Value.int .i64 (3 : Int))]) h21 fun v24 h25 =>
 ∃ x26 : Bool, v24 = (Value.bool x26) ∧
 VIf (!x26) (
 (∃ h27, Gh h25 h27 ∧ R22 true h27)) (
 ∃ x28 : Int, H.rd h25 (Addr.add (Addr.add (Addr.mk r19 0 none) 1) 0) (Value.int .i64 x28) ∧
 SemCall Go.Proofs.Tryd.prog 30 (List.toArray [(Value.int .i64 x28), (Value.int .i64 0), (Value.int .i64 (1 : Int))]) h25 fun v29 h30 =>
 ∃ x31 : Bool, v29 = (Value.bool x31) ∧
 VIf (!x31) (
 (∃ h32, Gh h30 h32 ∧ R22 true h32)) (
 ∃ x33 : Int, H.rd h30 (Addr.add (Addr.add (Addr.mk r19 0 none) 2) 0) (Value.int .i64 x33) ∧
 SemCall Go.Proofs.Tryd.prog 30 (List.toArray [(Value.int .i64 x33), (Value.int .i64 0), (Value.int .i64 (1000 : Int))]) h30 fun v34 h35 =>
 ∃ x36 : Bool, v34 = (Value.bool x36) ∧
 VIf (!x36) (
 (∃ h37, Gh h35 h37 ∧ R22 true h37)) (
 ∃ x38 : Int, H.rd h35 (Addr.add (Addr.add (Addr.mk r19 0 none) 3) 0) (Value.int .i64 x38) ∧
 SemCall Go.Proofs.Tryd.prog 30 (List.toArray [(Value.int .i64 x38), (Value.int .i64 (-1 : Int)), (Value.int .i64 (8000 : Int))]) h35 fun v39 h40 =>
 ∃ x41 : Bool, v39 = (Value.bool x41) ∧
 VIf (!x41) (
 (∃ h42, Gh h40 h42 ∧ R22 true h42)) (
 ∃ x43 : Int, H.rd h40 (Addr.add (Addr.add (Addr.mk r19 0 none) 4) 0) (Value.int .i64 x43) ∧
 SemCall Go.Proofs.Tryd.prog 30 (List.toArray [(Value.int .i64 x43), (Value.int .i64 0), (Value.int .i64 (1000 : Int))]) h40 fun v44 h45 =>
 ∃ x46 : Bool, v44 = (Value.bool x46) ∧
 VIf (!x46) (
 (∃ h47, Gh h45 h47 ∧ R22 true h47)) (
 ∃ x48 : Int, H.rd h45 (Addr.add (Addr.add (Addr.mk r19 0 none) 5) 0) (Value.int .i64 x48) ∧
 SemCall Go.Proofs.Tryd.prog 30 (List.toArray [(Value.int .i64 x48), (Value.int .i64 0), (Value.int .i64 (1000 : Int))]) h45 fun v49 h50 =>
 ∃ x51 : Bool, v49 = (Value.bool x51) ∧
 (∃ h52, Gh h50 h52 ∧ R22 (!x51) h52))))))) ∧
 ∀ (_ : F) (x53 : Bool) (h54 : H), R22 x53 h54 →
 f23_J2 p1_h post x9_i R11 r19 x53 h54) ∧
 ∀ (_ : F) (h83 : H), R11 h83 →
 In64 (x9_i + (1 : Int)) ∧
 ∃ m7, m7 < n6 ∧ (∃ h84, Gh h83 h84 ∧ I5 m7 (x9_i + (1 : Int)) h84)) (
 (∃ h85, Gh h10 h85 ∧ R4 h85))

def f23_sem (p0_object : Int) (p1_h : SV) (h0 : H) (post : Value → H → Prop) : Prop :=
 SemCall Go.Proofs.Tryd.prog 30 (List.toArray [(Value.int .i64 p0_object), (Value.int .i64 0), (Value.int .i64 (2 : Int))]) h0 fun v1 h2 =>
 ∃ x3 : Bool, v1 = (Value.bool x3) ∧
 VIf (!x3) (
 VRet h2 (Value.int .i64 (1 : Int)) post) (
 VIf (decide (((p1_h.len : Nat) : Int) > (8 : Int))) (
 VRet h2 (Value.int .i64 (4 : Int)) post) (
 ∃ R4 : H → Prop, (
 ∃ I5 : Nat → Int → H → Prop, (∃ n6, (∃ h8, Gh h2 h8 ∧ I5 n6 (0 : Int) h8)) ∧
 ∀ (n6 : Nat) (_ : F) (x9_i : Int) (h10 : H), I5 n6 x9_i h10 →
 f23_L3 p1_h post R4 I5 n6 x9_i h10) ∧
 ∀ (_ : F) (h86 : H), R4 h86 →
 VRet h86 (Value.int .i64 0) post))

def f23_hint : Hint := (.node .leaf (.node .leaf (.node .leaf (.node (.node .leaf (.join [] (.node (.loop [(5, .int)] (.node .leaf (.node (.join [] (.node (.node .leaf (.node (.node (.join [(57, .bool)] .leaf) .leaf) (.node .leaf (.node .leaf (.join [] (.node (.loop [(7, .int)] (.node .leaf (.node (.node (.node (.join [(95, .bool)] .leaf) .leaf) .leaf) .leaf))) .leaf)))))) .leaf)) .leaf))) .leaf))) .leaf))))

theorem f23_eq (p0_object : Int) (p1_h : SV) (h0 : H) (post : Value → H → Prop) : exec Tryd.prog (bodyOf Tryd.f23) f23_hint (retQ Tryd.prog Tryd.f23 post) (F0 [(Value.int .i64 p0_object), (Value.slice p1_h.a p1_h.len p1_h.cap)]) h0 = f23_sem p0_object p1_h h0 post := by kernel_rfl

set_option maxRecDepth 20000 in
theorem f23_call (p0_object : Int) (p1_h : SV) (h0 : H) (post : Value → H → Prop) (hx : f23_sem p0_object p1_h h0 post) : SemCall Tryd.prog 23 (List.toArray [(Value.int .i64 p0_object), (Value.slice p1_h.a p1_h.len p1_h.cap)]) h0 post :=
 sem_of_exec (g := f23_hint) mixed Tryd.func23 (bodyOf_eq (by kernel_rfl)) (by kernel_rfl) ((f23_eq p0_object p1_h h0 post).mpr hx)

/- latchgarth/latchgarthref4.Row -/
def f25_sem (p0_object : Int) (p1_h : SV) (h0 : H) (post : Value → H → Prop) : Prop :=
 ∃ R1 : SV → H → Prop, (
 VIf (p0_object == (0 : Int)) (
 H.new h0 [(Value.int .i64 0)] fun r2 h3 =>
 appVC Go.Proofs.Tryd.prog 22 (Value.slice none 0 0) (Value.slice (some (Addr.mk r2 0 none)) 1 1) h3 fun x4 h5 =>
 (∃ h6, Gh h5 h6 ∧ R1 x4 h6)) (
 (∃ h7, Gh h0 h7 ∧ R1 (SV.mk none 0 0) h7))) ∧
 ∀ (_ : F) (x8_has : SV) (h9 : H), R1 x8_has h9 →
 SemCall Go.Proofs.Tryd.prog 39 (List.toArray [(Value.int .i64 p0_object), (Value.slice p1_h.a p1_h.len p1_h.cap), (Value.slice none 0 0), (Value.slice x8_has.a x8_has.len x8_has.cap)]) h9 fun v10 h11 =>
 ∃ x12 : SV, v10 = (Value.slice x12.a x12.len x12.cap) ∧
 VIf (decide (((x12.len : Nat) : Int) < ((p1_h.len : Nat) : Int))) (
 VRet h11 (Value.tuple (List.toArray [(Value.slice none 0 0), (Value.bool false)])) post) (
 VRet h11 (Value.tuple (List.toArray [(Value.slice x12.a x12.len x12.cap), (Value.bool true)])) post)

def f25_hint : Hint := (.node .leaf (.node .leaf (.node (.node .leaf (.join [(6, .sl)] .leaf)) .leaf)))

theorem f25_eq (p0_object : Int) (p1_h : SV) (h0 : H) (post : Value → H → Prop) : exec Tryd.prog (bodyOf Tryd.f25) f25_hint (retQ Tryd.prog Tryd.f25 post) (F0 [(Value.int .i64 p0_object), (Value.slice p1_h.a p1_h.len p1_h.cap)]) h0 = f25_sem p0_object p1_h h0 post := by kernel_rfl

set_option maxRecDepth 20000 in
theorem f25_call (p0_object : Int) (p1_h : SV) (h0 : H) (post : Value → H → Prop) (hx : f25_sem p0_object p1_h h0 post) : SemCall Tryd.prog 25 (List.toArray [(Value.int .i64 p0_object), (Value.slice p1_h.a p1_h.len p1_h.cap)]) h0 post :=
 sem_of_exec (g := f25_hint) mixed Tryd.func25 (bodyOf_eq (by kernel_rfl)) (by kernel_rfl) ((f25_eq p0_object p1_h h0 post).mpr hx)

/- latchgarth/latchgarthref4.rest -/
def f39_L1 (p2_told : SV) (x6_i : Int) (R9 : Bool → H → Prop) (I10 : Nat → Bool → Int → H → Prop) (n11 : Nat) (x14_ok : Bool) (x15_k : Int) (h16 : H) : Prop :=
 VIf (decide (x15_k < ((p2_told.len : Nat) : Int))) (
 ∃ R17 : Bool → H → Prop, (
 VIf x14_ok (
 ∃ b18 : Addr, p2_told.a = some b18 ∧ 0 ≤ x15_k ∧ x15_k < ((p2_told.len : Nat) : Int) ∧
 ∃ x19 : Int, H.rd h16 (Addr.add (Addr.add b18 ((x15_k).toNat * 1)) 0) (Value.int .i64 x19) ∧
 (∃ h20, Gh h16 h20 ∧ R17 (x19 != x6_i) h20)) (
 (∃ h21, Gh h16 h21 ∧ R17 false h21))) ∧
 ∀ (_ : F) (x22_ok : Bool) (h23 : H), R17 x22_ok h23 →
 In64 (x15_k + (1 : Int)) ∧
 ∃ m12, m12 < n11 ∧ (∃ h24, Gh h23 h24 ∧ I10 m12 x22_ok (x15_k + (1 : Int)) h24)) (
 (∃ h25, Gh h16 h25 ∧ R9 x14_ok h25))

def f39_L2 (p2_told : SV) (x34_j : Int) (R46 : Bool → H → Prop) (I47 : Nat → Bool → Int → H → Prop) (n48 : Nat) (x51_ok : Bool) (x52_k : Int) (h53 : H) : Prop :=
 VIf (decide (x52_k < ((p2_told.len : Nat) : Int))) (
 ∃ R54 : Bool → H → Prop, (
 VIf x51_ok (
 (∃ h55, Gh h53 h55 ∧ R54 true h55)) (
 ∃ b56 : Addr, p2_told.a = some b56 ∧ 0 ≤ x52_k ∧ x52_k < ((p2_told.len : Nat) : Int) ∧
 ∃ x57 : Int, H.rd h53 (Addr.add (Addr.add b56 ((x52_k).toNat * 1)) 0) (Value.int .i64 x57) ∧
 (∃ h58, Gh h53 h58 ∧ R54 (x57 == x34_j) h58))) ∧
 ∀ (_ : F) (x59_ok : Bool) (h60 : H), R54 x59_ok h60 →
 In64 (x52_k + (1 : Int)) ∧
 ∃ m49, m49 < n48 ∧ (∃ h61, Gh h60 h61 ∧ I47 m49 x59_ok (x52_k + (1 : Int)) h61)) (
 (∃ h62, Gh h53 h62 ∧ R46 x51_ok h62))

def f39_J3 (p1_h : SV) (p2_told : SV) (x6_i : Int) (R28 : Bool → H → Prop) (I29 : Nat → Bool → Int → H → Prop) (n30 : Nat) (x33_ok : Bool) (x34_j : Int) (x39 : Bool) (h40 : H) : Prop :=
 VIf x39 (
 ∃ R41 : Bool → H → Prop, (
 ∃ b42 : Addr, p1_h.a = some b42 ∧ 0 ≤ x34_j ∧ x34_j < ((p1_h.len : Nat) : Int) ∧
 ∃ x43 : Int, H.rd h40 (Addr.add (Addr.add (Addr.add b42 ((x34_j).toNat * 6)) 5) 0) (Value.int .i64 x43) ∧
 ∃ b44 : Addr, p1_h.a = some b44 ∧ 0 ≤ x6_i ∧ x6_i < ((p1_h.len : Nat) : Int) ∧
 ∃ x45 : Int, H.rd h40 (Addr.add (Addr.add (Addr.add b44 ((x6_i).toNat * 6)) 4) 0) (Value.int .i64 x45) ∧
 VIf (decide (x43 ≤ x45)) (
 ∃ R46 : Bool → H → Prop, (
 ∃ I47 : Nat → Bool → Int → H → Prop, (∃ n48, (∃ h50, Gh h40 h50 ∧ I47 n48 false (0 : Int) h50)) ∧
 ∀ (n48 : Nat) (_ : F) (x51_ok : Bool) (x52_k : Int) (h53 : H), I47 n48 x51_ok x52_k h53 →
 f39_L2 p2_told x34_j R46 I47 n48 x51_ok x52_k h53) ∧
 ∀ (_ : F) (x63_ok : Bool) (h64 : H), R46 x63_ok h64 →
 (∃ h65, Gh h64 h65 ∧ R41 x63_ok h65)) (
 (∃ h66, Gh h40 h66 ∧ R41 x33_ok h66))) ∧
 ∀ (_ : F) (x67_ok : Bool) (h68 : H), R41 x67_ok h68 →
 In64 (x34_j + (1 : Int)) ∧
 ∃ m31, m31 < n30 ∧ (∃ h69, Gh h68 h69 ∧ I29 m31 x67_ok (x34_j + (1 : Int)) h69)) (
 (∃ h70, Gh h40 h70 ∧ R28 x33_ok h70))

def f39_L4 (p1_h : SV) (p2_told : SV) (x6_i : Int) (R28 : Bool → H → Prop) (I29 : Nat → Bool → Int → H → Prop) (n30 : Nat) (x33_ok : Bool) (x34_j : Int) (h35 : H) : Prop :=
 ∃ R36 : Bool → H → Prop, (
 VIf (decide (x34_j < ((p1_h.len : Nat) : Int))) (
 (∃ h37, Gh h35 h37 ∧ R36 x33_ok h37)) (
 (∃ h38, Gh h35 h38 ∧ R36 false h38))) ∧
 ∀ (_ : F) (x39 : Bool) (h40 : H), R36 x39 h40 →
 f39_J3 p1_h p2_told x6_i R28 I29 n30 x33_ok x34_j x39 h40

def f39_J5 (p0_object : Int) (p1_h : SV) (p2_told : SV) (p3_has : SV) (post : Value → H → Prop) (x6_i : Int) (R8 : H → Prop) (x71_ok : Bool) (h72 : H) : Prop :=
 VIf (!x71_ok) (
 (∃ h73, Gh h72 h73 ∧ R8 h73)) (
 ∃ b74 : Addr, p1_h.a = some b74 ∧ 0 ≤ x6_i ∧ x6_i < ((p1_h.len : Nat) : Int) ∧
 ∃ x75 : Int, H.rd h72 (Addr.add (Addr.add b74 ((x6_i).toNat * 6)) 0) (Value.int .i64 x75) ∧
 ∃ x76 : Int, H.rd h72 (Addr.add (Addr.add b74 ((x6_i).toNat * 6)) 1) (Value.int .i64 x76) ∧
 ∃ x77 : Int, H.rd h72 (Addr.add (Addr.add b74 ((x6_i).toNat * 6)) 2) (Value.int .i64 x77) ∧
 ∃ x78 : Int, H.rd h72 (Addr.add (Addr.add b74 ((x6_i).toNat * 6)) 3) (Value.int .i64 x78) ∧
 ∃ x79 : Int, H.rd h72 (Addr.add (Addr.add b74 ((x6_i).toNat * 6)) 4) (Value.int .i64 x79) ∧
 ∃ x80 : Int, H.rd h72 (Addr.add (Addr.add b74 ((x6_i).toNat * 6)) 5) (Value.int .i64 x80) ∧
 SemCall Go.Proofs.Tryd.prog 46 (List.toArray [(Value.int .i64 p0_object), (Value.slice p3_has.a p3_has.len p3_has.cap), (Value.agg (List.toArray [(Value.int .i64 x75), (Value.int .i64 x76), (Value.int .i64 x77), (Value.int .i64 x78), (Value.int .i64 x79), (Value.int .i64 x80)]))]) h72 fun v81 h82 =>
 ∃ x83 : SV, ∃ x84 : Int, v81 = (Value.tuple (List.toArray [(Value.slice x83.a x83.len x83.cap), (Value.int .i64 x84)])) ∧
 ∃ b85 : Addr, p1_h.a = some b85 ∧ 0 ≤ x6_i ∧ x6_i < ((p1_h.len : Nat) : Int) ∧
 ∃ x86 : Int, H.rd h82 (Addr.add (Addr.add (Addr.add b85 ((x6_i).toNat * 6)) 3) 0) (Value.int .i64 x86) ∧
 VIf (x84 != x86) (
 (∃ h87, Gh h82 h87 ∧ R8 h87)) (
 appVC Go.Proofs.Tryd.prog 22 (Value.slice none 0 0) (Value.slice p2_told.a p2_told.len p2_told.cap) h82 fun x88 h89 =>
 H.new h89 [(Value.int .i64 x6_i)] fun r90 h91 =>
 appVC Go.Proofs.Tryd.prog 22 (Value.slice x88.a x88.len x88.cap) (Value.slice (some (Addr.mk r90 0 none)) 1 1) h91 fun x92 h93 =>
 SemCall Go.Proofs.Tryd.prog 39 (List.toArray [(Value.int .i64 p0_object), (Value.slice p1_h.a p1_h.len p1_h.cap), (Value.slice x92.a x92.len x92.cap), (Value.slice x83.a x83.len x83.cap)]) h93 fun v94 h95 =>
 ∃ x96 : SV, v94 = (Value.slice x96.a x96.len x96.cap) ∧
 VIf (((x96.len : Nat) : Int) == ((p1_h.len : Nat) : Int)) (
 VRet h95 (Value.slice x96.a x96.len x96.cap) post) (
 (∃ h97, Gh h95 h97 ∧ R8 h97))))

def f39_L6 (p0_object : Int) (p1_h : SV) (p2_told : SV) (p3_has : SV) (post : Value → H → Prop) (R1 : H → Prop) (I2 : Nat → Int → H → Prop) (n3 : Nat) (x6_i : Int) (h7 : H) : Prop :=
 VIf (decide (x6_i < ((p1_h.len : Nat) : Int))) (
 ∃ R8 : H → Prop, (
 ∃ R9 : Bool → H → Prop, (
 ∃ I10 : Nat → Bool → Int → H → Prop, (∃ n11, (∃ h13, Gh h7 h13 ∧ I10 n11 true (0 : Int) h13)) ∧
 ∀ (n11 : Nat) (_ : F) (x14_ok : Bool) (x15_k : Int) (h16 : H), I10 n11 x14_ok x15_k h16 →
 f39_L1 p2_told x6_i R9 I10 n11 x14_ok x15_k h16) ∧
 ∀ (_ : F) (x26_ok : Bool) (h27 : H), R9 x26_ok h27 →
 ∃ R28 : Bool → H → Prop, (
 ∃ I29 : Nat → Bool → Int → H → Prop, (∃ n30, (∃ h32, Gh h27 h32 ∧ I29 n30 x26_ok (0 : Int) h32)) ∧
 ∀ (n30 : Nat) (_ : F) (x33_ok : Bool) (x34_j : Int) (h35 : H), I29 n30 x33_ok x34_j h35 →
 f39_L4 p1_h p2_told x6_i R28 I29 n30 x33_ok x34_j h35) ∧
 ∀ (_ : F) (x71_ok : Bool) (h72 : H), R28 x71_ok h72 →
 f39_J5 p0_object p1_h p2_told p3_has post x6_i R8 x71_ok h72) ∧
 ∀ (_ : F) (h98 : H), R8 h98 →
 In64 (x6_i + (1 : Int)) ∧
 ∃ m4, m4 < n3 ∧ (∃ h99, Gh h98 h99 ∧ I2 m4 (x6_i + (1 : Int)) h99)) (
 (∃ h100, Gh h7 h100 ∧ R1 h100))

def f39_sem (p0_object : Int) (p1_h : SV) (p2_told : SV) (p3_has : SV) (h0 : H) (post : Value → H → Prop) : Prop :=
 ∃ R1 : H → Prop, (
 ∃ I2 : Nat → Int → H → Prop, (∃ n3, (∃ h5, Gh h0 h5 ∧ I2 n3 (0 : Int) h5)) ∧
 ∀ (n3 : Nat) (_ : F) (x6_i : Int) (h7 : H), I2 n3 x6_i h7 →
 f39_L6 p0_object p1_h p2_told p3_has post R1 I2 n3 x6_i h7) ∧
 ∀ (_ : F) (h101 : H), R1 h101 →
 VRet h101 (Value.slice p2_told.a p2_told.len p2_told.cap) post

def f39_hint : Hint := (.node .leaf (.node (.node .leaf (.join [] (.node (.loop [(9, .int)] (.node .leaf (.node (.join [] (.node (.node .leaf (.node (.node .leaf (.join [(10, .bool)] (.node (.loop [(10, .bool), (11, .int)] (.node .leaf (.node (.node (.join [(10, .bool)] .leaf) .leaf) .leaf))) .leaf))) (.node (.node .leaf (.join [(10, .bool)] (.node (.loop [(10, .bool), (12, .int)] (.node (.node (.join [(45, .bool)] .leaf) .leaf) (.node (.join [(10, .bool)] (.node (.node .leaf (.node (.node .leaf (.node .leaf (.join [(10, .bool)] (.node (.loop [(10, .bool), (13, .int)] (.node .leaf (.node (.node (.join [(10, .bool)] .leaf) .leaf) .leaf))) .leaf)))) .leaf)) .leaf)) .leaf))) .leaf))) .leaf))) .leaf)) .leaf))) .leaf))) .leaf))

theorem f39_eq (p0_object : Int) (p1_h : SV) (p2_told : SV) (p3_has : SV) (h0 : H) (post : Value → H → Prop) : exec Tryd.prog (bodyOf Tryd.f39) f39_hint (retQ Tryd.prog Tryd.f39 post) (F0 [(Value.int .i64 p0_object), (Value.slice p1_h.a p1_h.len p1_h.cap), (Value.slice p2_told.a p2_told.len p2_told.cap), (Value.slice p3_has.a p3_has.len p3_has.cap)]) h0 = f39_sem p0_object p1_h p2_told p3_has h0 post := by kernel_rfl

set_option maxRecDepth 20000 in
theorem f39_call (p0_object : Int) (p1_h : SV) (p2_told : SV) (p3_has : SV) (h0 : H) (post : Value → H → Prop) (hx : f39_sem p0_object p1_h p2_told p3_has h0 post) : SemCall Tryd.prog 39 (List.toArray [(Value.int .i64 p0_object), (Value.slice p1_h.a p1_h.len p1_h.cap), (Value.slice p2_told.a p2_told.len p2_told.cap), (Value.slice p3_has.a p3_has.len p3_has.cap)]) h0 post :=
 sem_of_exec (g := f39_hint) mixed Tryd.func39 (bodyOf_eq (by kernel_rfl)) (by kernel_rfl) ((f39_eq p0_object p1_h p2_told p3_has h0 post).mpr hx)

/- latchgarth/latchgarthref4.Gets -/
def f46_sem (p0_object : Int) (p1_has : SV) (p2_0_o : Int) (p2_1_o : Int) (p2_2_o : Int) (p2_3_o : Int) (p2_4_o : Int) (p2_5_o : Int) (h0 : H) (post : Value → H → Prop) : Prop :=
 H.new h0 [(Value.int .i64 p2_0_o), (Value.int .i64 p2_1_o), (Value.int .i64 p2_2_o), (Value.int .i64 p2_3_o), (Value.int .i64 p2_4_o), (Value.int .i64 p2_5_o)] fun r1 h2 =>
 VIf (p0_object == (0 : Int)) (
 ∃ x3 : Int, H.rd h2 (Addr.add (Addr.add (Addr.mk r1 0 none) 1) 0) (Value.int .i64 x3) ∧
 VIf (x3 == (0 : Int)) (
 ∃ b4 : Addr, p1_has.a = some b4 ∧ 0 ≤ (0 : Int) ∧ (0 : Int) < ((p1_has.len : Nat) : Int) ∧
 ∃ b5 : Addr, p1_has.a = some b5 ∧ 0 ≤ (0 : Int) ∧ (0 : Int) < ((p1_has.len : Nat) : Int) ∧
 ∃ x6 : Int, H.rd h2 (Addr.add (Addr.add b4 (((0 : Int)).toNat * 1)) 0) (Value.int .i64 x6) ∧
 ∃ x7 : Int, H.rd h2 (Addr.add (Addr.add (Addr.mk r1 0 none) 2) 0) (Value.int .i64 x7) ∧
 In64 (x6 + x7) ∧
 ∃ x8 : Int, H.rd h2 (Addr.add (Addr.add b5 (((0 : Int)).toNat * 1)) 0) (Value.int .i64 x8) ∧
 H.new h2 [(Value.int .i64 (x6 + x7))] fun r9 h10 =>
 VRet h10 (Value.tuple (List.toArray [(Value.slice (some (Addr.mk r9 0 none)) 1 1), (Value.int .i64 x8)])) post) (
 ∃ b11 : Addr, p1_has.a = some b11 ∧ 0 ≤ (0 : Int) ∧ (0 : Int) < ((p1_has.len : Nat) : Int) ∧
 ∃ x12 : Int, H.rd h2 (Addr.add (Addr.add b11 (((0 : Int)).toNat * 1)) 0) (Value.int .i64 x12) ∧
 VRet h2 (Value.tuple (List.toArray [(Value.slice p1_has.a p1_has.len p1_has.cap), (Value.int .i64 x12)])) post)) (
 ∃ x13 : Int, H.rd h2 (Addr.add (Addr.add (Addr.mk r1 0 none) 1) 0) (Value.int .i64 x13) ∧
 VIf (x13 == (0 : Int)) (
 appVC Go.Proofs.Tryd.prog 22 (Value.slice none 0 0) (Value.slice p1_has.a p1_has.len p1_has.cap) h2 fun x14 h15 =>
 ∃ x16 : Int, H.rd h15 (Addr.add (Addr.add (Addr.mk r1 0 none) 2) 0) (Value.int .i64 x16) ∧
 H.new h15 [(Value.int .i64 x16)] fun r17 h18 =>
 appVC Go.Proofs.Tryd.prog 22 (Value.slice x14.a x14.len x14.cap) (Value.slice (some (Addr.mk r17 0 none)) 1 1) h18 fun x19 h20 =>
 VRet h20 (Value.tuple (List.toArray [(Value.slice x19.a x19.len x19.cap), (Value.int .i64 (-1 : Int))])) post) (
 VIf (((p1_has.len : Nat) : Int) == (0 : Int)) (
 VRet h2 (Value.tuple (List.toArray [(Value.slice p1_has.a p1_has.len p1_has.cap), (Value.int .i64 (-1 : Int))])) post) (
 VIf (p0_object == (1 : Int)) (
 In64 (((p1_has.len : Nat) : Int) - (1 : Int)) ∧
 0 ≤ (((p1_has.len : Nat) : Int) - (1 : Int)) ∧ (((p1_has.len : Nat) : Int) - (1 : Int)) ≤ ((p1_has.cap : Nat) : Int) ∧
 In64 (((p1_has.len : Nat) : Int) - (1 : Int)) ∧
 ∃ b21 : Addr, p1_has.a = some b21 ∧ 0 ≤ (((p1_has.len : Nat) : Int) - (1 : Int)) ∧ (((p1_has.len : Nat) : Int) - (1 : Int)) < ((p1_has.len : Nat) : Int) ∧
 ∃ x22 : Int, H.rd h2 (Addr.add (Addr.add b21 (((((p1_has.len : Nat) : Int) - (1 : Int))).toNat * 1)) 0) (Value.int .i64 x22) ∧
 VRet h2 (Value.tuple (List.toArray [(Value.slice p1_has.a (((((p1_has.len : Nat) : Int) - (1 : Int))).toNat) p1_has.cap), (Value.int .i64 x22)])) post) (
 0 ≤ (1 : Int) ∧ (1 : Int) ≤ ((p1_has.len : Nat) : Int) ∧
 ∃ b23 : Addr, p1_has.a = some b23 ∧ 0 ≤ (0 : Int) ∧ (0 : Int) < ((p1_has.len : Nat) : Int) ∧
 ∃ x24 : Int, H.rd h2 (Addr.add (Addr.add b23 (((0 : Int)).toNat * 1)) 0) (Value.int .i64 x24) ∧
 VRet h2 (Value.tuple (List.toArray [(Value.slice (if p1_has.cap = ((1 : Int)).toNat then p1_has.a else Option.map (fun z => Addr.add z (((1 : Int)).toNat * 1)) p1_has.a) (p1_has.len - ((1 : Int)).toNat) (p1_has.cap - ((1 : Int)).toNat)), (Value.int .i64 x24)])) post))))

def f46_hint : Hint := (.node .leaf (.node .leaf (.node (.node .leaf (.node (.node (.node .leaf (.node (.node .lex .leaf) .leaf)) .leaf) .leaf)) .leaf)))

theorem f46_eq (p0_object : Int) (p1_has : SV) (p2_0_o : Int) (p2_1_o : Int) (p2_2_o : Int) (p2_3_o : Int) (p2_4_o : Int) (p2_5_o : Int) (h0 : H) (post : Value → H → Prop) : exec Tryd.prog (bodyOf Tryd.f46) f46_hint (retQ Tryd.prog Tryd.f46 post) (F0 [(Value.int .i64 p0_object), (Value.slice p1_has.a p1_has.len p1_has.cap), (Value.agg (List.toArray [(Value.int .i64 p2_0_o), (Value.int .i64 p2_1_o), (Value.int .i64 p2_2_o), (Value.int .i64 p2_3_o), (Value.int .i64 p2_4_o), (Value.int .i64 p2_5_o)]))]) h0 = f46_sem p0_object p1_has p2_0_o p2_1_o p2_2_o p2_3_o p2_4_o p2_5_o h0 post := by kernel_rfl

set_option maxRecDepth 20000 in
theorem f46_call (p0_object : Int) (p1_has : SV) (p2_0_o : Int) (p2_1_o : Int) (p2_2_o : Int) (p2_3_o : Int) (p2_4_o : Int) (p2_5_o : Int) (h0 : H) (post : Value → H → Prop) (hx : f46_sem p0_object p1_has p2_0_o p2_1_o p2_2_o p2_3_o p2_4_o p2_5_o h0 post) : SemCall Tryd.prog 46 (List.toArray [(Value.int .i64 p0_object), (Value.slice p1_has.a p1_has.len p1_has.cap), (Value.agg (List.toArray [(Value.int .i64 p2_0_o), (Value.int .i64 p2_1_o), (Value.int .i64 p2_2_o), (Value.int .i64 p2_3_o), (Value.int .i64 p2_4_o), (Value.int .i64 p2_5_o)]))]) h0 post :=
 sem_of_exec (g := f46_hint) mixed Tryd.func46 (bodyOf_eq (by kernel_rfl)) (by kernel_rfl) ((f46_eq p0_object p1_has p2_0_o p2_1_o p2_2_o p2_3_o p2_4_o p2_5_o h0 post).mpr hx)

/- latchgarth/latchgarthlaw4.linFact -/
def f27_sem (h0 : H) (post : Value → H → Prop) : Prop :=
 SemCall Go.Proofs.Tryd.prog 41 (List.toArray []) h0 fun v1 h2 =>
 ∃ x3 : SV, v1 = (Value.slice x3.a x3.len x3.cap) ∧
 SemCall Go.Proofs.Tryd.prog 26 (List.toArray [(Value.int .i64 (2 : Int)), (Value.slice x3.a x3.len x3.cap)]) h2 fun v4 h5 =>
 ∃ x6 : Bool, ∃ x7 : SV, ∃ x8 : Option (TypeId × Value), v4 = (Value.tuple (List.toArray [(Value.bool x6), (Value.slice x7.a x7.len x7.cap), (errV x8)])) ∧
 SemCall Go.Proofs.Tryd.prog 41 (List.toArray []) h5 fun v9 h10 =>
 ∃ x11 : SV, v9 = (Value.slice x11.a x11.len x11.cap) ∧
 SemCall Go.Proofs.Tryd.prog 26 (List.toArray [(Value.int .i64 (1 : Int)), (Value.slice x11.a x11.len x11.cap)]) h10 fun v12 h13 =>
 ∃ x14 : Bool, ∃ x15 : SV, ∃ x16 : Option (TypeId × Value), v12 = (Value.tuple (List.toArray [(Value.bool x14), (Value.slice x15.a x15.len x15.cap), (errV x16)])) ∧
 ∃ R17 : Bool → H → Prop, (
 isIfaceV (errV x8) = true ∧
 VIf (isNilV (errV x8)) (
 isIfaceV (errV x16) = true ∧
 VIf (isNilV (errV x16)) (
 VIf (!x6) (
 VIf x14 (
 H.new h13 [(Value.int .i64 0), (Value.int .i64 (1 : Int)), (Value.int .i64 (2 : Int))] fun r18 h19 =>
 SemCall Go.Proofs.Tryd.prog 17 (List.toArray [(Value.slice x15.a x15.len x15.cap), (Value.slice (some (Addr.mk r18 0 none)) 3 3)]) h19 fun v20 h21 =>
 ∃ x22 : Bool, v20 = (Value.bool x22) ∧
 (∃ h23, Gh h21 h23 ∧ R17 x22 h23)) (
 (∃ h24, Gh h13 h24 ∧ R17 false h24))) (
 (∃ h25, Gh h13 h25 ∧ R17 false h25))) (
 (∃ h26, Gh h13 h26 ∧ R17 false h26))) (
 (∃ h27, Gh h13 h27 ∧ R17 false h27))) ∧
 ∀ (_ : F) (x28 : Bool) (h29 : H), R17 x28 h29 →
 VRet h29 (Value.bool x28) post

def f27_hint : Hint := (.node .leaf (.node .leaf (.node .leaf (.node (.join [(0, .bool)] .leaf) .leaf))))

theorem f27_eq (h0 : H) (post : Value → H → Prop) : exec Tryd.prog (bodyOf Tryd.f27) f27_hint (retQ Tryd.prog Tryd.f27 post) (F0 []) h0 = f27_sem h0 post := by kernel_rfl

set_option maxRecDepth 20000 in
theorem f27_call (h0 : H) (post : Value → H → Prop) (hx : f27_sem h0 post) : SemCall Tryd.prog 27 (List.toArray []) h0 post :=
 sem_of_exec (g := f27_hint) mixed Tryd.func27 (bodyOf_eq (by kernel_rfl)) (by kernel_rfl) ((f27_eq h0 post).mpr hx)

/- latchgarth/latchgarthlaw4.swapped -/
def f41_sem (h0 : H) (post : Value → H → Prop) : Prop :=
 H.new h0 [(Value.int .i64 0), (Value.int .i64 0), (Value.int .i64 (1 : Int)), (Value.int .i64 (-1 : Int)), (Value.int .i64 0), (Value.int .i64 (1 : Int)), (Value.int .i64 0), (Value.int .i64 0), (Value.int .i64 (2 : Int)), (Value.int .i64 (-1 : Int)), (Value.int .i64 (1 : Int)), (Value.int .i64 (2 : Int)), (Value.int .i64 (1 : Int)), (Value.int .i64 (1 : Int)), (Value.int .i64 0), (Value.int .i64 (2 : Int)), (Value.int .i64 (3 : Int)), (Value.int .i64 (4 : Int))] fun r1 h2 =>
 VRet h2 (Value.slice (some (Addr.mk r1 0 none)) 3 3) post

def f41_hint : Hint := .leaf

theorem f41_eq (h0 : H) (post : Value → H → Prop) : exec Tryd.prog (bodyOf Tryd.f41) f41_hint (retQ Tryd.prog Tryd.f41 post) (F0 []) h0 = f41_sem h0 post := by kernel_rfl

set_option maxRecDepth 20000 in
theorem f41_call (h0 : H) (post : Value → H → Prop) (hx : f41_sem h0 post) : SemCall Tryd.prog 41 (List.toArray []) h0 post :=
 sem_of_exec (g := f41_hint) mixed Tryd.func41 (bodyOf_eq (by kernel_rfl)) (by kernel_rfl) ((f41_eq h0 post).mpr hx)

/- latchgarth/core.Has -/
def f47_sem (p0_set : Int) (p1_i : Int) (h0 : H) (post : Value → H → Prop) : Prop :=
 0 ≤ p1_i ∧ p1_i ≤ 63 ∧
 VRet h0 (Value.bool ((bitsV .and (Int.fdiv p0_set (2 ^ (p1_i).toNat)) (1 : Int)) == (1 : Int))) post

def f47_hint : Hint := .leaf

theorem f47_eq (p0_set : Int) (p1_i : Int) (h0 : H) (post : Value → H → Prop) : exec Tryd.prog (bodyOf Tryd.f47) f47_hint (retQ Tryd.prog Tryd.f47 post) (F0 [(Value.int .i64 p0_set), (Value.int .i64 p1_i)]) h0 = f47_sem p0_set p1_i h0 post := by kernel_rfl

set_option maxRecDepth 20000 in
theorem f47_call (p0_set : Int) (p1_i : Int) (h0 : H) (post : Value → H → Prop) (hx : f47_sem p0_set p1_i h0 post) : SemCall Tryd.prog 47 (List.toArray [(Value.int .i64 p0_set), (Value.int .i64 p1_i)]) h0 post :=
 sem_of_exec (g := f47_hint) mixed Tryd.func47 (bodyOf_eq (by kernel_rfl)) (by kernel_rfl) ((f47_eq p0_set p1_i h0 post).mpr hx)

end Go.Proofs.YtnepjdobknjecaaDoor
