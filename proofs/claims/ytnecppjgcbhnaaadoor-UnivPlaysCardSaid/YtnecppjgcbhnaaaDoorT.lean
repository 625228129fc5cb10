import Derived.Test.YtnecppjgcbhnaaaDoorEngG
import Derived.Test.YtnecppjgcbhnaaaDoorRows
namespace Go.Proofs.YtnecppjgcbhnaaaDoor
open Go.Eng
theorem mixed : Tryd.prog.follows .mixedOrders = true := by kernel_rfl
/- latchgarth/latchgarthlaw3.RingPlays -/
def f3_J1 (post : Value → H → Prop) (x3 : Option Addr) (r15 : Nat) (I19 : Nat → Int → H → Prop) (n20 : Nat) (x23_i : Int) (h156 : H) : Prop :=
  SemCall Go.Proofs.Tryd.prog 15 (List.toArray [(Value.pointer x3)]) h156 fun v157 h158 =>
  ∃ x159 : Int, ∃ x160 : Int, v157 = (Value.tuple (List.toArray [(Value.int .i64 x159), (Value.int .i64 x160)])) ∧
  ∃ R161 : Bool → H → Prop, (
    ∃ x162 : Int, H.rd h158 (Addr.add (Addr.add (Addr.mk r15 0 none) 1) 0) (Value.int .i64 x162) ∧
    VIf (x159 != x162) (
      (∃ h163, Gh h158 h163 ∧ R161 true h163)) (
      ∃ x164 : Int, H.rd h158 (Addr.add (Addr.add (Addr.mk r15 0 none) 2) 0) (Value.int .i64 x164) ∧
      VIf (x160 != x164) (
        (∃ h165, Gh h158 h165 ∧ R161 true h165)) (
        (
          SemCall Go.Proofs.Tryd.prog 17 (List.toArray [(Value.pointer x3)]) h158 fun v166 h167 =>
          ∃ x168 : SV, v166 = (Value.slice x168.a x168.len x168.cap) ∧
          ∃ x169 : SV, H.rd h167 (Addr.add (Addr.add (Addr.mk r15 0 none) 0) 0) (Value.slice x169.a x169.len x169.cap) ∧
          SemCall Go.Proofs.Tryd.prog 16 (List.toArray [(Value.slice x168.a x168.len x168.cap), (Value.slice x169.a x169.len x169.cap)]) h167 fun v170 h171 =>
          ∃ x172 : Bool, v170 = (Value.bool x172) ∧
          (∃ h173, Gh h171 h173 ∧ R161 (!x172) h173)) ∧
        (
          ∃ x174 : SV, H.rd h158 (Addr.add (Addr.add (Addr.mk r15 0 none) 0) 0) (Value.slice x174.a x174.len x174.cap) ∧
          SemCall Go.Proofs.Tryd.prog 17 (List.toArray [(Value.pointer x3)]) h158 fun v175 h176 =>
          ∃ x177 : SV, v175 = (Value.slice x177.a x177.len x177.cap) ∧
          SemCall Go.Proofs.Tryd.prog 16 (List.toArray [(Value.slice x177.a x177.len x177.cap), (Value.slice x174.a x174.len x174.cap)]) h176 fun v178 h179 =>
          ∃ x180 : Bool, v178 = (Value.bool x180) ∧
          (∃ h181, Gh h179 h181 ∧ R161 (!x180) h181))))) ∧
  ∀ (_ : F) (x182 : Bool) (h183 : H), R161 x182 h183 →
  VIf x182 (
    VRet h183 (Value.bool false) post) (
    In64 (x23_i + (1 : Int)) ∧
    ∃ m21, m21 < n20 ∧ (∃ h184, Gh h183 h184 ∧ I19 m21 (x23_i + (1 : Int)) h184))

def f3_J2 (p1_steps : SV) (post : Value → H → Prop) (x3 : Option Addr) (r15 : Nat) (R18 : H → Prop) (I19 : Nat → Int → H → Prop) (n20 : Nat) (x23_i : Int) (x28 : Bool) (h29 : H) : Prop :=
  VIf x28 (
    ∃ b30 : Addr, p1_steps.a = some b30 ∧ 0 ≤ x23_i ∧ x23_i < ((p1_steps.len : Nat) : Int) ∧
    ∃ x31 : Int, H.rd h29 (Addr.add (Addr.add b30 ((x23_i).toNat * 1)) 0) (Value.int .i64 x31) ∧
    ∃ R32 : H → Prop, (
      VIf (x31 == (-2 : Int)) (
        ∃ x33 : SV, H.rd h29 (Addr.add (Addr.mk r15 0 none) 0) (Value.slice x33.a x33.len x33.cap) ∧
        ∃ x34 : Int, H.rd h29 (Addr.add (Addr.mk r15 0 none) 1) (Value.int .i64 x34) ∧
        ∃ x35 : Int, H.rd h29 (Addr.add (Addr.mk r15 0 none) 2) (Value.int .i64 x35) ∧
        ∃ x36 : Int, H.rd h29 (Addr.add (Addr.mk r15 0 none) 3) (Value.int .i64 x36) ∧
        ∃ x37 : Int, H.rd h29 (Addr.add (Addr.mk r15 0 none) 4) (Value.int .i64 x37) ∧
        ∃ x38 : Int, H.rd h29 (Addr.add (Addr.mk r15 0 none) 5) (Value.int .i64 x38) ∧
        ∃ x39 : Int, H.rd h29 (Addr.add (Addr.mk r15 0 none) 6) (Value.int .i64 x39) ∧
        SemCall Go.Proofs.Tryd.prog 8 (List.toArray [(Value.agg (List.toArray [(Value.slice x33.a x33.len x33.cap), (Value.int .i64 x34), (Value.int .i64 x35), (Value.int .i64 x36), (Value.int .i64 x37), (Value.int .i64 x38), (Value.int .i64 x39)]))]) h29 fun v40 h41 =>
        ∃ x42 : SV, ∃ x43 : Int, ∃ x44 : Int, ∃ x45 : Int, ∃ x46 : Int, ∃ x47 : Int, ∃ x48 : Int, ∃ x49 : Bool, ∃ x50 : Bool, ∃ x51 : Int, v40 = (Value.tuple (List.toArray [(Value.agg (List.toArray [(Value.slice x42.a x42.len x42.cap), (Value.int .i64 x43), (Value.int .i64 x44), (Value.int .i64 x45), (Value.int .i64 x46), (Value.int .i64 x47), (Value.int .i64 x48)])), (Value.bool x49), (Value.bool x50), (Value.int .i64 x51)])) ∧
        H.new h41 [(Value.slice none 0 0), (Value.int .i64 (0 : Int)), (Value.int .i64 (0 : Int)), (Value.int .i64 (0 : Int)), (Value.int .i64 (0 : Int)), (Value.int .i64 (0 : Int)), (Value.int .i64 (0 : Int))] fun r52 h53 =>
        ([(Value.slice x42.a x42.len x42.cap), (Value.int .i64 x43), (Value.int .i64 x44), (Value.int .i64 x45), (Value.int .i64 x46), (Value.int .i64 x47), (Value.int .i64 x48)]).length = 7 ∧ (Program.underlying Go.Proofs.Tryd.prog 30).isSome = true ∧
        H.wr h53 (Addr.mk r52 0 none) ([(Value.slice x42.a x42.len x42.cap), (Value.int .i64 x43), (Value.int .i64 x44), (Value.int .i64 x45), (Value.int .i64 x46), (Value.int .i64 x47), (Value.int .i64 x48)]) fun h54 =>
        ∃ x55 : SV, H.rd h54 (Addr.add (Addr.mk r52 0 none) 0) (Value.slice x55.a x55.len x55.cap) ∧
        ∃ x56 : Int, H.rd h54 (Addr.add (Addr.mk r52 0 none) 1) (Value.int .i64 x56) ∧
        ∃ x57 : Int, H.rd h54 (Addr.add (Addr.mk r52 0 none) 2) (Value.int .i64 x57) ∧
        ∃ x58 : Int, H.rd h54 (Addr.add (Addr.mk r52 0 none) 3) (Value.int .i64 x58) ∧
        ∃ x59 : Int, H.rd h54 (Addr.add (Addr.mk r52 0 none) 4) (Value.int .i64 x59) ∧
        ∃ x60 : Int, H.rd h54 (Addr.add (Addr.mk r52 0 none) 5) (Value.int .i64 x60) ∧
        ∃ x61 : Int, H.rd h54 (Addr.add (Addr.mk r52 0 none) 6) (Value.int .i64 x61) ∧
        ([(Value.slice x55.a x55.len x55.cap), (Value.int .i64 x56), (Value.int .i64 x57), (Value.int .i64 x58), (Value.int .i64 x59), (Value.int .i64 x60), (Value.int .i64 x61)]).length = 7 ∧ (Program.underlying Go.Proofs.Tryd.prog 30).isSome = true ∧
        H.wr h54 (Addr.mk r15 0 none) ([(Value.slice x55.a x55.len x55.cap), (Value.int .i64 x56), (Value.int .i64 x57), (Value.int .i64 x58), (Value.int .i64 x59), (Value.int .i64 x60), (Value.int .i64 x61)]) fun h62 =>
        SemCall Go.Proofs.Tryd.prog 9 (List.toArray [(Value.pointer x3)]) h62 fun v63 h64 =>
        ∃ x65 : Bool, ∃ x66 : Bool, ∃ x67 : Option (TypeId × Value), v63 = (Value.tuple (List.toArray [(Value.bool x65), (Value.bool x66), (errV x67)])) ∧
        ∃ R68 : Bool → H → Prop, (
          SemCall Go.Proofs.Tryd.prog 7 (List.toArray [(errV x67), (Value.int .i64 x51)]) h64 fun v69 h70 =>
          ∃ x71 : Bool, v69 = (Value.bool x71) ∧
          VIf (!x71) (
            (∃ h72, Gh h70 h72 ∧ R68 true h72)) (
            VIf (!(x65 == x49)) (
              (∃ h73, Gh h70 h73 ∧ R68 true h73)) (
              (∃ h74, Gh h70 h74 ∧ R68 (!(x66 == x50)) h74)))) ∧
        ∀ (_ : F) (x75 : Bool) (h76 : H), R68 x75 h76 →
        VIf x75 (
          VRet h76 (Value.bool false) post) (
          (∃ h77, Gh h76 h77 ∧ R32 h77))) (
        VIf (x31 == (-3 : Int)) (
          ∃ x78 : SV, H.rd h29 (Addr.add (Addr.mk r15 0 none) 0) (Value.slice x78.a x78.len x78.cap) ∧
          ∃ x79 : Int, H.rd h29 (Addr.add (Addr.mk r15 0 none) 1) (Value.int .i64 x79) ∧
          ∃ x80 : Int, H.rd h29 (Addr.add (Addr.mk r15 0 none) 2) (Value.int .i64 x80) ∧
          ∃ x81 : Int, H.rd h29 (Addr.add (Addr.mk r15 0 none) 3) (Value.int .i64 x81) ∧
          ∃ x82 : Int, H.rd h29 (Addr.add (Addr.mk r15 0 none) 4) (Value.int .i64 x82) ∧
          ∃ x83 : Int, H.rd h29 (Addr.add (Addr.mk r15 0 none) 5) (Value.int .i64 x83) ∧
          ∃ x84 : Int, H.rd h29 (Addr.add (Addr.mk r15 0 none) 6) (Value.int .i64 x84) ∧
          SemCall Go.Proofs.Tryd.prog 10 (List.toArray [(Value.agg (List.toArray [(Value.slice x78.a x78.len x78.cap), (Value.int .i64 x79), (Value.int .i64 x80), (Value.int .i64 x81), (Value.int .i64 x82), (Value.int .i64 x83), (Value.int .i64 x84)]))]) h29 fun v85 h86 =>
          ∃ x87 : SV, ∃ x88 : Int, ∃ x89 : Int, ∃ x90 : Int, ∃ x91 : Int, ∃ x92 : Int, ∃ x93 : Int, ∃ x94 : Bool, ∃ x95 : Int, ∃ x96 : Int, v85 = (Value.tuple (List.toArray [(Value.agg (List.toArray [(Value.slice x87.a x87.len x87.cap), (Value.int .i64 x88), (Value.int .i64 x89), (Value.int .i64 x90), (Value.int .i64 x91), (Value.int .i64 x92), (Value.int .i64 x93)])), (Value.bool x94), (Value.int .i64 x95), (Value.int .i64 x96)])) ∧
          H.new h86 [(Value.slice none 0 0), (Value.int .i64 (0 : Int)), (Value.int .i64 (0 : Int)), (Value.int .i64 (0 : Int)), (Value.int .i64 (0 : Int)), (Value.int .i64 (0 : Int)), (Value.int .i64 (0 : Int))] fun r97 h98 =>
          ([(Value.slice x87.a x87.len x87.cap), (Value.int .i64 x88), (Value.int .i64 x89), (Value.int .i64 x90), (Value.int .i64 x91), (Value.int .i64 x92), (Value.int .i64 x93)]).length = 7 ∧ (Program.underlying Go.Proofs.Tryd.prog 30).isSome = true ∧
          H.wr h98 (Addr.mk r97 0 none) ([(Value.slice x87.a x87.len x87.cap), (Value.int .i64 x88), (Value.int .i64 x89), (Value.int .i64 x90), (Value.int .i64 x91), (Value.int .i64 x92), (Value.int .i64 x93)]) fun h99 =>
          ∃ x100 : SV, H.rd h99 (Addr.add (Addr.mk r97 0 none) 0) (Value.slice x100.a x100.len x100.cap) ∧
          ∃ x101 : Int, H.rd h99 (Addr.add (Addr.mk r97 0 none) 1) (Value.int .i64 x101) ∧
          ∃ x102 : Int, H.rd h99 (Addr.add (Addr.mk r97 0 none) 2) (Value.int .i64 x102) ∧
          ∃ x103 : Int, H.rd h99 (Addr.add (Addr.mk r97 0 none) 3) (Value.int .i64 x103) ∧
          ∃ x104 : Int, H.rd h99 (Addr.add (Addr.mk r97 0 none) 4) (Value.int .i64 x104) ∧
          ∃ x105 : Int, H.rd h99 (Addr.add (Addr.mk r97 0 none) 5) (Value.int .i64 x105) ∧
          ∃ x106 : Int, H.rd h99 (Addr.add (Addr.mk r97 0 none) 6) (Value.int .i64 x106) ∧
          ([(Value.slice x100.a x100.len x100.cap), (Value.int .i64 x101), (Value.int .i64 x102), (Value.int .i64 x103), (Value.int .i64 x104), (Value.int .i64 x105), (Value.int .i64 x106)]).length = 7 ∧ (Program.underlying Go.Proofs.Tryd.prog 30).isSome = true ∧
          H.wr h99 (Addr.mk r15 0 none) ([(Value.slice x100.a x100.len x100.cap), (Value.int .i64 x101), (Value.int .i64 x102), (Value.int .i64 x103), (Value.int .i64 x104), (Value.int .i64 x105), (Value.int .i64 x106)]) fun h107 =>
          SemCall Go.Proofs.Tryd.prog 11 (List.toArray [(Value.pointer x3)]) h107 fun v108 h109 =>
          ∃ x110 : Bool, ∃ x111 : Int, ∃ x112 : Option (TypeId × Value), v108 = (Value.tuple (List.toArray [(Value.bool x110), (Value.int .i64 x111), (errV x112)])) ∧
          ∃ R113 : Bool → H → Prop, (
            SemCall Go.Proofs.Tryd.prog 7 (List.toArray [(errV x112), (Value.int .i64 x96)]) h109 fun v114 h115 =>
            ∃ x116 : Bool, v114 = (Value.bool x116) ∧
            VIf (!x116) (
              (∃ h117, Gh h115 h117 ∧ R113 true h117)) (
              VIf (!(x110 == x94)) (
                (∃ h118, Gh h115 h118 ∧ R113 true h118)) (
                (∃ h119, Gh h115 h119 ∧ R113 (x111 != x95) h119)))) ∧
          ∀ (_ : F) (x120 : Bool) (h121 : H), R113 x120 h121 →
          VIf x120 (
            VRet h121 (Value.bool false) post) (
            (∃ h122, Gh h121 h122 ∧ R32 h122))) (
          VIf (x31 == (-1 : Int)) (
            ∃ x123 : Int, H.rd h29 (Addr.add (Addr.add (Addr.mk r15 0 none) 4) 0) (Value.int .i64 x123) ∧
            ∃ R124 : Int → H → Prop, (
              VIf (x123 != (0 : Int)) (
                (∃ h125, Gh h29 h125 ∧ R124 (7 : Int) h125)) (
                H.wr h29 (Addr.add (Addr.mk r15 0 none) 4) ([(Value.int .i64 (4 : Int))]) fun h126 =>
                (∃ h127, Gh h126 h127 ∧ R124 (0 : Int) h127))) ∧
            ∀ (_ : F) (x128_e : Int) (h129 : H), R124 x128_e h129 →
            SemCall Go.Proofs.Tryd.prog 12 (List.toArray [(Value.pointer x3)]) h129 fun v130 h131 =>
            ∃ x132 : Option (TypeId × Value), v130 = (errV x132) ∧
            SemCall Go.Proofs.Tryd.prog 7 (List.toArray [(errV x132), (Value.int .i64 x128_e)]) h131 fun v133 h134 =>
            ∃ x135 : Bool, v133 = (Value.bool x135) ∧
            VIf (!x135) (
              VRet h134 (Value.bool false) post) (
              (∃ h136, Gh h134 h136 ∧ R32 h136))) (
            SemCall Go.Proofs.Tryd.prog 13 (List.toArray [(Value.int .i64 x31), (Value.int .i64 (0 : Int)), (Value.int .i64 (1000 : Int))]) h29 fun v137 h138 =>
            ∃ x139 : Bool, v137 = (Value.bool x139) ∧
            ∃ R140 : Int → H → Prop, (
              VIf (!x139) (
                (∃ h141, Gh h138 h141 ∧ R140 (1 : Int) h141)) (
                ∃ x142 : Int, H.rd h138 (Addr.add (Addr.add (Addr.mk r15 0 none) 3) 0) (Value.int .i64 x142) ∧
                VIf (x142 != (0 : Int)) (
                (∃ h143, Gh h138 h143 ∧ R140 (7 : Int) h143)) (
                H.wr h138 (Addr.add (Addr.mk r15 0 none) 3) ([(Value.int .i64 (1 : Int))]) fun h144 =>
                H.wr h144 (Addr.add (Addr.mk r15 0 none) 5) ([(Value.int .i64 x31)]) fun h145 =>
                (∃ h146, Gh h145 h146 ∧ R140 (0 : Int) h146)))) ∧
            ∀ (_ : F) (x147_e : Int) (h148 : H), R140 x147_e h148 →
            SemCall Go.Proofs.Tryd.prog 14 (List.toArray [(Value.pointer x3), (Value.int .i64 x31)]) h148 fun v149 h150 =>
            ∃ x151 : Option (TypeId × Value), v149 = (errV x151) ∧
            SemCall Go.Proofs.Tryd.prog 7 (List.toArray [(errV x151), (Value.int .i64 x147_e)]) h150 fun v152 h153 =>
            ∃ x154 : Bool, v152 = (Value.bool x154) ∧
            VIf (!x154) (
              VRet h153 (Value.bool false) post) (
              (∃ h155, Gh h153 h155 ∧ R32 h155)))))) ∧
    ∀ (_ : F) (h156 : H), R32 h156 →
    f3_J1 post x3 r15 I19 n20 x23_i h156) (
    (∃ h185, Gh h29 h185 ∧ R18 h185))

def f3_L3 (p1_steps : SV) (post : Value → H → Prop) (x3 : Option Addr) (r15 : Nat) (R18 : H → Prop) (I19 : Nat → Int → H → Prop) (n20 : Nat) (x23_i : Int) (h24 : H) : Prop :=
  ∃ R25 : Bool → H → Prop, (
    VIf (decide (x23_i < ((p1_steps.len : Nat) : Int))) (
      (∃ h26, Gh h24 h26 ∧ R25 (decide (x23_i < (300 : Int))) h26)) (
      (∃ h27, Gh h24 h27 ∧ R25 false h27))) ∧
  ∀ (_ : F) (x28 : Bool) (h29 : H), R25 x28 h29 →
  f3_J2 p1_steps post x3 r15 R18 I19 n20 x23_i x28 h29

def f3_J4 (p0_size : Int) (p1_steps : SV) (post : Value → H → Prop) (x3 : Option Addr) (x4 : Option (TypeId × Value)) (x8 : Bool) (h9 : H) : Prop :=
  VIf x8 (
    SemCall Go.Proofs.Tryd.prog 7 (List.toArray [(errV x4), (Value.int .i64 (1 : Int))]) h9 fun v10 h11 =>
    ∃ x12 : Bool, v10 = (Value.bool x12) ∧
    VRet h11 (Value.bool x12) post) (
    isIfaceV (errV x4) = true ∧
    VIf (!(isNilV (errV x4))) (
      VRet h9 (Value.bool false) post) (
      0 ≤ p0_size ∧ p0_size ≤ p0_size ∧ ((8 : Nat) : Int) * p0_size ≤ 140737488355328 ∧ p0_size ≤ 1000000000 ∧
      H.new h9 (repl (p0_size).toNat [(Value.int .i64 (0 : Int))]) fun r13 h14 =>
      H.new h14 [(Value.slice none 0 0), (Value.int .i64 (0 : Int)), (Value.int .i64 (0 : Int)), (Value.int .i64 (0 : Int)), (Value.int .i64 (0 : Int)), (Value.int .i64 (0 : Int)), (Value.int .i64 (0 : Int))] fun r15 h16 =>
      ([(Value.slice (some (Addr.mk r13 0 none)) ((p0_size).toNat) ((p0_size).toNat)), (Value.int .i64 (0 : Int)), (Value.int .i64 (0 : Int)), (Value.int .i64 (0 : Int)), (Value.int .i64 (0 : Int)), (Value.int .i64 (0 : Int)), (Value.int .i64 (0 : Int))]).length = 7 ∧ (Program.underlying Go.Proofs.Tryd.prog 30).isSome = true ∧
      H.wr h16 (Addr.mk r15 0 none) ([(Value.slice (some (Addr.mk r13 0 none)) ((p0_size).toNat) ((p0_size).toNat)), (Value.int .i64 (0 : Int)), (Value.int .i64 (0 : Int)), (Value.int .i64 (0 : Int)), (Value.int .i64 (0 : Int)), (Value.int .i64 (0 : Int)), (Value.int .i64 (0 : Int))]) fun h17 =>
      ∃ R18 : H → Prop, (
        ∃ I19 : Nat → Int → H → Prop, (∃ n20, (∃ h22, Gh h17 h22 ∧ I19 n20 (0 : Int) h22)) ∧
        ∀ (n20 : Nat) (_ : F) (x23_i : Int) (h24 : H), I19 n20 x23_i h24 →
        f3_L3 p1_steps post x3 r15 R18 I19 n20 x23_i h24) ∧
      ∀ (_ : F) (h186 : H), R18 h186 →
      VRet h186 (Value.bool true) post))

def f3_sem (p0_size : Int) (p1_steps : SV) (h0 : H) (post : Value → H → Prop) : Prop :=
  SemCall Go.Proofs.Tryd.prog 6 (List.toArray [(Value.int .i64 p0_size)]) h0 fun v1 h2 =>
  ∃ x3 : Option Addr, ∃ x4 : Option (TypeId × Value), v1 = (Value.tuple (List.toArray [(Value.pointer x3), (errV x4)])) ∧
  ∃ R5 : Bool → H → Prop, (
    VIf (decide (p0_size < (1 : Int))) (
      (∃ h6, Gh h2 h6 ∧ R5 true h6)) (
      (∃ h7, Gh h2 h7 ∧ R5 (decide (p0_size > (8 : Int))) h7))) ∧
  ∀ (_ : F) (x8 : Bool) (h9 : H), R5 x8 h9 →
  f3_J4 p0_size p1_steps post x3 x4 x8 h9

def f3_hint : Hint := (.node .leaf (.node .leaf (.node (.node (.join [(37, .bool)] .leaf) .leaf) (.node .leaf (.node .leaf (.node (.node .leaf (.join [] (.node (.loop [(8, .int)] (.node (.node (.join [(52, .bool)] .leaf) .leaf) (.node (.node (.node .leaf (.node .leaf (.node (.node .leaf (.join [] (.node (.node .leaf (.node .leaf (.node .leaf (.node (.join [(88, .bool)] .leaf) .leaf)))) (.node .leaf (.node (.node .leaf (.node .leaf (.node .leaf (.node (.join [(118, .bool)] .leaf) .leaf)))) (.node .leaf (.node (.node (.node .leaf (.join [(10, .int)] .leaf)) .leaf) (.node (.node .leaf (.join [(10, .int)] .leaf)) .leaf)))))))) (.node .leaf (.node (.join [(167, .bool)] .any2) .leaf))))) .leaf) .leaf))) .leaf))) .leaf))))))

theorem f3_eq (p0_size : Int) (p1_steps : SV) (h0 : H) (post : Value → H → Prop) : exec Tryd.prog (bodyOf Tryd.f3) f3_hint (retQ Tryd.prog Tryd.f3 post) (F0 [(Value.int .i64 p0_size), (Value.slice p1_steps.a p1_steps.len p1_steps.cap)]) h0 = f3_sem p0_size p1_steps h0 post := by kernel_rfl

set_option maxRecDepth 20000 in
theorem f3_call (p0_size : Int) (p1_steps : SV) (h0 : H) (post : Value → H → Prop) (hx : f3_sem p0_size p1_steps h0 post) : SemCall Tryd.prog 3 (List.toArray [(Value.int .i64 p0_size), (Value.slice p1_steps.a p1_steps.len p1_steps.cap)]) h0 post :=
  sem_of_exec (g := f3_hint) mixed Tryd.func3 (bodyOf_eq (by kernel_rfl)) (by kernel_rfl) ((f3_eq p0_size p1_steps h0 post).mpr hx)

/- latchgarth/latchgarthlaw3.UnivPlays -/
def f4_J1 (post : Value → H → Prop) (x3 : Option Addr) (x37 : SV) (R38 : H → Prop) (x137_e : Int) (h138 : H) : Prop :=
  ∃ b139 : Addr, x37.a = some b139 ∧ 0 ≤ (0 : Int) ∧ (0 : Int) < ((x37.len : Nat) : Int) ∧
  ∃ b140 : Addr, x37.a = some b140 ∧ 0 ≤ (1 : Int) ∧ (1 : Int) < ((x37.len : Nat) : Int) ∧
  (
    ∃ x141 : Int, H.rd h138 (Addr.add (Addr.add b139 (((0 : Int)).toNat * 1)) 0) (Value.int .i64 x141) ∧
    ∃ x142 : Int, H.rd h138 (Addr.add (Addr.add b140 (((1 : Int)).toNat * 1)) 0) (Value.int .i64 x142) ∧
    SemCall Go.Proofs.Tryd.prog 21 (List.toArray [(Value.pointer x3), (Value.int .i64 x141), (Value.int .i64 x142)]) h138 fun v143 h144 =>
    ∃ x145 : Option (TypeId × Value), v143 = (errV x145) ∧
    SemCall Go.Proofs.Tryd.prog 7 (List.toArray [(errV x145), (Value.int .i64 x137_e)]) h144 fun v146 h147 =>
    ∃ x148 : Bool, v146 = (Value.bool x148) ∧
    VIf (!x148) (
      VRet h147 (Value.bool false) post) (
      (∃ h149, Gh h147 h149 ∧ R38 h149))) ∧
  (
    ∃ x150 : Int, H.rd h138 (Addr.add (Addr.add b140 (((1 : Int)).toNat * 1)) 0) (Value.int .i64 x150) ∧
    ∃ x151 : Int, H.rd h138 (Addr.add (Addr.add b139 (((0 : Int)).toNat * 1)) 0) (Value.int .i64 x151) ∧
    SemCall Go.Proofs.Tryd.prog 21 (List.toArray [(Value.pointer x3), (Value.int .i64 x151), (Value.int .i64 x150)]) h138 fun v152 h153 =>
    ∃ x154 : Option (TypeId × Value), v152 = (errV x154) ∧
    SemCall Go.Proofs.Tryd.prog 7 (List.toArray [(errV x154), (Value.int .i64 x137_e)]) h153 fun v155 h156 =>
    ∃ x157 : Bool, v155 = (Value.bool x157) ∧
    VIf (!x157) (
      VRet h156 (Value.bool false) post) (
      (∃ h158, Gh h156 h158 ∧ R38 h158)))

def f4_J2 (post : Value → H → Prop) (x3 : Option Addr) (r20 : Nat) (x37 : SV) (R161 : H → Prop) (x304_v : Addr) (x305_done : Bool) (x306_got : Int) (x307_e : Int) (h308 : H) : Prop :=
  ∃ x309 : SV, H.rd h308 (Addr.add x304_v 0) (Value.slice x309.a x309.len x309.cap) ∧
  ∃ x310 : SV, H.rd h308 (Addr.add x304_v 1) (Value.slice x310.a x310.len x310.cap) ∧
  ∃ x311 : SV, H.rd h308 (Addr.add x304_v 2) (Value.slice x311.a x311.len x311.cap) ∧
  ∃ x312 : SV, H.rd h308 (Addr.add x304_v 3) (Value.slice x312.a x312.len x312.cap) ∧
  ∃ x313 : SV, H.rd h308 (Addr.add x304_v 4) (Value.slice x313.a x313.len x313.cap) ∧
  ([(Value.slice x309.a x309.len x309.cap), (Value.slice x310.a x310.len x310.cap), (Value.slice x311.a x311.len x311.cap), (Value.slice x312.a x312.len x312.cap), (Value.slice x313.a x313.len x313.cap)]).length = 5 ∧ (Program.underlying Go.Proofs.Tryd.prog 52).isSome = true ∧
  H.wr h308 (Addr.mk r20 0 none) ([(Value.slice x309.a x309.len x309.cap), (Value.slice x310.a x310.len x310.cap), (Value.slice x311.a x311.len x311.cap), (Value.slice x312.a x312.len x312.cap), (Value.slice x313.a x313.len x313.cap)]) fun h314 =>
  ∃ b315 : Addr, x37.a = some b315 ∧ 0 ≤ (0 : Int) ∧ (0 : Int) < ((x37.len : Nat) : Int) ∧
  ∃ x316 : Int, H.rd h314 (Addr.add (Addr.add b315 (((0 : Int)).toNat * 1)) 0) (Value.int .i64 x316) ∧
  SemCall Go.Proofs.Tryd.prog 23 (List.toArray [(Value.pointer x3), (Value.int .i64 x316)]) h314 fun v317 h318 =>
  ∃ x319 : Bool, ∃ x320 : Int, ∃ x321 : Option (TypeId × Value), v317 = (Value.tuple (List.toArray [(Value.bool x319), (Value.int .i64 x320), (errV x321)])) ∧
  ∃ R322 : Bool → H → Prop, (
    SemCall Go.Proofs.Tryd.prog 7 (List.toArray [(errV x321), (Value.int .i64 x307_e)]) h318 fun v323 h324 =>
    ∃ x325 : Bool, v323 = (Value.bool x325) ∧
    VIf (!x325) (
      (∃ h326, Gh h324 h326 ∧ R322 true h326)) (
      VIf (!(x319 == x305_done)) (
        (∃ h327, Gh h324 h327 ∧ R322 true h327)) (
        (∃ h328, Gh h324 h328 ∧ R322 (x320 != x306_got) h328)))) ∧
  ∀ (_ : F) (x329 : Bool) (h330 : H), R322 x329 h330 →
  VIf x329 (
    VRet h330 (Value.bool false) post) (
    (∃ h331, Gh h330 h331 ∧ R161 h331))

def f4_L3 (p0_n : Int) (post : Value → H → Prop) (x3 : Option Addr) (r20 : Nat) (R334 : H → Prop) (I335 : Nat → Int → H → Prop) (n336 : Nat) (x339_q : Int) (h340 : H) : Prop :=
  VIf (decide (x339_q < p0_n)) (
    ∃ R341 : Bool → H → Prop, (
      (
        SemCall Go.Proofs.Tryd.prog 24 (List.toArray [(Value.pointer x3), (Value.int .i64 x339_q)]) h340 fun v342 h343 =>
        ∃ x344 : Int, v342 = (Value.int .i64 x344) ∧
        ∃ x345 : SV, H.rd h343 (Addr.add (Addr.add (Addr.mk r20 0 none) 2) 0) (Value.slice x345.a x345.len x345.cap) ∧
        ∃ b346 : Addr, x345.a = some b346 ∧ 0 ≤ x339_q ∧ x339_q < ((x345.len : Nat) : Int) ∧
        ∃ x347 : Int, H.rd h343 (Addr.add (Addr.add b346 ((x339_q).toNat * 1)) 0) (Value.int .i64 x347) ∧
        (∃ h348, Gh h343 h348 ∧ R341 (x344 != x347) h348)) ∧
      (
        ∃ x349 : SV, H.rd h340 (Addr.add (Addr.add (Addr.mk r20 0 none) 2) 0) (Value.slice x349.a x349.len x349.cap) ∧
        ∃ b350 : Addr, x349.a = some b350 ∧ 0 ≤ x339_q ∧ x339_q < ((x349.len : Nat) : Int) ∧
        (
          SemCall Go.Proofs.Tryd.prog 24 (List.toArray [(Value.pointer x3), (Value.int .i64 x339_q)]) h340 fun v351 h352 =>
          ∃ x353 : Int, v351 = (Value.int .i64 x353) ∧
          ∃ x354 : Int, H.rd h352 (Addr.add (Addr.add b350 ((x339_q).toNat * 1)) 0) (Value.int .i64 x354) ∧
          (∃ h355, Gh h352 h355 ∧ R341 (x353 != x354) h355)) ∧
        (
          ∃ x356 : Int, H.rd h340 (Addr.add (Addr.add b350 ((x339_q).toNat * 1)) 0) (Value.int .i64 x356) ∧
          SemCall Go.Proofs.Tryd.prog 24 (List.toArray [(Value.pointer x3), (Value.int .i64 x339_q)]) h340 fun v357 h358 =>
          ∃ x359 : Int, v357 = (Value.int .i64 x359) ∧
          (∃ h360, Gh h358 h360 ∧ R341 (x359 != x356) h360)))) ∧
    ∀ (_ : F) (x361 : Bool) (h362 : H), R341 x361 h362 →
    VIf x361 (
      VRet h362 (Value.bool false) post) (
      In64 (x339_q + (1 : Int)) ∧
      ∃ m337, m337 < n336 ∧ (∃ h363, Gh h362 h363 ∧ I335 m337 (x339_q + (1 : Int)) h363))) (
    (∃ h364, Gh h340 h364 ∧ R334 h364))

def f4_J4 (p0_n : Int) (post : Value → H → Prop) (x3 : Option Addr) (r20 : Nat) (R35 : H → Prop) (x37 : SV) (h160 : H) : Prop :=
  ∃ R161 : H → Prop, (
    VIf (((x37.len : Nat) : Int) == (1 : Int)) (
      ∃ R162 : Addr → Bool → Int → Int → H → Prop, (
        ∃ b163 : Addr, x37.a = some b163 ∧ 0 ≤ (0 : Int) ∧ (0 : Int) < ((x37.len : Nat) : Int) ∧
        (
          ∃ x164 : SV, H.rd h160 (Addr.add (Addr.mk r20 0 none) 0) (Value.slice x164.a x164.len x164.cap) ∧
          ∃ x165 : SV, H.rd h160 (Addr.add (Addr.mk r20 0 none) 1) (Value.slice x165.a x165.len x165.cap) ∧
          ∃ x166 : SV, H.rd h160 (Addr.add (Addr.mk r20 0 none) 2) (Value.slice x166.a x166.len x166.cap) ∧
          ∃ x167 : SV, H.rd h160 (Addr.add (Addr.mk r20 0 none) 3) (Value.slice x167.a x167.len x167.cap) ∧
          ∃ x168 : SV, H.rd h160 (Addr.add (Addr.mk r20 0 none) 4) (Value.slice x168.a x168.len x168.cap) ∧
          (
            ∃ x169 : Int, H.rd h160 (Addr.add (Addr.add b163 (((0 : Int)).toNat * 1)) 0) (Value.int .i64 x169) ∧
            (
              SemCall Go.Proofs.Tryd.prog 22 (List.toArray [(Value.agg (List.toArray [(Value.slice x164.a x164.len x164.cap), (Value.slice x165.a x165.len x165.cap), (Value.slice x166.a x166.len x166.cap), (Value.slice x167.a x167.len x167.cap), (Value.slice x168.a x168.len x168.cap)])), (Value.int .i64 x169)]) h160 fun v170 h171 =>
              ∃ x172 : SV, ∃ x173 : SV, ∃ x174 : SV, ∃ x175 : SV, ∃ x176 : SV, ∃ x177 : Bool, ∃ x178 : Int, ∃ x179 : Int, v170 = (Value.tuple (List.toArray [(Value.agg (List.toArray [(Value.slice x172.a x172.len x172.cap), (Value.slice x173.a x173.len x173.cap), (Value.slice x174.a x174.len x174.cap), (Value.slice x175.a x175.len x175.cap), (Value.slice x176.a x176.len x176.cap)])), (Value.bool x177), (Value.int .i64 x178), (Value.int .i64 x179)])) ∧
              H.new h171 [(Value.slice none 0 0), (Value.slice none 0 0), (Value.slice none 0 0), (Value.slice none 0 0), (Value.slice none 0 0)] fun r180 h181 =>
              ([(Value.slice x172.a x172.len x172.cap), (Value.slice x173.a x173.len x173.cap), (Value.slice x174.a x174.len x174.cap), (Value.slice x175.a x175.len x175.cap), (Value.slice x176.a x176.len x176.cap)]).length = 5 ∧ (Program.underlying Go.Proofs.Tryd.prog 52).isSome = true ∧
              H.wr h181 (Addr.mk r180 0 none) ([(Value.slice x172.a x172.len x172.cap), (Value.slice x173.a x173.len x173.cap), (Value.slice x174.a x174.len x174.cap), (Value.slice x175.a x175.len x175.cap), (Value.slice x176.a x176.len x176.cap)]) fun h182 =>
              (∃ h183, Gh h182 h183 ∧ R162 (Addr.mk r180 0 none) x177 x178 x179 h183)) ∧
            (
              H.new h160 [(Value.slice none 0 0), (Value.slice none 0 0), (Value.slice none 0 0), (Value.slice none 0 0), (Value.slice none 0 0)] fun r184 h185 =>
              SemCall Go.Proofs.Tryd.prog 22 (List.toArray [(Value.agg (List.toArray [(Value.slice x164.a x164.len x164.cap), (Value.slice x165.a x165.len x165.cap), (Value.slice x166.a x166.len x166.cap), (Value.slice x167.a x167.len x167.cap), (Value.slice x168.a x168.len x168.cap)])), (Value.int .i64 x169)]) h185 fun v186 h187 =>
              ∃ x188 : SV, ∃ x189 : SV, ∃ x190 : SV, ∃ x191 : SV, ∃ x192 : SV, ∃ x193 : Bool, ∃ x194 : Int, ∃ x195 : Int, v186 = (Value.tuple (List.toArray [(Value.agg (List.toArray [(Value.slice x188.a x188.len x188.cap), (Value.slice x189.a x189.len x189.cap), (Value.slice x190.a x190.len x190.cap), (Value.slice x191.a x191.len x191.cap), (Value.slice x192.a x192.len x192.cap)])), (Value.bool x193), (Value.int .i64 x194), (Value.int .i64 x195)])) ∧
              ([(Value.slice x188.a x188.len x188.cap), (Value.slice x189.a x189.len x189.cap), (Value.slice x190.a x190.len x190.cap), (Value.slice x191.a x191.len x191.cap), (Value.slice x192.a x192.len x192.cap)]).length = 5 ∧ (Program.underlying Go.Proofs.Tryd.prog 52).isSome = true ∧
              H.wr h187 (Addr.mk r184 0 none) ([(Value.slice x188.a x188.len x188.cap), (Value.slice x189.a x189.len x189.cap), (Value.slice x190.a x190.len x190.cap), (Value.slice x191.a x191.len x191.cap), (Value.slice x192.a x192.len x192.cap)]) fun h196 =>
              (∃ h197, Gh h196 h197 ∧ R162 (Addr.mk r184 0 none) x193 x194 x195 h197))) ∧
          (
            H.new h160 [(Value.slice none 0 0), (Value.slice none 0 0), (Value.slice none 0 0), (Value.slice none 0 0), (Value.slice none 0 0)] fun r198 h199 =>
            ∃ x200 : Int, H.rd h199 (Addr.add (Addr.add b163 (((0 : Int)).toNat * 1)) 0) (Value.int .i64 x200) ∧
            SemCall Go.Proofs.Tryd.prog 22 (List.toArray [(Value.agg (List.toArray [(Value.slice x164.a x164.len x164.cap), (Value.slice x165.a x165.len x165.cap), (Value.slice x166.a x166.len x166.cap), (Value.slice x167.a x167.len x167.cap), (Value.slice x168.a x168.len x168.cap)])), (Value.int .i64 x200)]) h199 fun v201 h202 =>
            ∃ x203 : SV, ∃ x204 : SV, ∃ x205 : SV, ∃ x206 : SV, ∃ x207 : SV, ∃ x208 : Bool, ∃ x209 : Int, ∃ x210 : Int, v201 = (Value.tuple (List.toArray [(Value.agg (List.toArray [(Value.slice x203.a x203.len x203.cap), (Value.slice x204.a x204.len x204.cap), (Value.slice x205.a x205.len x205.cap), (Value.slice x206.a x206.len x206.cap), (Value.slice x207.a x207.len x207.cap)])), (Value.bool x208), (Value.int .i64 x209), (Value.int .i64 x210)])) ∧
            ([(Value.slice x203.a x203.len x203.cap), (Value.slice x204.a x204.len x204.cap), (Value.slice x205.a x205.len x205.cap), (Value.slice x206.a x206.len x206.cap), (Value.slice x207.a x207.len x207.cap)]).length = 5 ∧ (Program.underlying Go.Proofs.Tryd.prog 52).isSome = true ∧
            H.wr h202 (Addr.mk r198 0 none) ([(Value.slice x203.a x203.len x203.cap), (Value.slice x204.a x204.len x204.cap), (Value.slice x205.a x205.len x205.cap), (Value.slice x206.a x206.len x206.cap), (Value.slice x207.a x207.len x207.cap)]) fun h211 =>
            (∃ h212, Gh h211 h212 ∧ R162 (Addr.mk r198 0 none) x208 x209 x210 h212))) ∧
        (
          (
            ∃ x213 : Int, H.rd h160 (Addr.add (Addr.add b163 (((0 : Int)).toNat * 1)) 0) (Value.int .i64 x213) ∧
            (
              ∃ x214 : SV, H.rd h160 (Addr.add (Addr.mk r20 0 none) 0) (Value.slice x214.a x214.len x214.cap) ∧
              ∃ x215 : SV, H.rd h160 (Addr.add (Addr.mk r20 0 none) 1) (Value.slice x215.a x215.len x215.cap) ∧
              ∃ x216 : SV, H.rd h160 (Addr.add (Addr.mk r20 0 none) 2) (Value.slice x216.a x216.len x216.cap) ∧
              ∃ x217 : SV, H.rd h160 (Addr.add (Addr.mk r20 0 none) 3) (Value.slice x217.a x217.len x217.cap) ∧
              ∃ x218 : SV, H.rd h160 (Addr.add (Addr.mk r20 0 none) 4) (Value.slice x218.a x218.len x218.cap) ∧
              (
                SemCall Go.Proofs.Tryd.prog 22 (List.toArray [(Value.agg (List.toArray [(Value.slice x214.a x214.len x214.cap), (Value.slice x215.a x215.len x215.cap), (Value.slice x216.a x216.len x216.cap), (Value.slice x217.a x217.len x217.cap), (Value.slice x218.a x218.len x218.cap)])), (Value.int .i64 x213)]) h160 fun v219 h220 =>
                ∃ x221 : SV, ∃ x222 : SV, ∃ x223 : SV, ∃ x224 : SV, ∃ x225 : SV, ∃ x226 : Bool, ∃ x227 : Int, ∃ x228 : Int, v219 = (Value.tuple (List.toArray [(Value.agg (List.toArray [(Value.slice x221.a x221.len x221.cap), (Value.slice x222.a x222.len x222.cap), (Value.slice x223.a x223.len x223.cap), (Value.slice x224.a x224.len x224.cap), (Value.slice x225.a x225.len x225.cap)])), (Value.bool x226), (Value.int .i64 x227), (Value.int .i64 x228)])) ∧
                H.new h220 [(Value.slice none 0 0), (Value.slice none 0 0), (Value.slice none 0 0), (Value.slice none 0 0), (Value.slice none 0 0)] fun r229 h230 =>
                ([(Value.slice x221.a x221.len x221.cap), (Value.slice x222.a x222.len x222.cap), (Value.slice x223.a x223.len x223.cap), (Value.slice x224.a x224.len x224.cap), (Value.slice x225.a x225.len x225.cap)]).length = 5 ∧ (Program.underlying Go.Proofs.Tryd.prog 52).isSome = true ∧
                H.wr h230 (Addr.mk r229 0 none) ([(Value.slice x221.a x221.len x221.cap), (Value.slice x222.a x222.len x222.cap), (Value.slice x223.a x223.len x223.cap), (Value.slice x224.a x224.len x224.cap), (Value.slice x225.a x225.len x225.cap)]) fun h231 =>
                (∃ h232, Gh h231 h232 ∧ R162 (Addr.mk r229 0 none) x226 x227 x228 h232)) ∧
              (
                H.new h160 [(Value.slice none 0 0), (Value.slice none 0 0), (Value.slice none 0 0), (Value.slice none 0 0), (Value.slice none 0 0)] fun r233 h234 =>
                SemCall Go.Proofs.Tryd.prog 22 (List.toArray [(Value.agg (List.toArray [(Value.slice x214.a x214.len x214.cap), (Value.slice x215.a x215.len x215.cap), (Value.slice x216.a x216.len x216.cap), (Value.slice x217.a x217.len x217.cap), (Value.slice x218.a x218.len x218.cap)])), (Value.int .i64 x213)]) h234 fun v235 h236 =>
                ∃ x237 : SV, ∃ x238 : SV, ∃ x239 : SV, ∃ x240 : SV, ∃ x241 : SV, ∃ x242 : Bool, ∃ x243 : Int, ∃ x244 : Int, v235 = (Value.tuple (List.toArray [(Value.agg (List.toArray [(Value.slice x237.a x237.len x237.cap), (Value.slice x238.a x238.len x238.cap), (Value.slice x239.a x239.len x239.cap), (Value.slice x240.a x240.len x240.cap), (Value.slice x241.a x241.len x241.cap)])), (Value.bool x242), (Value.int .i64 x243), (Value.int .i64 x244)])) ∧
                ([(Value.slice x237.a x237.len x237.cap), (Value.slice x238.a x238.len x238.cap), (Value.slice x239.a x239.len x239.cap), (Value.slice x240.a x240.len x240.cap), (Value.slice x241.a x241.len x241.cap)]).length = 5 ∧ (Program.underlying Go.Proofs.Tryd.prog 52).isSome = true ∧
                H.wr h236 (Addr.mk r233 0 none) ([(Value.slice x237.a x237.len x237.cap), (Value.slice x238.a x238.len x238.cap), (Value.slice x239.a x239.len x239.cap), (Value.slice x240.a x240.len x240.cap), (Value.slice x241.a x241.len x241.cap)]) fun h245 =>
                (∃ h246, Gh h245 h246 ∧ R162 (Addr.mk r233 0 none) x242 x243 x244 h246))) ∧
            (
              H.new h160 [(Value.slice none 0 0), (Value.slice none 0 0), (Value.slice none 0 0), (Value.slice none 0 0), (Value.slice none 0 0)] fun r247 h248 =>
              ∃ x249 : SV, H.rd h248 (Addr.add (Addr.mk r20 0 none) 0) (Value.slice x249.a x249.len x249.cap) ∧
              ∃ x250 : SV, H.rd h248 (Addr.add (Addr.mk r20 0 none) 1) (Value.slice x250.a x250.len x250.cap) ∧
              ∃ x251 : SV, H.rd h248 (Addr.add (Addr.mk r20 0 none) 2) (Value.slice x251.a x251.len x251.cap) ∧
              ∃ x252 : SV, H.rd h248 (Addr.add (Addr.mk r20 0 none) 3) (Value.slice x252.a x252.len x252.cap) ∧
              ∃ x253 : SV, H.rd h248 (Addr.add (Addr.mk r20 0 none) 4) (Value.slice x253.a x253.len x253.cap) ∧
              SemCall Go.Proofs.Tryd.prog 22 (List.toArray [(Value.agg (List.toArray [(Value.slice x249.a x249.len x249.cap), (Value.slice x250.a x250.len x250.cap), (Value.slice x251.a x251.len x251.cap), (Value.slice x252.a x252.len x252.cap), (Value.slice x253.a x253.len x253.cap)])), (Value.int .i64 x213)]) h248 fun v254 h255 =>
              ∃ x256 : SV, ∃ x257 : SV, ∃ x258 : SV, ∃ x259 : SV, ∃ x260 : SV, ∃ x261 : Bool, ∃ x262 : Int, ∃ x263 : Int, v254 = (Value.tuple (List.toArray [(Value.agg (List.toArray [(Value.slice x256.a x256.len x256.cap), (Value.slice x257.a x257.len x257.cap), (Value.slice x258.a x258.len x258.cap), (Value.slice x259.a x259.len x259.cap), (Value.slice x260.a x260.len x260.cap)])), (Value.bool x261), (Value.int .i64 x262), (Value.int .i64 x263)])) ∧
              ([(Value.slice x256.a x256.len x256.cap), (Value.slice x257.a x257.len x257.cap), (Value.slice x258.a x258.len x258.cap), (Value.slice x259.a x259.len x259.cap), (Value.slice x260.a x260.len x260.cap)]).length = 5 ∧ (Program.underlying Go.Proofs.Tryd.prog 52).isSome = true ∧
              H.wr h255 (Addr.mk r247 0 none) ([(Value.slice x256.a x256.len x256.cap), (Value.slice x257.a x257.len x257.cap), (Value.slice x258.a x258.len x258.cap), (Value.slice x259.a x259.len x259.cap), (Value.slice x260.a x260.len x260.cap)]) fun h264 =>
              (∃ h265, Gh h264 h265 ∧ R162 (Addr.mk r247 0 none) x261 x262 x263 h265))) ∧
          (
            H.new h160 [(Value.slice none 0 0), (Value.slice none 0 0), (Value.slice none 0 0), (Value.slice none 0 0), (Value.slice none 0 0)] fun r266 h267 =>
            (
              ∃ x268 : SV, H.rd h267 (Addr.add (Addr.mk r20 0 none) 0) (Value.slice x268.a x268.len x268.cap) ∧
              ∃ x269 : SV, H.rd h267 (Addr.add (Addr.mk r20 0 none) 1) (Value.slice x269.a x269.len x269.cap) ∧
              ∃ x270 : SV, H.rd h267 (Addr.add (Addr.mk r20 0 none) 2) (Value.slice x270.a x270.len x270.cap) ∧
              ∃ x271 : SV, H.rd h267 (Addr.add (Addr.mk r20 0 none) 3) (Value.slice x271.a x271.len x271.cap) ∧
              ∃ x272 : SV, H.rd h267 (Addr.add (Addr.mk r20 0 none) 4) (Value.slice x272.a x272.len x272.cap) ∧
              ∃ x273 : Int, H.rd h267 (Addr.add (Addr.add b163 (((0 : Int)).toNat * 1)) 0) (Value.int .i64 x273) ∧
              SemCall Go.Proofs.Tryd.prog 22 (List.toArray [(Value.agg (List.toArray [(Value.slice x268.a x268.len x268.cap), (Value.slice x269.a x269.len x269.cap), (Value.slice x270.a x270.len x270.cap), (Value.slice x271.a x271.len x271.cap), (Value.slice x272.a x272.len x272.cap)])), (Value.int .i64 x273)]) h267 fun v274 h275 =>
              ∃ x276 : SV, ∃ x277 : SV, ∃ x278 : SV, ∃ x279 : SV, ∃ x280 : SV, ∃ x281 : Bool, ∃ x282 : Int, ∃ x283 : Int, v274 = (Value.tuple (List.toArray [(Value.agg (List.toArray [(Value.slice x276.a x276.len x276.cap), (Value.slice x277.a x277.len x277.cap), (Value.slice x278.a x278.len x278.cap), (Value.slice x279.a x279.len x279.cap), (Value.slice x280.a x280.len x280.cap)])), (Value.bool x281), (Value.int .i64 x282), (Value.int .i64 x283)])) ∧
              ([(Value.slice x276.a x276.len x276.cap), (Value.slice x277.a x277.len x277.cap), (Value.slice x278.a x278.len x278.cap), (Value.slice x279.a x279.len x279.cap), (Value.slice x280.a x280.len x280.cap)]).length = 5 ∧ (Program.underlying Go.Proofs.Tryd.prog 52).isSome = true ∧
              H.wr h275 (Addr.mk r266 0 none) ([(Value.slice x276.a x276.len x276.cap), (Value.slice x277.a x277.len x277.cap), (Value.slice x278.a x278.len x278.cap), (Value.slice x279.a x279.len x279.cap), (Value.slice x280.a x280.len x280.cap)]) fun h284 =>
              (∃ h285, Gh h284 h285 ∧ R162 (Addr.mk r266 0 none) x281 x282 x283 h285)) ∧
            (
              ∃ x286 : Int, H.rd h267 (Addr.add (Addr.add b163 (((0 : Int)).toNat * 1)) 0) (Value.int .i64 x286) ∧
              ∃ x287 : SV, H.rd h267 (Addr.add (Addr.mk r20 0 none) 0) (Value.slice x287.a x287.len x287.cap) ∧
              ∃ x288 : SV, H.rd h267 (Addr.add (Addr.mk r20 0 none) 1) (Value.slice x288.a x288.len x288.cap) ∧
              ∃ x289 : SV, H.rd h267 (Addr.add (Addr.mk r20 0 none) 2) (Value.slice x289.a x289.len x289.cap) ∧
              ∃ x290 : SV, H.rd h267 (Addr.add (Addr.mk r20 0 none) 3) (Value.slice x290.a x290.len x290.cap) ∧
              ∃ x291 : SV, H.rd h267 (Addr.add (Addr.mk r20 0 none) 4) (Value.slice x291.a x291.len x291.cap) ∧
              SemCall Go.Proofs.Tryd.prog 22 (List.toArray [(Value.agg (List.toArray [(Value.slice x287.a x287.len x287.cap), (Value.slice x288.a x288.len x288.cap), (Value.slice x289.a x289.len x289.cap), (Value.slice x290.a x290.len x290.cap), (Value.slice x291.a x291.len x291.cap)])), (Value.int .i64 x286)]) h267 fun v292 h293 =>
              ∃ x294 : SV, ∃ x295 : SV, ∃ x296 : SV, ∃ x297 : SV, ∃ x298 : SV, ∃ x299 : Bool, ∃ x300 : Int, ∃ x301 : Int, v292 = (Value.tuple (List.toArray [(Value.agg (List.toArray [(Value.slice x294.a x294.len x294.cap), (Value.slice x295.a x295.len x295.cap), (Value.slice x296.a x296.len x296.cap), (Value.slice x297.a x297.len x297.cap), (Value.slice x298.a x298.len x298.cap)])), (Value.bool x299), (Value.int .i64 x300), (Value.int .i64 x301)])) ∧
              ([(Value.slice x294.a x294.len x294.cap), (Value.slice x295.a x295.len x295.cap), (Value.slice x296.a x296.len x296.cap), (Value.slice x297.a x297.len x297.cap), (Value.slice x298.a x298.len x298.cap)]).length = 5 ∧ (Program.underlying Go.Proofs.Tryd.prog 52).isSome = true ∧
              H.wr h293 (Addr.mk r266 0 none) ([(Value.slice x294.a x294.len x294.cap), (Value.slice x295.a x295.len x295.cap), (Value.slice x296.a x296.len x296.cap), (Value.slice x297.a x297.len x297.cap), (Value.slice x298.a x298.len x298.cap)]) fun h302 =>
              (∃ h303, Gh h302 h303 ∧ R162 (Addr.mk r266 0 none) x299 x300 x301 h303))))) ∧
      ∀ (_ : F) (x304_v : Addr) (x305_done : Bool) (x306_got : Int) (x307_e : Int) (h308 : H), R162 x304_v x305_done x306_got x307_e h308 →
      f4_J2 post x3 r20 x37 R161 x304_v x305_done x306_got x307_e h308) (
      (∃ h332, Gh h160 h332 ∧ R161 h332))) ∧
  ∀ (_ : F) (h333 : H), R161 h333 →
  ∃ R334 : H → Prop, (
    ∃ I335 : Nat → Int → H → Prop, (∃ n336, (∃ h338, Gh h333 h338 ∧ I335 n336 (0 : Int) h338)) ∧
    ∀ (n336 : Nat) (_ : F) (x339_q : Int) (h340 : H), I335 n336 x339_q h340 →
    f4_L3 p0_n post x3 r20 R334 I335 n336 x339_q h340) ∧
  ∀ (_ : F) (h365 : H), R334 h365 →
  (∃ h366, Gh h365 h366 ∧ R35 h366)

def f4_J5 (p0_n : Int) (p1_steps : SV) (post : Value → H → Prop) (x3 : Option Addr) (r20 : Nat) (R23 : H → Prop) (I24 : Nat → Int → H → Prop) (n25 : Nat) (x28_i : Int) (x33 : Bool) (h34 : H) : Prop :=
  VIf x33 (
    ∃ R35 : H → Prop, (
      ∃ b36 : Addr, p1_steps.a = some b36 ∧ 0 ≤ x28_i ∧ x28_i < ((p1_steps.len : Nat) : Int) ∧
      ∃ x37 : SV, H.rd h34 (Addr.add (Addr.add b36 ((x28_i).toNat * 1)) 0) (Value.slice x37.a x37.len x37.cap) ∧
      ∃ R38 : H → Prop, (
        VIf (((x37.len : Nat) : Int) == (2 : Int)) (
          ∃ R39 : Int → H → Prop, (
            ∃ b40 : Addr, x37.a = some b40 ∧ 0 ≤ (0 : Int) ∧ (0 : Int) < ((x37.len : Nat) : Int) ∧
            ∃ b41 : Addr, x37.a = some b41 ∧ 0 ≤ (1 : Int) ∧ (1 : Int) < ((x37.len : Nat) : Int) ∧
            (
              ∃ x42 : SV, H.rd h34 (Addr.add (Addr.mk r20 0 none) 0) (Value.slice x42.a x42.len x42.cap) ∧
              ∃ x43 : SV, H.rd h34 (Addr.add (Addr.mk r20 0 none) 1) (Value.slice x43.a x43.len x43.cap) ∧
              ∃ x44 : SV, H.rd h34 (Addr.add (Addr.mk r20 0 none) 2) (Value.slice x44.a x44.len x44.cap) ∧
              ∃ x45 : SV, H.rd h34 (Addr.add (Addr.mk r20 0 none) 3) (Value.slice x45.a x45.len x45.cap) ∧
              ∃ x46 : SV, H.rd h34 (Addr.add (Addr.mk r20 0 none) 4) (Value.slice x46.a x46.len x46.cap) ∧
              (
                ∃ x47 : Int, H.rd h34 (Addr.add (Addr.add b40 (((0 : Int)).toNat * 1)) 0) (Value.int .i64 x47) ∧
                ∃ x48 : Int, H.rd h34 (Addr.add (Addr.add b41 (((1 : Int)).toNat * 1)) 0) (Value.int .i64 x48) ∧
                SemCall Go.Proofs.Tryd.prog 20 (List.toArray [(Value.agg (List.toArray [(Value.slice x42.a x42.len x42.cap), (Value.slice x43.a x43.len x43.cap), (Value.slice x44.a x44.len x44.cap), (Value.slice x45.a x45.len x45.cap), (Value.slice x46.a x46.len x46.cap)])), (Value.int .i64 x47), (Value.int .i64 x48)]) h34 fun v49 h50 =>
                ∃ x51 : SV, ∃ x52 : SV, ∃ x53 : SV, ∃ x54 : SV, ∃ x55 : SV, ∃ x56 : Int, v49 = (Value.tuple (List.toArray [(Value.agg (List.toArray [(Value.slice x51.a x51.len x51.cap), (Value.slice x52.a x52.len x52.cap), (Value.slice x53.a x53.len x53.cap), (Value.slice x54.a x54.len x54.cap), (Value.slice x55.a x55.len x55.cap)])), (Value.int .i64 x56)])) ∧
                ([(Value.slice x51.a x51.len x51.cap), (Value.slice x52.a x52.len x52.cap), (Value.slice x53.a x53.len x53.cap), (Value.slice x54.a x54.len x54.cap), (Value.slice x55.a x55.len x55.cap)]).length = 5 ∧ (Program.underlying Go.Proofs.Tryd.prog 52).isSome = true ∧
                H.wr h50 (Addr.mk r20 0 none) ([(Value.slice x51.a x51.len x51.cap), (Value.slice x52.a x52.len x52.cap), (Value.slice x53.a x53.len x53.cap), (Value.slice x54.a x54.len x54.cap), (Value.slice x55.a x55.len x55.cap)]) fun h57 =>
                (∃ h58, Gh h57 h58 ∧ R39 x56 h58)) ∧
              (
                ∃ x59 : Int, H.rd h34 (Addr.add (Addr.add b41 (((1 : Int)).toNat * 1)) 0) (Value.int .i64 x59) ∧
                ∃ x60 : Int, H.rd h34 (Addr.add (Addr.add b40 (((0 : Int)).toNat * 1)) 0) (Value.int .i64 x60) ∧
                SemCall Go.Proofs.Tryd.prog 20 (List.toArray [(Value.agg (List.toArray [(Value.slice x42.a x42.len x42.cap), (Value.slice x43.a x43.len x43.cap), (Value.slice x44.a x44.len x44.cap), (Value.slice x45.a x45.len x45.cap), (Value.slice x46.a x46.len x46.cap)])), (Value.int .i64 x60), (Value.int .i64 x59)]) h34 fun v61 h62 =>
                ∃ x63 : SV, ∃ x64 : SV, ∃ x65 : SV, ∃ x66 : SV, ∃ x67 : SV, ∃ x68 : Int, v61 = (Value.tuple (List.toArray [(Value.agg (List.toArray [(Value.slice x63.a x63.len x63.cap), (Value.slice x64.a x64.len x64.cap), (Value.slice x65.a x65.len x65.cap), (Value.slice x66.a x66.len x66.cap), (Value.slice x67.a x67.len x67.cap)])), (Value.int .i64 x68)])) ∧
                ([(Value.slice x63.a x63.len x63.cap), (Value.slice x64.a x64.len x64.cap), (Value.slice x65.a x65.len x65.cap), (Value.slice x66.a x66.len x66.cap), (Value.slice x67.a x67.len x67.cap)]).length = 5 ∧ (Program.underlying Go.Proofs.Tryd.prog 52).isSome = true ∧
                H.wr h62 (Addr.mk r20 0 none) ([(Value.slice x63.a x63.len x63.cap), (Value.slice x64.a x64.len x64.cap), (Value.slice x65.a x65.len x65.cap), (Value.slice x66.a x66.len x66.cap), (Value.slice x67.a x67.len x67.cap)]) fun h69 =>
                (∃ h70, Gh h69 h70 ∧ R39 x68 h70))) ∧
            (
              (
                ∃ x71 : Int, H.rd h34 (Addr.add (Addr.add b40 (((0 : Int)).toNat * 1)) 0) (Value.int .i64 x71) ∧
                (
                ∃ x72 : SV, H.rd h34 (Addr.add (Addr.mk r20 0 none) 0) (Value.slice x72.a x72.len x72.cap) ∧
                ∃ x73 : SV, H.rd h34 (Addr.add (Addr.mk r20 0 none) 1) (Value.slice x73.a x73.len x73.cap) ∧
                ∃ x74 : SV, H.rd h34 (Addr.add (Addr.mk r20 0 none) 2) (Value.slice x74.a x74.len x74.cap) ∧
                ∃ x75 : SV, H.rd h34 (Addr.add (Addr.mk r20 0 none) 3) (Value.slice x75.a x75.len x75.cap) ∧
                ∃ x76 : SV, H.rd h34 (Addr.add (Addr.mk r20 0 none) 4) (Value.slice x76.a x76.len x76.cap) ∧
                ∃ x77 : Int, H.rd h34 (Addr.add (Addr.add b41 (((1 : Int)).toNat * 1)) 0) (Value.int .i64 x77) ∧
                SemCall Go.Proofs.Tryd.prog 20 (List.toArray [(Value.agg (List.toArray [(Value.slice x72.a x72.len x72.cap), (Value.slice x73.a x73.len x73.cap), (Value.slice x74.a x74.len x74.cap), (Value.slice x75.a x75.len x75.cap), (Value.slice x76.a x76.len x76.cap)])), (Value.int .i64 x71), (Value.int .i64 x77)]) h34 fun v78 h79 =>
                ∃ x80 : SV, ∃ x81 : SV, ∃ x82 : SV, ∃ x83 : SV, ∃ x84 : SV, ∃ x85 : Int, v78 = (Value.tuple (List.toArray [(Value.agg (List.toArray [(Value.slice x80.a x80.len x80.cap), (Value.slice x81.a x81.len x81.cap), (Value.slice x82.a x82.len x82.cap), (Value.slice x83.a x83.len x83.cap), (Value.slice x84.a x84.len x84.cap)])), (Value.int .i64 x85)])) ∧
                ([(Value.slice x80.a x80.len x80.cap), (Value.slice x81.a x81.len x81.cap), (Value.slice x82.a x82.len x82.cap), (Value.slice x83.a x83.len x83.cap), (Value.slice x84.a x84.len x84.cap)]).length = 5 ∧ (Program.underlying Go.Proofs.Tryd.prog 52).isSome = true ∧
                H.wr h79 (Addr.mk r20 0 none) ([(Value.slice x80.a x80.len x80.cap), (Value.slice x81.a x81.len x81.cap), (Value.slice x82.a x82.len x82.cap), (Value.slice x83.a x83.len x83.cap), (Value.slice x84.a x84.len x84.cap)]) fun h86 =>
                (∃ h87, Gh h86 h87 ∧ R39 x85 h87)) ∧
                (
                ∃ x88 : Int, H.rd h34 (Addr.add (Addr.add b41 (((1 : Int)).toNat * 1)) 0) (Value.int .i64 x88) ∧
                ∃ x89 : SV, H.rd h34 (Addr.add (Addr.mk r20 0 none) 0) (Value.slice x89.a x89.len x89.cap) ∧
                ∃ x90 : SV, H.rd h34 (Addr.add (Addr.mk r20 0 none) 1) (Value.slice x90.a x90.len x90.cap) ∧
                ∃ x91 : SV, H.rd h34 (Addr.add (Addr.mk r20 0 none) 2) (Value.slice x91.a x91.len x91.cap) ∧
                ∃ x92 : SV, H.rd h34 (Addr.add (Addr.mk r20 0 none) 3) (Value.slice x92.a x92.len x92.cap) ∧
                ∃ x93 : SV, H.rd h34 (Addr.add (Addr.mk r20 0 none) 4) (Value.slice x93.a x93.len x93.cap) ∧
                SemCall Go.Proofs.Tryd.prog 20 (List.toArray [(Value.agg (List.toArray [(Value.slice x89.a x89.len x89.cap), (Value.slice x90.a x90.len x90.cap), (Value.slice x91.a x91.len x91.cap), (Value.slice x92.a x92.len x92.cap), (Value.slice x93.a x93.len x93.cap)])), (Value.int .i64 x71), (Value.int .i64 x88)]) h34 fun v94 h95 =>
                ∃ x96 : SV, ∃ x97 : SV, ∃ x98 : SV, ∃ x99 : SV, ∃ x100 : SV, ∃ x101 : Int, v94 = (Value.tuple (List.toArray [(Value.agg (List.toArray [(Value.slice x96.a x96.len x96.cap), (Value.slice x97.a x97.len x97.cap), (Value.slice x98.a x98.len x98.cap), (Value.slice x99.a x99.len x99.cap), (Value.slice x100.a x100.len x100.cap)])), (Value.int .i64 x101)])) ∧
                ([(Value.slice x96.a x96.len x96.cap), (Value.slice x97.a x97.len x97.cap), (Value.slice x98.a x98.len x98.cap), (Value.slice x99.a x99.len x99.cap), (Value.slice x100.a x100.len x100.cap)]).length = 5 ∧ (Program.underlying Go.Proofs.Tryd.prog 52).isSome = true ∧
                H.wr h95 (Addr.mk r20 0 none) ([(Value.slice x96.a x96.len x96.cap), (Value.slice x97.a x97.len x97.cap), (Value.slice x98.a x98.len x98.cap), (Value.slice x99.a x99.len x99.cap), (Value.slice x100.a x100.len x100.cap)]) fun h102 =>
                (∃ h103, Gh h102 h103 ∧ R39 x101 h103))) ∧
              (
                ∃ x104 : Int, H.rd h34 (Addr.add (Addr.add b41 (((1 : Int)).toNat * 1)) 0) (Value.int .i64 x104) ∧
                (
                ∃ x105 : SV, H.rd h34 (Addr.add (Addr.mk r20 0 none) 0) (Value.slice x105.a x105.len x105.cap) ∧
                ∃ x106 : SV, H.rd h34 (Addr.add (Addr.mk r20 0 none) 1) (Value.slice x106.a x106.len x106.cap) ∧
                ∃ x107 : SV, H.rd h34 (Addr.add (Addr.mk r20 0 none) 2) (Value.slice x107.a x107.len x107.cap) ∧
                ∃ x108 : SV, H.rd h34 (Addr.add (Addr.mk r20 0 none) 3) (Value.slice x108.a x108.len x108.cap) ∧
                ∃ x109 : SV, H.rd h34 (Addr.add (Addr.mk r20 0 none) 4) (Value.slice x109.a x109.len x109.cap) ∧
                ∃ x110 : Int, H.rd h34 (Addr.add (Addr.add b40 (((0 : Int)).toNat * 1)) 0) (Value.int .i64 x110) ∧
                SemCall Go.Proofs.Tryd.prog 20 (List.toArray [(Value.agg (List.toArray [(Value.slice x105.a x105.len x105.cap), (Value.slice x106.a x106.len x106.cap), (Value.slice x107.a x107.len x107.cap), (Value.slice x108.a x108.len x108.cap), (Value.slice x109.a x109.len x109.cap)])), (Value.int .i64 x110), (Value.int .i64 x104)]) h34 fun v111 h112 =>
                ∃ x113 : SV, ∃ x114 : SV, ∃ x115 : SV, ∃ x116 : SV, ∃ x117 : SV, ∃ x118 : Int, v111 = (Value.tuple (List.toArray [(Value.agg (List.toArray [(Value.slice x113.a x113.len x113.cap), (Value.slice x114.a x114.len x114.cap), (Value.slice x115.a x115.len x115.cap), (Value.slice x116.a x116.len x116.cap), (Value.slice x117.a x117.len x117.cap)])), (Value.int .i64 x118)])) ∧
                ([(Value.slice x113.a x113.len x113.cap), (Value.slice x114.a x114.len x114.cap), (Value.slice x115.a x115.len x115.cap), (Value.slice x116.a x116.len x116.cap), (Value.slice x117.a x117.len x117.cap)]).length = 5 ∧ (Program.underlying Go.Proofs.Tryd.prog 52).isSome = true ∧
                H.wr h112 (Addr.mk r20 0 none) ([(Value.slice x113.a x113.len x113.cap), (Value.slice x114.a x114.len x114.cap), (Value.slice x115.a x115.len x115.cap), (Value.slice x116.a x116.len x116.cap), (Value.slice x117.a x117.len x117.cap)]) fun h119 =>
                (∃ h120, Gh h119 h120 ∧ R39 x118 h120)) ∧
                (
                ∃ x121 : Int, H.rd h34 (Addr.add (Addr.add b40 (((0 : Int)).toNat * 1)) 0) (Value.int .i64 x121) ∧
                ∃ x122 : SV, H.rd h34 (Addr.add (Addr.mk r20 0 none) 0) (Value.slice x122.a x122.len x122.cap) ∧
                ∃ x123 : SV, H.rd h34 (Addr.add (Addr.mk r20 0 none) 1) (Value.slice x123.a x123.len x123.cap) ∧
                ∃ x124 : SV, H.rd h34 (Addr.add (Addr.mk r20 0 none) 2) (Value.slice x124.a x124.len x124.cap) ∧
                ∃ x125 : SV, H.rd h34 (Addr.add (Addr.mk r20 0 none) 3) (Value.slice x125.a x125.len x125.cap) ∧
                ∃ x126 : SV, H.rd h34 (Addr.add (Addr.mk r20 0 none) 4) (Value.slice x126.a x126.len x126.cap) ∧
                SemCall Go.Proofs.Tryd.prog 20 (List.toArray [(Value.agg (List.toArray [(Value.slice x122.a x122.len x122.cap), (Value.slice x123.a x123.len x123.cap), (Value.slice x124.a x124.len x124.cap), (Value.slice x125.a x125.len x125.cap), (Value.slice x126.a x126.len x126.cap)])), (Value.int .i64 x121), (Value.int .i64 x104)]) h34 fun v127 h128 =>
                ∃ x129 : SV, ∃ x130 : SV, ∃ x131 : SV, ∃ x132 : SV, ∃ x133 : SV, ∃ x134 : Int, v127 = (Value.tuple (List.toArray [(Value.agg (List.toArray [(Value.slice x129.a x129.len x129.cap), (Value.slice x130.a x130.len x130.cap), (Value.slice x131.a x131.len x131.cap), (Value.slice x132.a x132.len x132.cap), (Value.slice x133.a x133.len x133.cap)])), (Value.int .i64 x134)])) ∧
                ([(Value.slice x129.a x129.len x129.cap), (Value.slice x130.a x130.len x130.cap), (Value.slice x131.a x131.len x131.cap), (Value.slice x132.a x132.len x132.cap), (Value.slice x133.a x133.len x133.cap)]).length = 5 ∧ (Program.underlying Go.Proofs.Tryd.prog 52).isSome = true ∧
                H.wr h128 (Addr.mk r20 0 none) ([(Value.slice x129.a x129.len x129.cap), (Value.slice x130.a x130.len x130.cap), (Value.slice x131.a x131.len x131.cap), (Value.slice x132.a x132.len x132.cap), (Value.slice x133.a x133.len x133.cap)]) fun h135 =>
                (∃ h136, Gh h135 h136 ∧ R39 x134 h136))))) ∧
          ∀ (_ : F) (x137_e : Int) (h138 : H), R39 x137_e h138 →
          f4_J1 post x3 x37 R38 x137_e h138) (
          (∃ h159, Gh h34 h159 ∧ R38 h159))) ∧
      ∀ (_ : F) (h160 : H), R38 h160 →
      f4_J4 p0_n post x3 r20 R35 x37 h160) ∧
    ∀ (_ : F) (h367 : H), R35 h367 →
    In64 (x28_i + (1 : Int)) ∧
    ∃ m26, m26 < n25 ∧ (∃ h368, Gh h367 h368 ∧ I24 m26 (x28_i + (1 : Int)) h368)) (
    (∃ h369, Gh h34 h369 ∧ R23 h369))

def f4_L6 (p0_n : Int) (p1_steps : SV) (post : Value → H → Prop) (x3 : Option Addr) (r20 : Nat) (R23 : H → Prop) (I24 : Nat → Int → H → Prop) (n25 : Nat) (x28_i : Int) (h29 : H) : Prop :=
  ∃ R30 : Bool → H → Prop, (
    VIf (decide (x28_i < ((p1_steps.len : Nat) : Int))) (
      (∃ h31, Gh h29 h31 ∧ R30 (decide (x28_i < (200 : Int))) h31)) (
      (∃ h32, Gh h29 h32 ∧ R30 false h32))) ∧
  ∀ (_ : F) (x33 : Bool) (h34 : H), R30 x33 h34 →
  f4_J5 p0_n p1_steps post x3 r20 R23 I24 n25 x28_i x33 h34

def f4_J7 (p0_n : Int) (post : Value → H → Prop) (x3 : Option Addr) (r20 : Nat) (h370 : H) : Prop :=
  ∃ R371 : Bool → H → Prop, (
    (
      SemCall Go.Proofs.Tryd.prog 25 (List.toArray [(Value.pointer x3)]) h370 fun v372 h373 =>
      ∃ x374 : SV, v372 = (Value.slice x374.a x374.len x374.cap) ∧
      ∃ x375 : SV, H.rd h373 (Addr.add (Addr.add (Addr.mk r20 0 none) 1) 0) (Value.slice x375.a x375.len x375.cap) ∧
      SemCall Go.Proofs.Tryd.prog 16 (List.toArray [(Value.slice x374.a x374.len x374.cap), (Value.slice x375.a x375.len x375.cap)]) h373 fun v376 h377 =>
      ∃ x378 : Bool, v376 = (Value.bool x378) ∧
      VIf x378 (
        SemCall Go.Proofs.Tryd.prog 24 (List.toArray [(Value.pointer x3), (Value.int .i64 (-1 : Int))]) h377 fun v379 h380 =>
        ∃ x381 : Int, v379 = (Value.int .i64 x381) ∧
        VIf (x381 == (0 : Int)) (
          SemCall Go.Proofs.Tryd.prog 24 (List.toArray [(Value.pointer x3), (Value.int .i64 p0_n)]) h380 fun v382 h383 =>
          ∃ x384 : Int, v382 = (Value.int .i64 x384) ∧
          (∃ h385, Gh h383 h385 ∧ R371 (x384 == (0 : Int)) h385)) (
          (∃ h386, Gh h380 h386 ∧ R371 false h386))) (
        (∃ h387, Gh h377 h387 ∧ R371 false h387))) ∧
    (
      ∃ x388 : SV, H.rd h370 (Addr.add (Addr.add (Addr.mk r20 0 none) 1) 0) (Value.slice x388.a x388.len x388.cap) ∧
      SemCall Go.Proofs.Tryd.prog 25 (List.toArray [(Value.pointer x3)]) h370 fun v389 h390 =>
      ∃ x391 : SV, v389 = (Value.slice x391.a x391.len x391.cap) ∧
      SemCall Go.Proofs.Tryd.prog 16 (List.toArray [(Value.slice x391.a x391.len x391.cap), (Value.slice x388.a x388.len x388.cap)]) h390 fun v392 h393 =>
      ∃ x394 : Bool, v392 = (Value.bool x394) ∧
      VIf x394 (
        SemCall Go.Proofs.Tryd.prog 24 (List.toArray [(Value.pointer x3), (Value.int .i64 (-1 : Int))]) h393 fun v395 h396 =>
        ∃ x397 : Int, v395 = (Value.int .i64 x397) ∧
        VIf (x397 == (0 : Int)) (
          SemCall Go.Proofs.Tryd.prog 24 (List.toArray [(Value.pointer x3), (Value.int .i64 p0_n)]) h396 fun v398 h399 =>
          ∃ x400 : Int, v398 = (Value.int .i64 x400) ∧
          (∃ h401, Gh h399 h401 ∧ R371 (x400 == (0 : Int)) h401)) (
          (∃ h402, Gh h396 h402 ∧ R371 false h402))) (
        (∃ h403, Gh h393 h403 ∧ R371 false h403)))) ∧
  ∀ (_ : F) (x404 : Bool) (h405 : H), R371 x404 h405 →
  VRet h405 (Value.bool x404) post

def f4_J8 (p0_n : Int) (p1_steps : SV) (post : Value → H → Prop) (x3 : Option Addr) (x4 : Option (TypeId × Value)) (x8 : Bool) (h9 : H) : Prop :=
  VIf x8 (
    SemCall Go.Proofs.Tryd.prog 7 (List.toArray [(errV x4), (Value.int .i64 (1 : Int))]) h9 fun v10 h11 =>
    ∃ x12 : Bool, v10 = (Value.bool x12) ∧
    VRet h11 (Value.bool x12) post) (
    isIfaceV (errV x4) = true ∧
    VIf (!(isNilV (errV x4))) (
      VRet h9 (Value.bool false) post) (
      SemCall Go.Proofs.Tryd.prog 19 (List.toArray [(Value.int .i64 p0_n)]) h9 fun v13 h14 =>
      ∃ x15 : SV, ∃ x16 : SV, ∃ x17 : SV, ∃ x18 : SV, ∃ x19 : SV, v13 = (Value.agg (List.toArray [(Value.slice x15.a x15.len x15.cap), (Value.slice x16.a x16.len x16.cap), (Value.slice x17.a x17.len x17.cap), (Value.slice x18.a x18.len x18.cap), (Value.slice x19.a x19.len x19.cap)])) ∧
      H.new h14 [(Value.slice none 0 0), (Value.slice none 0 0), (Value.slice none 0 0), (Value.slice none 0 0), (Value.slice none 0 0)] fun r20 h21 =>
      ([(Value.slice x15.a x15.len x15.cap), (Value.slice x16.a x16.len x16.cap), (Value.slice x17.a x17.len x17.cap), (Value.slice x18.a x18.len x18.cap), (Value.slice x19.a x19.len x19.cap)]).length = 5 ∧ (Program.underlying Go.Proofs.Tryd.prog 52).isSome = true ∧
      H.wr h21 (Addr.mk r20 0 none) ([(Value.slice x15.a x15.len x15.cap), (Value.slice x16.a x16.len x16.cap), (Value.slice x17.a x17.len x17.cap), (Value.slice x18.a x18.len x18.cap), (Value.slice x19.a x19.len x19.cap)]) fun h22 =>
      ∃ R23 : H → Prop, (
        ∃ I24 : Nat → Int → H → Prop, (∃ n25, (∃ h27, Gh h22 h27 ∧ I24 n25 (0 : Int) h27)) ∧
        ∀ (n25 : Nat) (_ : F) (x28_i : Int) (h29 : H), I24 n25 x28_i h29 →
        f4_L6 p0_n p1_steps post x3 r20 R23 I24 n25 x28_i h29) ∧
      ∀ (_ : F) (h370 : H), R23 h370 →
      f4_J7 p0_n post x3 r20 h370))

def f4_sem (p0_n : Int) (p1_steps : SV) (h0 : H) (post : Value → H → Prop) : Prop :=
  SemCall Go.Proofs.Tryd.prog 18 (List.toArray [(Value.int .i64 p0_n)]) h0 fun v1 h2 =>
  ∃ x3 : Option Addr, ∃ x4 : Option (TypeId × Value), v1 = (Value.tuple (List.toArray [(Value.pointer x3), (errV x4)])) ∧
  ∃ R5 : Bool → H → Prop, (
    VIf (decide (p0_n < (1 : Int))) (
      (∃ h6, Gh h2 h6 ∧ R5 true h6)) (
      (∃ h7, Gh h2 h7 ∧ R5 (decide (p0_n > (4 : Int))) h7))) ∧
  ∀ (_ : F) (x8 : Bool) (h9 : H), R5 x8 h9 →
  f4_J8 p0_n p1_steps post x3 x4 x8 h9

def f4_hint : Hint := (.node .leaf (.node .leaf (.node (.node (.join [(29, .bool)] .leaf) .leaf) (.node .leaf (.node .leaf (.node (.node .leaf (.join [] (.node (.loop [(8, .int)] (.node (.node (.join [(43, .bool)] .leaf) .leaf) (.node (.join [] (.node (.node .leaf (.node .leaf (.node (.node .leaf (.join [] (.node (.node (.join [(10, .int)] .any2) (.node .any2 .leaf)) .leaf))) (.node (.node .leaf (.join [] (.node (.node (.join [(11, .addr), (12, .bool), (13, .int), (14, .int)] .any2) (.node .leaf (.node .leaf (.node (.join [(111, .bool)] .leaf) .leaf)))) .leaf))) (.node .leaf (.join [] (.node (.loop [(18, .int)] (.node .leaf (.node (.node (.node (.join [(125, .bool)] .any2) .leaf) .leaf) .leaf))) .leaf))))))) .leaf)) .leaf))) .leaf))) (.node (.join [(4, .bool)] .any2) .leaf)))))))

theorem f4_eq (p0_n : Int) (p1_steps : SV) (h0 : H) (post : Value → H → Prop) : exec Tryd.prog (bodyOf Tryd.f4) f4_hint (retQ Tryd.prog Tryd.f4 post) (F0 [(Value.int .i64 p0_n), (Value.slice p1_steps.a p1_steps.len p1_steps.cap)]) h0 = f4_sem p0_n p1_steps h0 post := by kernel_rfl

set_option maxRecDepth 20000 in
theorem f4_call (p0_n : Int) (p1_steps : SV) (h0 : H) (post : Value → H → Prop) (hx : f4_sem p0_n p1_steps h0 post) : SemCall Tryd.prog 4 (List.toArray [(Value.int .i64 p0_n), (Value.slice p1_steps.a p1_steps.len p1_steps.cap)]) h0 post :=
  sem_of_exec (g := f4_hint) mixed Tryd.func4 (bodyOf_eq (by kernel_rfl)) (by kernel_rfl) ((f4_eq p0_n p1_steps h0 post).mpr hx)

/- latchgarth/ring.New -/
def f6_sem (p0_size : Int) (h0 : H) (post : Value → H → Prop) : Prop :=
  SemCall Go.Proofs.Tryd.prog 35 (List.toArray [(Value.int .i64 p0_size), (Value.int .i64 (1 : Int)), (Value.int .i64 (8 : Int))]) h0 fun v1 h2 =>
  ∃ x3 : Bool, v1 = (Value.bool x3) ∧
  VIf (!x3) (
    VRet h2 (Value.tuple (List.toArray [(Value.pointer none), (Value.iface 79 (Value.int .i64 (1 : Int)))])) post) (
    0 ≤ p0_size ∧ p0_size ≤ p0_size ∧ ((8 : Nat) : Int) * p0_size ≤ 140737488355328 ∧ p0_size ≤ 1000000000 ∧
    H.new h2 (repl (p0_size).toNat [(Value.int .i64 (0 : Int))]) fun r4 h5 =>
    H.new h5 [(Value.slice (some (Addr.mk r4 0 none)) ((p0_size).toNat) ((p0_size).toNat)), (Value.int .i64 (0 : Int)), (Value.int .i64 (0 : Int)), (Value.int .i64 (0 : Int)), (Value.int .i64 (0 : Int)), (Value.int .i64 (0 : Int)), (Value.int .i64 (0 : Int))] fun r6 h7 =>
    VRet h7 (Value.tuple (List.toArray [(Value.pointer (some (Addr.mk r6 0 none))), Value.nilIface])) post)

def f6_hint : Hint := .leaf

theorem f6_eq (p0_size : Int) (h0 : H) (post : Value → H → Prop) : exec Tryd.prog (bodyOf Tryd.f6) f6_hint (retQ Tryd.prog Tryd.f6 post) (F0 [(Value.int .i64 p0_size)]) h0 = f6_sem p0_size h0 post := by kernel_rfl

set_option maxRecDepth 20000 in
theorem f6_call (p0_size : Int) (h0 : H) (post : Value → H → Prop) (hx : f6_sem p0_size h0 post) : SemCall Tryd.prog 6 (List.toArray [(Value.int .i64 p0_size)]) h0 post :=
  sem_of_exec (g := f6_hint) mixed Tryd.func6 (bodyOf_eq (by kernel_rfl)) (by kernel_rfl) ((f6_eq p0_size h0 post).mpr hx)

/- latchgarth/latchgarthsame.Error -/
def f7_sem (p0_err : Option (TypeId × Value)) (p1_e : Int) (h0 : H) (post : Value → H → Prop) : Prop :=
  SemCall Go.Proofs.Tryd.prog 36 (List.toArray [(errV p0_err)]) h0 fun v1 h2 =>
  ∃ x3 : Int, v1 = (Value.int .i64 x3) ∧
  VRet h2 (Value.bool (x3 == p1_e)) post

def f7_hint : Hint := .leaf

theorem f7_eq (p0_err : Option (TypeId × Value)) (p1_e : Int) (h0 : H) (post : Value → H → Prop) : exec Tryd.prog (bodyOf Tryd.f7) f7_hint (retQ Tryd.prog Tryd.f7 post) (F0 [(errV p0_err), (Value.int .i64 p1_e)]) h0 = f7_sem p0_err p1_e h0 post := by kernel_rfl

set_option maxRecDepth 20000 in
theorem f7_call (p0_err : Option (TypeId × Value)) (p1_e : Int) (h0 : H) (post : Value → H → Prop) (hx : f7_sem p0_err p1_e h0 post) : SemCall Tryd.prog 7 (List.toArray [(errV p0_err), (Value.int .i64 p1_e)]) h0 post :=
  sem_of_exec (g := f7_hint) mixed Tryd.func7 (bodyOf_eq (by kernel_rfl)) (by kernel_rfl) ((f7_eq p0_err p1_e h0 post).mpr hx)

/- latchgarth/latchgarthref3.StepPut -/
def f8_J1 (post : Value → H → Prop) (r1 : Nat) (r3 : Nat) (h58 : H) : Prop :=
  ∃ x59 : Int, H.rd h58 (Addr.add (Addr.add (Addr.mk r1 0 none) 3) 0) (Value.int .i64 x59) ∧
  VIf (x59 == (3 : Int)) (
    ∃ x60 : Int, H.rd h58 (Addr.add (Addr.add (Addr.mk r1 0 none) 2) 0) (Value.int .i64 x60) ∧
    In64 (x60 + (1 : Int)) ∧
    H.wr h58 (Addr.add (Addr.mk r1 0 none) 2) ([(Value.int .i64 (x60 + (1 : Int)))]) fun h61 =>
    H.wr h61 (Addr.add (Addr.mk r1 0 none) 3) ([(Value.int .i64 (0 : Int))]) fun h62 =>
    ∃ x63 : SV, H.rd h62 (Addr.add (Addr.mk r1 0 none) 0) (Value.slice x63.a x63.len x63.cap) ∧
    ∃ x64 : Int, H.rd h62 (Addr.add (Addr.mk r1 0 none) 1) (Value.int .i64 x64) ∧
    ∃ x65 : Int, H.rd h62 (Addr.add (Addr.mk r1 0 none) 2) (Value.int .i64 x65) ∧
    ∃ x66 : Int, H.rd h62 (Addr.add (Addr.mk r1 0 none) 3) (Value.int .i64 x66) ∧
    ∃ x67 : Int, H.rd h62 (Addr.add (Addr.mk r1 0 none) 4) (Value.int .i64 x67) ∧
    ∃ x68 : Int, H.rd h62 (Addr.add (Addr.mk r1 0 none) 5) (Value.int .i64 x68) ∧
    ∃ x69 : Int, H.rd h62 (Addr.add (Addr.mk r1 0 none) 6) (Value.int .i64 x69) ∧
    ([(Value.slice x63.a x63.len x63.cap), (Value.int .i64 x64), (Value.int .i64 x65), (Value.int .i64 x66), (Value.int .i64 x67), (Value.int .i64 x68), (Value.int .i64 x69)]).length = 7 ∧ (Program.underlying Go.Proofs.Tryd.prog 30).isSome = true ∧
    H.wr h62 (Addr.mk r3 0 none) ([(Value.slice x63.a x63.len x63.cap), (Value.int .i64 x64), (Value.int .i64 x65), (Value.int .i64 x66), (Value.int .i64 x67), (Value.int .i64 x68), (Value.int .i64 x69)]) fun h70 =>
    ∃ x71 : SV, H.rd h70 (Addr.add (Addr.mk r3 0 none) 0) (Value.slice x71.a x71.len x71.cap) ∧
    ∃ x72 : Int, H.rd h70 (Addr.add (Addr.mk r3 0 none) 1) (Value.int .i64 x72) ∧
    ∃ x73 : Int, H.rd h70 (Addr.add (Addr.mk r3 0 none) 2) (Value.int .i64 x73) ∧
    ∃ x74 : Int, H.rd h70 (Addr.add (Addr.mk r3 0 none) 3) (Value.int .i64 x74) ∧
    ∃ x75 : Int, H.rd h70 (Addr.add (Addr.mk r3 0 none) 4) (Value.int .i64 x75) ∧
    ∃ x76 : Int, H.rd h70 (Addr.add (Addr.mk r3 0 none) 5) (Value.int .i64 x76) ∧
    ∃ x77 : Int, H.rd h70 (Addr.add (Addr.mk r3 0 none) 6) (Value.int .i64 x77) ∧
    VRet h70 (Value.tuple (List.toArray [(Value.agg (List.toArray [(Value.slice x71.a x71.len x71.cap), (Value.int .i64 x72), (Value.int .i64 x73), (Value.int .i64 x74), (Value.int .i64 x75), (Value.int .i64 x76), (Value.int .i64 x77)])), (Value.bool true), (Value.bool true), (Value.int .i64 (0 : Int))])) post) (
    ∃ x78 : Int, H.rd h58 (Addr.add (Addr.add (Addr.mk r1 0 none) 3) 0) (Value.int .i64 x78) ∧
    In64 (x78 + (1 : Int)) ∧
    H.wr h58 (Addr.add (Addr.mk r1 0 none) 3) ([(Value.int .i64 (x78 + (1 : Int)))]) fun h79 =>
    ∃ x80 : SV, H.rd h79 (Addr.add (Addr.mk r1 0 none) 0) (Value.slice x80.a x80.len x80.cap) ∧
    ∃ x81 : Int, H.rd h79 (Addr.add (Addr.mk r1 0 none) 1) (Value.int .i64 x81) ∧
    ∃ x82 : Int, H.rd h79 (Addr.add (Addr.mk r1 0 none) 2) (Value.int .i64 x82) ∧
    ∃ x83 : Int, H.rd h79 (Addr.add (Addr.mk r1 0 none) 3) (Value.int .i64 x83) ∧
    ∃ x84 : Int, H.rd h79 (Addr.add (Addr.mk r1 0 none) 4) (Value.int .i64 x84) ∧
    ∃ x85 : Int, H.rd h79 (Addr.add (Addr.mk r1 0 none) 5) (Value.int .i64 x85) ∧
    ∃ x86 : Int, H.rd h79 (Addr.add (Addr.mk r1 0 none) 6) (Value.int .i64 x86) ∧
    ([(Value.slice x80.a x80.len x80.cap), (Value.int .i64 x81), (Value.int .i64 x82), (Value.int .i64 x83), (Value.int .i64 x84), (Value.int .i64 x85), (Value.int .i64 x86)]).length = 7 ∧ (Program.underlying Go.Proofs.Tryd.prog 30).isSome = true ∧
    H.wr h79 (Addr.mk r3 0 none) ([(Value.slice x80.a x80.len x80.cap), (Value.int .i64 x81), (Value.int .i64 x82), (Value.int .i64 x83), (Value.int .i64 x84), (Value.int .i64 x85), (Value.int .i64 x86)]) fun h87 =>
    ∃ x88 : SV, H.rd h87 (Addr.add (Addr.mk r3 0 none) 0) (Value.slice x88.a x88.len x88.cap) ∧
    ∃ x89 : Int, H.rd h87 (Addr.add (Addr.mk r3 0 none) 1) (Value.int .i64 x89) ∧
    ∃ x90 : Int, H.rd h87 (Addr.add (Addr.mk r3 0 none) 2) (Value.int .i64 x90) ∧
    ∃ x91 : Int, H.rd h87 (Addr.add (Addr.mk r3 0 none) 3) (Value.int .i64 x91) ∧
    ∃ x92 : Int, H.rd h87 (Addr.add (Addr.mk r3 0 none) 4) (Value.int .i64 x92) ∧
    ∃ x93 : Int, H.rd h87 (Addr.add (Addr.mk r3 0 none) 5) (Value.int .i64 x93) ∧
    ∃ x94 : Int, H.rd h87 (Addr.add (Addr.mk r3 0 none) 6) (Value.int .i64 x94) ∧
    VRet h87 (Value.tuple (List.toArray [(Value.agg (List.toArray [(Value.slice x88.a x88.len x88.cap), (Value.int .i64 x89), (Value.int .i64 x90), (Value.int .i64 x91), (Value.int .i64 x92), (Value.int .i64 x93), (Value.int .i64 x94)])), (Value.bool false), (Value.bool false), (Value.int .i64 (0 : Int))])) post)

def f8_J2 (post : Value → H → Prop) (r1 : Nat) (r3 : Nat) (x28 : Bool) (h29 : H) : Prop :=
  VIf x28 (
    H.wr h29 (Addr.add (Addr.mk r1 0 none) 3) ([(Value.int .i64 (0 : Int))]) fun h30 =>
    ∃ x31 : SV, H.rd h30 (Addr.add (Addr.mk r1 0 none) 0) (Value.slice x31.a x31.len x31.cap) ∧
    ∃ x32 : Int, H.rd h30 (Addr.add (Addr.mk r1 0 none) 1) (Value.int .i64 x32) ∧
    ∃ x33 : Int, H.rd h30 (Addr.add (Addr.mk r1 0 none) 2) (Value.int .i64 x33) ∧
    ∃ x34 : Int, H.rd h30 (Addr.add (Addr.mk r1 0 none) 3) (Value.int .i64 x34) ∧
    ∃ x35 : Int, H.rd h30 (Addr.add (Addr.mk r1 0 none) 4) (Value.int .i64 x35) ∧
    ∃ x36 : Int, H.rd h30 (Addr.add (Addr.mk r1 0 none) 5) (Value.int .i64 x36) ∧
    ∃ x37 : Int, H.rd h30 (Addr.add (Addr.mk r1 0 none) 6) (Value.int .i64 x37) ∧
    ([(Value.slice x31.a x31.len x31.cap), (Value.int .i64 x32), (Value.int .i64 x33), (Value.int .i64 x34), (Value.int .i64 x35), (Value.int .i64 x36), (Value.int .i64 x37)]).length = 7 ∧ (Program.underlying Go.Proofs.Tryd.prog 30).isSome = true ∧
    H.wr h30 (Addr.mk r3 0 none) ([(Value.slice x31.a x31.len x31.cap), (Value.int .i64 x32), (Value.int .i64 x33), (Value.int .i64 x34), (Value.int .i64 x35), (Value.int .i64 x36), (Value.int .i64 x37)]) fun h38 =>
    ∃ x39 : SV, H.rd h38 (Addr.add (Addr.mk r3 0 none) 0) (Value.slice x39.a x39.len x39.cap) ∧
    ∃ x40 : Int, H.rd h38 (Addr.add (Addr.mk r3 0 none) 1) (Value.int .i64 x40) ∧
    ∃ x41 : Int, H.rd h38 (Addr.add (Addr.mk r3 0 none) 2) (Value.int .i64 x41) ∧
    ∃ x42 : Int, H.rd h38 (Addr.add (Addr.mk r3 0 none) 3) (Value.int .i64 x42) ∧
    ∃ x43 : Int, H.rd h38 (Addr.add (Addr.mk r3 0 none) 4) (Value.int .i64 x43) ∧
    ∃ x44 : Int, H.rd h38 (Addr.add (Addr.mk r3 0 none) 5) (Value.int .i64 x44) ∧
    ∃ x45 : Int, H.rd h38 (Addr.add (Addr.mk r3 0 none) 6) (Value.int .i64 x45) ∧
    VRet h38 (Value.tuple (List.toArray [(Value.agg (List.toArray [(Value.slice x39.a x39.len x39.cap), (Value.int .i64 x40), (Value.int .i64 x41), (Value.int .i64 x42), (Value.int .i64 x43), (Value.int .i64 x44), (Value.int .i64 x45)])), (Value.bool true), (Value.bool false), (Value.int .i64 (0 : Int))])) post) (
    ∃ x46 : Int, H.rd h29 (Addr.add (Addr.add (Addr.mk r1 0 none) 3) 0) (Value.int .i64 x46) ∧
    ∃ R47 : H → Prop, (
      VIf (x46 == (2 : Int)) (
        ∃ x48 : SV, H.rd h29 (Addr.add (Addr.add (Addr.mk r1 0 none) 0) 0) (Value.slice x48.a x48.len x48.cap) ∧
        ∃ x49 : Int, H.rd h29 (Addr.add (Addr.add (Addr.mk r1 0 none) 2) 0) (Value.int .i64 x49) ∧
        ∃ x50 : SV, H.rd h29 (Addr.add (Addr.add (Addr.mk r1 0 none) 0) 0) (Value.slice x50.a x50.len x50.cap) ∧
        ((x50.len : Nat) : Int) ≠ 0 ∧
        ∃ x51 : Int, H.rd h29 (Addr.add (Addr.add (Addr.mk r1 0 none) 5) 0) (Value.int .i64 x51) ∧
        SemCall Go.Proofs.Tryd.prog 37 (List.toArray [(Value.slice x48.a x48.len x48.cap), (Value.int .i64 (Int.tmod x49 ((x50.len : Nat) : Int))), (Value.int .i64 x51)]) h29 fun v52 h53 =>
        ∃ x54 : SV, v52 = (Value.slice x54.a x54.len x54.cap) ∧
        H.wr h53 (Addr.add (Addr.mk r1 0 none) 0) ([(Value.slice x54.a x54.len x54.cap)]) fun h55 =>
        (∃ h56, Gh h55 h56 ∧ R47 h56)) (
        (∃ h57, Gh h29 h57 ∧ R47 h57))) ∧
    ∀ (_ : F) (h58 : H), R47 h58 →
    f8_J1 post r1 r3 h58)

def f8_sem (p0_0_r : SV) (p0_1_r : Int) (p0_2_r : Int) (p0_3_r : Int) (p0_4_r : Int) (p0_5_r : Int) (p0_6_r : Int) (h0 : H) (post : Value → H → Prop) : Prop :=
  H.new h0 [(Value.slice p0_0_r.a p0_0_r.len p0_0_r.cap), (Value.int .i64 p0_1_r), (Value.int .i64 p0_2_r), (Value.int .i64 p0_3_r), (Value.int .i64 p0_4_r), (Value.int .i64 p0_5_r), (Value.int .i64 p0_6_r)] fun r1 h2 =>
  H.new h2 [(Value.slice none 0 0), (Value.int .i64 (0 : Int)), (Value.int .i64 (0 : Int)), (Value.int .i64 (0 : Int)), (Value.int .i64 (0 : Int)), (Value.int .i64 (0 : Int)), (Value.int .i64 (0 : Int))] fun r3 h4 =>
  ∃ x5 : Int, H.rd h4 (Addr.add (Addr.add (Addr.mk r1 0 none) 3) 0) (Value.int .i64 x5) ∧
  VIf (x5 == (0 : Int)) (
    ∃ x6 : SV, H.rd h4 (Addr.add (Addr.mk r1 0 none) 0) (Value.slice x6.a x6.len x6.cap) ∧
    ∃ x7 : Int, H.rd h4 (Addr.add (Addr.mk r1 0 none) 1) (Value.int .i64 x7) ∧
    ∃ x8 : Int, H.rd h4 (Addr.add (Addr.mk r1 0 none) 2) (Value.int .i64 x8) ∧
    ∃ x9 : Int, H.rd h4 (Addr.add (Addr.mk r1 0 none) 3) (Value.int .i64 x9) ∧
    ∃ x10 : Int, H.rd h4 (Addr.add (Addr.mk r1 0 none) 4) (Value.int .i64 x10) ∧
    ∃ x11 : Int, H.rd h4 (Addr.add (Addr.mk r1 0 none) 5) (Value.int .i64 x11) ∧
    ∃ x12 : Int, H.rd h4 (Addr.add (Addr.mk r1 0 none) 6) (Value.int .i64 x12) ∧
    ([(Value.slice x6.a x6.len x6.cap), (Value.int .i64 x7), (Value.int .i64 x8), (Value.int .i64 x9), (Value.int .i64 x10), (Value.int .i64 x11), (Value.int .i64 x12)]).length = 7 ∧ (Program.underlying Go.Proofs.Tryd.prog 30).isSome = true ∧
    H.wr h4 (Addr.mk r3 0 none) ([(Value.slice x6.a x6.len x6.cap), (Value.int .i64 x7), (Value.int .i64 x8), (Value.int .i64 x9), (Value.int .i64 x10), (Value.int .i64 x11), (Value.int .i64 x12)]) fun h13 =>
    ∃ x14 : SV, H.rd h13 (Addr.add (Addr.mk r3 0 none) 0) (Value.slice x14.a x14.len x14.cap) ∧
    ∃ x15 : Int, H.rd h13 (Addr.add (Addr.mk r3 0 none) 1) (Value.int .i64 x15) ∧
    ∃ x16 : Int, H.rd h13 (Addr.add (Addr.mk r3 0 none) 2) (Value.int .i64 x16) ∧
    ∃ x17 : Int, H.rd h13 (Addr.add (Addr.mk r3 0 none) 3) (Value.int .i64 x17) ∧
    ∃ x18 : Int, H.rd h13 (Addr.add (Addr.mk r3 0 none) 4) (Value.int .i64 x18) ∧
    ∃ x19 : Int, H.rd h13 (Addr.add (Addr.mk r3 0 none) 5) (Value.int .i64 x19) ∧
    ∃ x20 : Int, H.rd h13 (Addr.add (Addr.mk r3 0 none) 6) (Value.int .i64 x20) ∧
    VRet h13 (Value.tuple (List.toArray [(Value.agg (List.toArray [(Value.slice x14.a x14.len x14.cap), (Value.int .i64 x15), (Value.int .i64 x16), (Value.int .i64 x17), (Value.int .i64 x18), (Value.int .i64 x19), (Value.int .i64 x20)])), (Value.bool false), (Value.bool false), (Value.int .i64 (7 : Int))])) post) (
    ∃ R21 : Bool → H → Prop, (
      ∃ x22 : Int, H.rd h4 (Addr.add (Addr.add (Addr.mk r1 0 none) 3) 0) (Value.int .i64 x22) ∧
      VIf (x22 == (1 : Int)) (
        ∃ x23 : Int, H.rd h4 (Addr.add (Addr.add (Addr.mk r1 0 none) 2) 0) (Value.int .i64 x23) ∧
        ∃ x24 : Int, H.rd h4 (Addr.add (Addr.add (Addr.mk r1 0 none) 1) 0) (Value.int .i64 x24) ∧
        In64 (x23 - x24) ∧
        ∃ x25 : SV, H.rd h4 (Addr.add (Addr.add (Addr.mk r1 0 none) 0) 0) (Value.slice x25.a x25.len x25.cap) ∧
        (∃ h26, Gh h4 h26 ∧ R21 ((x23 - x24) == ((x25.len : Nat) : Int)) h26)) (
        (∃ h27, Gh h4 h27 ∧ R21 false h27))) ∧
    ∀ (_ : F) (x28 : Bool) (h29 : H), R21 x28 h29 →
    f8_J2 post r1 r3 x28 h29)

def f8_hint : Hint := (.node .leaf (.node .leaf (.node (.node (.join [(23, .bool)] .leaf) .leaf) (.node (.node .leaf (.join [] (.node (.tail 10) .leaf))) .leaf))))

theorem f8_eq (p0_0_r : SV) (p0_1_r : Int) (p0_2_r : Int) (p0_3_r : Int) (p0_4_r : Int) (p0_5_r : Int) (p0_6_r : Int) (h0 : H) (post : Value → H → Prop) : exec Tryd.prog (bodyOf Tryd.f8) f8_hint (retQ Tryd.prog Tryd.f8 post) (F0 [(Value.agg (List.toArray [(Value.slice p0_0_r.a p0_0_r.len p0_0_r.cap), (Value.int .i64 p0_1_r), (Value.int .i64 p0_2_r), (Value.int .i64 p0_3_r), (Value.int .i64 p0_4_r), (Value.int .i64 p0_5_r), (Value.int .i64 p0_6_r)]))]) h0 = f8_sem p0_0_r p0_1_r p0_2_r p0_3_r p0_4_r p0_5_r p0_6_r h0 post := by kernel_rfl

set_option maxRecDepth 20000 in
theorem f8_call (p0_0_r : SV) (p0_1_r : Int) (p0_2_r : Int) (p0_3_r : Int) (p0_4_r : Int) (p0_5_r : Int) (p0_6_r : Int) (h0 : H) (post : Value → H → Prop) (hx : f8_sem p0_0_r p0_1_r p0_2_r p0_3_r p0_4_r p0_5_r p0_6_r h0 post) : SemCall Tryd.prog 8 (List.toArray [(Value.agg (List.toArray [(Value.slice p0_0_r.a p0_0_r.len p0_0_r.cap), (Value.int .i64 p0_1_r), (Value.int .i64 p0_2_r), (Value.int .i64 p0_3_r), (Value.int .i64 p0_4_r), (Value.int .i64 p0_5_r), (Value.int .i64 p0_6_r)]))]) h0 post :=
  sem_of_exec (g := f8_hint) mixed Tryd.func8 (bodyOf_eq (by kernel_rfl)) (by kernel_rfl) ((f8_eq p0_0_r p0_1_r p0_2_r p0_3_r p0_4_r p0_5_r p0_6_r h0 post).mpr hx)

/- (*latchgarth/ring.Ring).StepPut -/
def f9_sem (p0_r : Option Addr) (h0 : H) (post : Value → H → Prop) : Prop :=
  ∃ a1 : Addr, p0_r = some a1 ∧
  ∃ x2 : Int, H.rd h0 (Addr.add (Addr.add (Addr.add a1 3) 0) 0) (Value.int .i64 x2) ∧
  VIf (x2 == (0 : Int)) (
    VRet h0 (Value.tuple (List.toArray [(Value.bool false), (Value.bool false), (Value.iface 79 (Value.int .i64 (7 : Int)))])) post) (
    ∃ R3 : H → Prop, (
      VIf (x2 == (1 : Int)) (
        ∃ a4 : Addr, p0_r = some a4 ∧
        ∃ x5 : Int, H.rd h0 (Addr.add (Addr.add a4 2) 0) (Value.int .i64 x5) ∧
        ∃ a6 : Addr, p0_r = some a6 ∧
        ∃ x7 : Int, H.rd h0 (Addr.add (Addr.add a6 1) 0) (Value.int .i64 x7) ∧
        In64 (x5 - x7) ∧
        ∃ a8 : Addr, p0_r = some a8 ∧
        ∃ x9 : SV, H.rd h0 (Addr.add (Addr.add a8 0) 0) (Value.slice x9.a x9.len x9.cap) ∧
        VIf ((x5 - x7) == ((x9.len : Nat) : Int)) (
          ∃ a10 : Addr, p0_r = some a10 ∧
          ([(Value.int .i64 (0 : Int)), (Value.int .i64 (0 : Int))]).length = 2 ∧ (Program.underlying Go.Proofs.Tryd.prog 81).isSome = true ∧
          H.wr h0 (Addr.add a10 3) ([(Value.int .i64 (0 : Int)), (Value.int .i64 (0 : Int))]) fun h11 =>
          VRet h11 (Value.tuple (List.toArray [(Value.bool true), (Value.bool false), Value.nilIface])) post) (
          (∃ h12, Gh h0 h12 ∧ R3 h12))) (
        VIf (x2 == (2 : Int)) (
          ∃ a13 : Addr, p0_r = some a13 ∧
          ∃ x14 : SV, H.rd h0 (Addr.add (Addr.add a13 0) 0) (Value.slice x14.a x14.len x14.cap) ∧
          ∃ a15 : Addr, p0_r = some a15 ∧
          ∃ x16 : Int, H.rd h0 (Addr.add (Addr.add a15 2) 0) (Value.int .i64 x16) ∧
          ∃ a17 : Addr, p0_r = some a17 ∧
          ∃ x18 : SV, H.rd h0 (Addr.add (Addr.add a17 0) 0) (Value.slice x18.a x18.len x18.cap) ∧
          ((x18.len : Nat) : Int) ≠ 0 ∧
          ∃ a19 : Addr, p0_r = some a19 ∧
          ∃ x20 : Int, H.rd h0 (Addr.add (Addr.add (Addr.add a19 3) 1) 0) (Value.int .i64 x20) ∧
          ∃ b21 : Addr, x14.a = some b21 ∧ 0 ≤ (Int.tmod x16 ((x18.len : Nat) : Int)) ∧ (Int.tmod x16 ((x18.len : Nat) : Int)) < ((x14.len : Nat) : Int) ∧
          H.wr h0 (Addr.add b21 (((Int.tmod x16 ((x18.len : Nat) : Int))).toNat * 1)) ([(Value.int .i64 x20)]) fun h22 =>
          (∃ h23, Gh h22 h23 ∧ R3 h23)) (
          VIf (x2 == (3 : Int)) (
            ∃ a24 : Addr, p0_r = some a24 ∧
            ∃ x25 : Int, H.rd h0 (Addr.add (Addr.add a24 2) 0) (Value.int .i64 x25) ∧
            In64 (x25 + (1 : Int)) ∧
            ∃ a26 : Addr, p0_r = some a26 ∧
            H.wr h0 (Addr.add a26 2) ([(Value.int .i64 (x25 + (1 : Int)))]) fun h27 =>
            ∃ a28 : Addr, p0_r = some a28 ∧
            ([(Value.int .i64 (0 : Int)), (Value.int .i64 (0 : Int))]).length = 2 ∧ (Program.underlying Go.Proofs.Tryd.prog 81).isSome = true ∧
            H.wr h27 (Addr.add a28 3) ([(Value.int .i64 (0 : Int)), (Value.int .i64 (0 : Int))]) fun h29 =>
            VRet h29 (Value.tuple (List.toArray [(Value.bool true), (Value.bool true), Value.nilIface])) post) (
            (∃ h30, Gh h0 h30 ∧ R3 h30))))) ∧
    ∀ (_ : F) (h31 : H), R3 h31 →
    ∃ a32 : Addr, p0_r = some a32 ∧
    ∃ x33 : Int, H.rd h31 (Addr.add (Addr.add (Addr.add a32 3) 0) 0) (Value.int .i64 x33) ∧
    In64 (x33 + (1 : Int)) ∧
    ∃ a34 : Addr, p0_r = some a34 ∧
    H.wr h31 (Addr.add (Addr.add a34 3) 0) ([(Value.int .i64 (x33 + (1 : Int)))]) fun h35 =>
    VRet h35 (Value.tuple (List.toArray [(Value.bool false), (Value.bool false), Value.nilIface])) post)

def f9_hint : Hint := (.node .leaf (.node (.node .leaf (.node (.node .leaf (.node .leaf (.node .leaf (.join [] (.node .leaf (.node .leaf (.node (.tail 20) .leaf))))))) .leaf)) .leaf))

theorem f9_eq (p0_r : Option Addr) (h0 : H) (post : Value → H → Prop) : exec Tryd.prog (bodyOf Tryd.f9) f9_hint (retQ Tryd.prog Tryd.f9 post) (F0 [(Value.pointer p0_r)]) h0 = f9_sem p0_r h0 post := by kernel_rfl

set_option maxRecDepth 20000 in
theorem f9_call (p0_r : Option Addr) (h0 : H) (post : Value → H → Prop) (hx : f9_sem p0_r h0 post) : SemCall Tryd.prog 9 (List.toArray [(Value.pointer p0_r)]) h0 post :=
  sem_of_exec (g := f9_hint) mixed Tryd.func9 (bodyOf_eq (by kernel_rfl)) (by kernel_rfl) ((f9_eq p0_r h0 post).mpr hx)

/- latchgarth/latchgarthref3.StepGet -/
def f10_J1 (post : Value → H → Prop) (r1 : Nat) (r3 : Nat) (h55 : H) : Prop :=
  ∃ x56 : Int, H.rd h55 (Addr.add (Addr.add (Addr.mk r1 0 none) 4) 0) (Value.int .i64 x56) ∧
  VIf (x56 == (6 : Int)) (
    ∃ x57 : Int, H.rd h55 (Addr.add (Addr.add (Addr.mk r1 0 none) 1) 0) (Value.int .i64 x57) ∧
    In64 (x57 + (1 : Int)) ∧
    H.wr h55 (Addr.add (Addr.mk r1 0 none) 1) ([(Value.int .i64 (x57 + (1 : Int)))]) fun h58 =>
    H.wr h58 (Addr.add (Addr.mk r1 0 none) 4) ([(Value.int .i64 (0 : Int))]) fun h59 =>
    ∃ R60 : Bool → Int → Int → H → Prop, (
      (
        ∃ x61 : SV, H.rd h59 (Addr.add (Addr.mk r1 0 none) 0) (Value.slice x61.a x61.len x61.cap) ∧
        ∃ x62 : Int, H.rd h59 (Addr.add (Addr.mk r1 0 none) 1) (Value.int .i64 x62) ∧
        ∃ x63 : Int, H.rd h59 (Addr.add (Addr.mk r1 0 none) 2) (Value.int .i64 x63) ∧
        ∃ x64 : Int, H.rd h59 (Addr.add (Addr.mk r1 0 none) 3) (Value.int .i64 x64) ∧
        ∃ x65 : Int, H.rd h59 (Addr.add (Addr.mk r1 0 none) 4) (Value.int .i64 x65) ∧
        ∃ x66 : Int, H.rd h59 (Addr.add (Addr.mk r1 0 none) 5) (Value.int .i64 x66) ∧
        ∃ x67 : Int, H.rd h59 (Addr.add (Addr.mk r1 0 none) 6) (Value.int .i64 x67) ∧
        (
          ∃ x68 : Int, H.rd h59 (Addr.add (Addr.add (Addr.mk r1 0 none) 6) 0) (Value.int .i64 x68) ∧
          ([(Value.slice x61.a x61.len x61.cap), (Value.int .i64 x62), (Value.int .i64 x63), (Value.int .i64 x64), (Value.int .i64 x65), (Value.int .i64 x66), (Value.int .i64 x67)]).length = 7 ∧ (Program.underlying Go.Proofs.Tryd.prog 30).isSome = true ∧
          H.wr h59 (Addr.mk r3 0 none) ([(Value.slice x61.a x61.len x61.cap), (Value.int .i64 x62), (Value.int .i64 x63), (Value.int .i64 x64), (Value.int .i64 x65), (Value.int .i64 x66), (Value.int .i64 x67)]) fun h69 =>
          (∃ h70, Gh h69 h70 ∧ R60 true x68 (0 : Int) h70)) ∧
        (
          ([(Value.slice x61.a x61.len x61.cap), (Value.int .i64 x62), (Value.int .i64 x63), (Value.int .i64 x64), (Value.int .i64 x65), (Value.int .i64 x66), (Value.int .i64 x67)]).length = 7 ∧ (Program.underlying Go.Proofs.Tryd.prog 30).isSome = true ∧
          H.wr h59 (Addr.mk r3 0 none) ([(Value.slice x61.a x61.len x61.cap), (Value.int .i64 x62), (Value.int .i64 x63), (Value.int .i64 x64), (Value.int .i64 x65), (Value.int .i64 x66), (Value.int .i64 x67)]) fun h71 =>
          ∃ x72 : Int, H.rd h71 (Addr.add (Addr.add (Addr.mk r1 0 none) 6) 0) (Value.int .i64 x72) ∧
          (∃ h73, Gh h71 h73 ∧ R60 true x72 (0 : Int) h73))) ∧
      (
        ∃ x74 : Int, H.rd h59 (Addr.add (Addr.add (Addr.mk r1 0 none) 6) 0) (Value.int .i64 x74) ∧
        ∃ x75 : SV, H.rd h59 (Addr.add (Addr.mk r1 0 none) 0) (Value.slice x75.a x75.len x75.cap) ∧
        ∃ x76 : Int, H.rd h59 (Addr.add (Addr.mk r1 0 none) 1) (Value.int .i64 x76) ∧
        ∃ x77 : Int, H.rd h59 (Addr.add (Addr.mk r1 0 none) 2) (Value.int .i64 x77) ∧
        ∃ x78 : Int, H.rd h59 (Addr.add (Addr.mk r1 0 none) 3) (Value.int .i64 x78) ∧
        ∃ x79 : Int, H.rd h59 (Addr.add (Addr.mk r1 0 none) 4) (Value.int .i64 x79) ∧
        ∃ x80 : Int, H.rd h59 (Addr.add (Addr.mk r1 0 none) 5) (Value.int .i64 x80) ∧
        ∃ x81 : Int, H.rd h59 (Addr.add (Addr.mk r1 0 none) 6) (Value.int .i64 x81) ∧
        ([(Value.slice x75.a x75.len x75.cap), (Value.int .i64 x76), (Value.int .i64 x77), (Value.int .i64 x78), (Value.int .i64 x79), (Value.int .i64 x80), (Value.int .i64 x81)]).length = 7 ∧ (Program.underlying Go.Proofs.Tryd.prog 30).isSome = true ∧
        H.wr h59 (Addr.mk r3 0 none) ([(Value.slice x75.a x75.len x75.cap), (Value.int .i64 x76), (Value.int .i64 x77), (Value.int .i64 x78), (Value.int .i64 x79), (Value.int .i64 x80), (Value.int .i64 x81)]) fun h82 =>
        (∃ h83, Gh h82 h83 ∧ R60 true x74 (0 : Int) h83))) ∧
    ∀ (_ : F) (x84 : Bool) (x85 : Int) (x86 : Int) (h87 : H), R60 x84 x85 x86 h87 →
    ∃ x88 : SV, H.rd h87 (Addr.add (Addr.mk r3 0 none) 0) (Value.slice x88.a x88.len x88.cap) ∧
    ∃ x89 : Int, H.rd h87 (Addr.add (Addr.mk r3 0 none) 1) (Value.int .i64 x89) ∧
    ∃ x90 : Int, H.rd h87 (Addr.add (Addr.mk r3 0 none) 2) (Value.int .i64 x90) ∧
    ∃ x91 : Int, H.rd h87 (Addr.add (Addr.mk r3 0 none) 3) (Value.int .i64 x91) ∧
    ∃ x92 : Int, H.rd h87 (Addr.add (Addr.mk r3 0 none) 4) (Value.int .i64 x92) ∧
    ∃ x93 : Int, H.rd h87 (Addr.add (Addr.mk r3 0 none) 5) (Value.int .i64 x93) ∧
    ∃ x94 : Int, H.rd h87 (Addr.add (Addr.mk r3 0 none) 6) (Value.int .i64 x94) ∧
    VRet h87 (Value.tuple (List.toArray [(Value.agg (List.toArray [(Value.slice x88.a x88.len x88.cap), (Value.int .i64 x89), (Value.int .i64 x90), (Value.int .i64 x91), (Value.int .i64 x92), (Value.int .i64 x93), (Value.int .i64 x94)])), (Value.bool x84), (Value.int .i64 x85), (Value.int .i64 x86)])) post) (
    ∃ x95 : Int, H.rd h55 (Addr.add (Addr.add (Addr.mk r1 0 none) 4) 0) (Value.int .i64 x95) ∧
    In64 (x95 + (1 : Int)) ∧
    H.wr h55 (Addr.add (Addr.mk r1 0 none) 4) ([(Value.int .i64 (x95 + (1 : Int)))]) fun h96 =>
    ∃ x97 : SV, H.rd h96 (Addr.add (Addr.mk r1 0 none) 0) (Value.slice x97.a x97.len x97.cap) ∧
    ∃ x98 : Int, H.rd h96 (Addr.add (Addr.mk r1 0 none) 1) (Value.int .i64 x98) ∧
    ∃ x99 : Int, H.rd h96 (Addr.add (Addr.mk r1 0 none) 2) (Value.int .i64 x99) ∧
    ∃ x100 : Int, H.rd h96 (Addr.add (Addr.mk r1 0 none) 3) (Value.int .i64 x100) ∧
    ∃ x101 : Int, H.rd h96 (Addr.add (Addr.mk r1 0 none) 4) (Value.int .i64 x101) ∧
    ∃ x102 : Int, H.rd h96 (Addr.add (Addr.mk r1 0 none) 5) (Value.int .i64 x102) ∧
    ∃ x103 : Int, H.rd h96 (Addr.add (Addr.mk r1 0 none) 6) (Value.int .i64 x103) ∧
    ([(Value.slice x97.a x97.len x97.cap), (Value.int .i64 x98), (Value.int .i64 x99), (Value.int .i64 x100), (Value.int .i64 x101), (Value.int .i64 x102), (Value.int .i64 x103)]).length = 7 ∧ (Program.underlying Go.Proofs.Tryd.prog 30).isSome = true ∧
    H.wr h96 (Addr.mk r3 0 none) ([(Value.slice x97.a x97.len x97.cap), (Value.int .i64 x98), (Value.int .i64 x99), (Value.int .i64 x100), (Value.int .i64 x101), (Value.int .i64 x102), (Value.int .i64 x103)]) fun h104 =>
    ∃ x105 : SV, H.rd h104 (Addr.add (Addr.mk r3 0 none) 0) (Value.slice x105.a x105.len x105.cap) ∧
    ∃ x106 : Int, H.rd h104 (Addr.add (Addr.mk r3 0 none) 1) (Value.int .i64 x106) ∧
    ∃ x107 : Int, H.rd h104 (Addr.add (Addr.mk r3 0 none) 2) (Value.int .i64 x107) ∧
    ∃ x108 : Int, H.rd h104 (Addr.add (Addr.mk r3 0 none) 3) (Value.int .i64 x108) ∧
    ∃ x109 : Int, H.rd h104 (Addr.add (Addr.mk r3 0 none) 4) (Value.int .i64 x109) ∧
    ∃ x110 : Int, H.rd h104 (Addr.add (Addr.mk r3 0 none) 5) (Value.int .i64 x110) ∧
    ∃ x111 : Int, H.rd h104 (Addr.add (Addr.mk r3 0 none) 6) (Value.int .i64 x111) ∧
    VRet h104 (Value.tuple (List.toArray [(Value.agg (List.toArray [(Value.slice x105.a x105.len x105.cap), (Value.int .i64 x106), (Value.int .i64 x107), (Value.int .i64 x108), (Value.int .i64 x109), (Value.int .i64 x110), (Value.int .i64 x111)])), (Value.bool false), (Value.int .i64 (0 : Int)), (Value.int .i64 (0 : Int))])) post)

def f10_J2 (post : Value → H → Prop) (r1 : Nat) (r3 : Nat) (x27 : Bool) (h28 : H) : Prop :=
  VIf x27 (
    H.wr h28 (Addr.add (Addr.mk r1 0 none) 4) ([(Value.int .i64 (0 : Int))]) fun h29 =>
    ∃ x30 : SV, H.rd h29 (Addr.add (Addr.mk r1 0 none) 0) (Value.slice x30.a x30.len x30.cap) ∧
    ∃ x31 : Int, H.rd h29 (Addr.add (Addr.mk r1 0 none) 1) (Value.int .i64 x31) ∧
    ∃ x32 : Int, H.rd h29 (Addr.add (Addr.mk r1 0 none) 2) (Value.int .i64 x32) ∧
    ∃ x33 : Int, H.rd h29 (Addr.add (Addr.mk r1 0 none) 3) (Value.int .i64 x33) ∧
    ∃ x34 : Int, H.rd h29 (Addr.add (Addr.mk r1 0 none) 4) (Value.int .i64 x34) ∧
    ∃ x35 : Int, H.rd h29 (Addr.add (Addr.mk r1 0 none) 5) (Value.int .i64 x35) ∧
    ∃ x36 : Int, H.rd h29 (Addr.add (Addr.mk r1 0 none) 6) (Value.int .i64 x36) ∧
    ([(Value.slice x30.a x30.len x30.cap), (Value.int .i64 x31), (Value.int .i64 x32), (Value.int .i64 x33), (Value.int .i64 x34), (Value.int .i64 x35), (Value.int .i64 x36)]).length = 7 ∧ (Program.underlying Go.Proofs.Tryd.prog 30).isSome = true ∧
    H.wr h29 (Addr.mk r3 0 none) ([(Value.slice x30.a x30.len x30.cap), (Value.int .i64 x31), (Value.int .i64 x32), (Value.int .i64 x33), (Value.int .i64 x34), (Value.int .i64 x35), (Value.int .i64 x36)]) fun h37 =>
    ∃ x38 : SV, H.rd h37 (Addr.add (Addr.mk r3 0 none) 0) (Value.slice x38.a x38.len x38.cap) ∧
    ∃ x39 : Int, H.rd h37 (Addr.add (Addr.mk r3 0 none) 1) (Value.int .i64 x39) ∧
    ∃ x40 : Int, H.rd h37 (Addr.add (Addr.mk r3 0 none) 2) (Value.int .i64 x40) ∧
    ∃ x41 : Int, H.rd h37 (Addr.add (Addr.mk r3 0 none) 3) (Value.int .i64 x41) ∧
    ∃ x42 : Int, H.rd h37 (Addr.add (Addr.mk r3 0 none) 4) (Value.int .i64 x42) ∧
    ∃ x43 : Int, H.rd h37 (Addr.add (Addr.mk r3 0 none) 5) (Value.int .i64 x43) ∧
    ∃ x44 : Int, H.rd h37 (Addr.add (Addr.mk r3 0 none) 6) (Value.int .i64 x44) ∧
    VRet h37 (Value.tuple (List.toArray [(Value.agg (List.toArray [(Value.slice x38.a x38.len x38.cap), (Value.int .i64 x39), (Value.int .i64 x40), (Value.int .i64 x41), (Value.int .i64 x42), (Value.int .i64 x43), (Value.int .i64 x44)])), (Value.bool true), (Value.int .i64 (-1 : Int)), (Value.int .i64 (0 : Int))])) post) (
    ∃ x45 : Int, H.rd h28 (Addr.add (Addr.add (Addr.mk r1 0 none) 4) 0) (Value.int .i64 x45) ∧
    ∃ R46 : H → Prop, (
      VIf (x45 == (5 : Int)) (
        ∃ x47 : SV, H.rd h28 (Addr.add (Addr.add (Addr.mk r1 0 none) 0) 0) (Value.slice x47.a x47.len x47.cap) ∧
        ∃ x48 : Int, H.rd h28 (Addr.add (Addr.add (Addr.mk r1 0 none) 1) 0) (Value.int .i64 x48) ∧
        ∃ x49 : SV, H.rd h28 (Addr.add (Addr.add (Addr.mk r1 0 none) 0) 0) (Value.slice x49.a x49.len x49.cap) ∧
        ((x49.len : Nat) : Int) ≠ 0 ∧
        ∃ b50 : Addr, x47.a = some b50 ∧ 0 ≤ (Int.tmod x48 ((x49.len : Nat) : Int)) ∧ (Int.tmod x48 ((x49.len : Nat) : Int)) < ((x47.len : Nat) : Int) ∧
        ∃ x51 : Int, H.rd h28 (Addr.add (Addr.add b50 (((Int.tmod x48 ((x49.len : Nat) : Int))).toNat * 1)) 0) (Value.int .i64 x51) ∧
        H.wr h28 (Addr.add (Addr.mk r1 0 none) 6) ([(Value.int .i64 x51)]) fun h52 =>
        (∃ h53, Gh h52 h53 ∧ R46 h53)) (
        (∃ h54, Gh h28 h54 ∧ R46 h54))) ∧
    ∀ (_ : F) (h55 : H), R46 h55 →
    f10_J1 post r1 r3 h55)

def f10_sem (p0_0_r : SV) (p0_1_r : Int) (p0_2_r : Int) (p0_3_r : Int) (p0_4_r : Int) (p0_5_r : Int) (p0_6_r : Int) (h0 : H) (post : Value → H → Prop) : Prop :=
  H.new h0 [(Value.slice p0_0_r.a p0_0_r.len p0_0_r.cap), (Value.int .i64 p0_1_r), (Value.int .i64 p0_2_r), (Value.int .i64 p0_3_r), (Value.int .i64 p0_4_r), (Value.int .i64 p0_5_r), (Value.int .i64 p0_6_r)] fun r1 h2 =>
  H.new h2 [(Value.slice none 0 0), (Value.int .i64 (0 : Int)), (Value.int .i64 (0 : Int)), (Value.int .i64 (0 : Int)), (Value.int .i64 (0 : Int)), (Value.int .i64 (0 : Int)), (Value.int .i64 (0 : Int))] fun r3 h4 =>
  ∃ x5 : Int, H.rd h4 (Addr.add (Addr.add (Addr.mk r1 0 none) 4) 0) (Value.int .i64 x5) ∧
  VIf (x5 == (0 : Int)) (
    ∃ x6 : SV, H.rd h4 (Addr.add (Addr.mk r1 0 none) 0) (Value.slice x6.a x6.len x6.cap) ∧
    ∃ x7 : Int, H.rd h4 (Addr.add (Addr.mk r1 0 none) 1) (Value.int .i64 x7) ∧
    ∃ x8 : Int, H.rd h4 (Addr.add (Addr.mk r1 0 none) 2) (Value.int .i64 x8) ∧
    ∃ x9 : Int, H.rd h4 (Addr.add (Addr.mk r1 0 none) 3) (Value.int .i64 x9) ∧
    ∃ x10 : Int, H.rd h4 (Addr.add (Addr.mk r1 0 none) 4) (Value.int .i64 x10) ∧
    ∃ x11 : Int, H.rd h4 (Addr.add (Addr.mk r1 0 none) 5) (Value.int .i64 x11) ∧
    ∃ x12 : Int, H.rd h4 (Addr.add (Addr.mk r1 0 none) 6) (Value.int .i64 x12) ∧
    ([(Value.slice x6.a x6.len x6.cap), (Value.int .i64 x7), (Value.int .i64 x8), (Value.int .i64 x9), (Value.int .i64 x10), (Value.int .i64 x11), (Value.int .i64 x12)]).length = 7 ∧ (Program.underlying Go.Proofs.Tryd.prog 30).isSome = true ∧
    H.wr h4 (Addr.mk r3 0 none) ([(Value.slice x6.a x6.len x6.cap), (Value.int .i64 x7), (Value.int .i64 x8), (Value.int .i64 x9), (Value.int .i64 x10), (Value.int .i64 x11), (Value.int .i64 x12)]) fun h13 =>
    ∃ x14 : SV, H.rd h13 (Addr.add (Addr.mk r3 0 none) 0) (Value.slice x14.a x14.len x14.cap) ∧
    ∃ x15 : Int, H.rd h13 (Addr.add (Addr.mk r3 0 none) 1) (Value.int .i64 x15) ∧
    ∃ x16 : Int, H.rd h13 (Addr.add (Addr.mk r3 0 none) 2) (Value.int .i64 x16) ∧
    ∃ x17 : Int, H.rd h13 (Addr.add (Addr.mk r3 0 none) 3) (Value.int .i64 x17) ∧
    ∃ x18 : Int, H.rd h13 (Addr.add (Addr.mk r3 0 none) 4) (Value.int .i64 x18) ∧
    ∃ x19 : Int, H.rd h13 (Addr.add (Addr.mk r3 0 none) 5) (Value.int .i64 x19) ∧
    ∃ x20 : Int, H.rd h13 (Addr.add (Addr.mk r3 0 none) 6) (Value.int .i64 x20) ∧
    VRet h13 (Value.tuple (List.toArray [(Value.agg (List.toArray [(Value.slice x14.a x14.len x14.cap), (Value.int .i64 x15), (Value.int .i64 x16), (Value.int .i64 x17), (Value.int .i64 x18), (Value.int .i64 x19), (Value.int .i64 x20)])), (Value.bool false), (Value.int .i64 (0 : Int)), (Value.int .i64 (7 : Int))])) post) (
    ∃ R21 : Bool → H → Prop, (
      ∃ x22 : Int, H.rd h4 (Addr.add (Addr.add (Addr.mk r1 0 none) 4) 0) (Value.int .i64 x22) ∧
      VIf (x22 == (4 : Int)) (
        ∃ x23 : Int, H.rd h4 (Addr.add (Addr.add (Addr.mk r1 0 none) 2) 0) (Value.int .i64 x23) ∧
        ∃ x24 : Int, H.rd h4 (Addr.add (Addr.add (Addr.mk r1 0 none) 1) 0) (Value.int .i64 x24) ∧
        (∃ h25, Gh h4 h25 ∧ R21 (x23 == x24) h25)) (
        (∃ h26, Gh h4 h26 ∧ R21 false h26))) ∧
    ∀ (_ : F) (x27 : Bool) (h28 : H), R21 x27 h28 →
    f10_J2 post r1 r3 x27 h28)

def f10_hint : Hint := (.node .leaf (.node .leaf (.node (.node (.join [(19, .bool)] .leaf) .leaf) (.node (.node .leaf (.join [] (.node (.tail 11) .leaf))) (.node (.node .leaf (.node (.node .leaf (.node .leaf (.node (.join [(3, .bool), (4, .int), (5, .int)] .any) .leaf))) .leaf)) .leaf)))))

theorem f10_eq (p0_0_r : SV) (p0_1_r : Int) (p0_2_r : Int) (p0_3_r : Int) (p0_4_r : Int) (p0_5_r : Int) (p0_6_r : Int) (h0 : H) (post : Value → H → Prop) : exec Tryd.prog (bodyOf Tryd.f10) f10_hint (retQ Tryd.prog Tryd.f10 post) (F0 [(Value.agg (List.toArray [(Value.slice p0_0_r.a p0_0_r.len p0_0_r.cap), (Value.int .i64 p0_1_r), (Value.int .i64 p0_2_r), (Value.int .i64 p0_3_r), (Value.int .i64 p0_4_r), (Value.int .i64 p0_5_r), (Value.int .i64 p0_6_r)]))]) h0 = f10_sem p0_0_r p0_1_r p0_2_r p0_3_r p0_4_r p0_5_r p0_6_r h0 post := by kernel_rfl

set_option maxRecDepth 20000 in
theorem f10_call (p0_0_r : SV) (p0_1_r : Int) (p0_2_r : Int) (p0_3_r : Int) (p0_4_r : Int) (p0_5_r : Int) (p0_6_r : Int) (h0 : H) (post : Value → H → Prop) (hx : f10_sem p0_0_r p0_1_r p0_2_r p0_3_r p0_4_r p0_5_r p0_6_r h0 post) : SemCall Tryd.prog 10 (List.toArray [(Value.agg (List.toArray [(Value.slice p0_0_r.a p0_0_r.len p0_0_r.cap), (Value.int .i64 p0_1_r), (Value.int .i64 p0_2_r), (Value.int .i64 p0_3_r), (Value.int .i64 p0_4_r), (Value.int .i64 p0_5_r), (Value.int .i64 p0_6_r)]))]) h0 post :=
  sem_of_exec (g := f10_hint) mixed Tryd.func10 (bodyOf_eq (by kernel_rfl)) (by kernel_rfl) ((f10_eq p0_0_r p0_1_r p0_2_r p0_3_r p0_4_r p0_5_r p0_6_r h0 post).mpr hx)

/- (*latchgarth/ring.Ring).StepGet -/
def f11_sem (p0_r : Option Addr) (h0 : H) (post : Value → H → Prop) : Prop :=
  ∃ a1 : Addr, p0_r = some a1 ∧
  ∃ x2 : Int, H.rd h0 (Addr.add (Addr.add (Addr.add a1 5) 0) 0) (Value.int .i64 x2) ∧
  VIf (x2 == (0 : Int)) (
    VRet h0 (Value.tuple (List.toArray [(Value.bool false), (Value.int .i64 (0 : Int)), (Value.iface 79 (Value.int .i64 (7 : Int)))])) post) (
    ∃ R3 : H → Prop, (
      VIf (x2 == (4 : Int)) (
        ∃ a4 : Addr, p0_r = some a4 ∧
        ∃ x5 : Int, H.rd h0 (Addr.add (Addr.add a4 2) 0) (Value.int .i64 x5) ∧
        ∃ a6 : Addr, p0_r = some a6 ∧
        ∃ x7 : Int, H.rd h0 (Addr.add (Addr.add a6 1) 0) (Value.int .i64 x7) ∧
        VIf (x5 == x7) (
          ∃ a8 : Addr, p0_r = some a8 ∧
          ([(Value.int .i64 (0 : Int)), (Value.int .i64 (0 : Int))]).length = 2 ∧ (Program.underlying Go.Proofs.Tryd.prog 81).isSome = true ∧
          H.wr h0 (Addr.add a8 5) ([(Value.int .i64 (0 : Int)), (Value.int .i64 (0 : Int))]) fun h9 =>
          VRet h9 (Value.tuple (List.toArray [(Value.bool true), (Value.int .i64 (-1 : Int)), Value.nilIface])) post) (
          (∃ h10, Gh h0 h10 ∧ R3 h10))) (
        VIf (x2 == (5 : Int)) (
          ∃ a11 : Addr, p0_r = some a11 ∧
          ∃ x12 : SV, H.rd h0 (Addr.add (Addr.add a11 0) 0) (Value.slice x12.a x12.len x12.cap) ∧
          ∃ a13 : Addr, p0_r = some a13 ∧
          ∃ x14 : Int, H.rd h0 (Addr.add (Addr.add a13 1) 0) (Value.int .i64 x14) ∧
          ∃ a15 : Addr, p0_r = some a15 ∧
          ∃ x16 : SV, H.rd h0 (Addr.add (Addr.add a15 0) 0) (Value.slice x16.a x16.len x16.cap) ∧
          ((x16.len : Nat) : Int) ≠ 0 ∧
          ∃ b17 : Addr, x12.a = some b17 ∧ 0 ≤ (Int.tmod x14 ((x16.len : Nat) : Int)) ∧ (Int.tmod x14 ((x16.len : Nat) : Int)) < ((x12.len : Nat) : Int) ∧
          ∃ x18 : Int, H.rd h0 (Addr.add (Addr.add b17 (((Int.tmod x14 ((x16.len : Nat) : Int))).toNat * 1)) 0) (Value.int .i64 x18) ∧
          ∃ a19 : Addr, p0_r = some a19 ∧
          H.wr h0 (Addr.add (Addr.add a19 5) 1) ([(Value.int .i64 x18)]) fun h20 =>
          (∃ h21, Gh h20 h21 ∧ R3 h21)) (
          VIf (x2 == (6 : Int)) (
            ∃ a22 : Addr, p0_r = some a22 ∧
            ∃ x23 : Int, H.rd h0 (Addr.add (Addr.add (Addr.add a22 5) 1) 0) (Value.int .i64 x23) ∧
            ∃ a24 : Addr, p0_r = some a24 ∧
            ∃ x25 : Int, H.rd h0 (Addr.add (Addr.add a24 1) 0) (Value.int .i64 x25) ∧
            In64 (x25 + (1 : Int)) ∧
            ∃ a26 : Addr, p0_r = some a26 ∧
            H.wr h0 (Addr.add a26 1) ([(Value.int .i64 (x25 + (1 : Int)))]) fun h27 =>
            ∃ a28 : Addr, p0_r = some a28 ∧
            ([(Value.int .i64 (0 : Int)), (Value.int .i64 (0 : Int))]).length = 2 ∧ (Program.underlying Go.Proofs.Tryd.prog 81).isSome = true ∧
            H.wr h27 (Addr.add a28 5) ([(Value.int .i64 (0 : Int)), (Value.int .i64 (0 : Int))]) fun h29 =>
            VRet h29 (Value.tuple (List.toArray [(Value.bool true), (Value.int .i64 x23), Value.nilIface])) post) (
            (∃ h30, Gh h0 h30 ∧ R3 h30))))) ∧
    ∀ (_ : F) (h31 : H), R3 h31 →
    ∃ a32 : Addr, p0_r = some a32 ∧
    ∃ x33 : Int, H.rd h31 (Addr.add (Addr.add (Addr.add a32 5) 0) 0) (Value.int .i64 x33) ∧
    In64 (x33 + (1 : Int)) ∧
    ∃ a34 : Addr, p0_r = some a34 ∧
    H.wr h31 (Addr.add (Addr.add a34 5) 0) ([(Value.int .i64 (x33 + (1 : Int)))]) fun h35 =>
    VRet h35 (Value.tuple (List.toArray [(Value.bool false), (Value.int .i64 (0 : Int)), Value.nilIface])) post)

def f11_hint : Hint := (.node .leaf (.node (.node .leaf (.node (.node .leaf (.node .leaf (.node .leaf (.join [] (.node .leaf (.node .leaf (.node (.tail 20) .leaf))))))) .leaf)) .leaf))

theorem f11_eq (p0_r : Option Addr) (h0 : H) (post : Value → H → Prop) : exec Tryd.prog (bodyOf Tryd.f11) f11_hint (retQ Tryd.prog Tryd.f11 post) (F0 [(Value.pointer p0_r)]) h0 = f11_sem p0_r h0 post := by kernel_rfl

set_option maxRecDepth 20000 in
theorem f11_call (p0_r : Option Addr) (h0 : H) (post : Value → H → Prop) (hx : f11_sem p0_r h0 post) : SemCall Tryd.prog 11 (List.toArray [(Value.pointer p0_r)]) h0 post :=
  sem_of_exec (g := f11_hint) mixed Tryd.func11 (bodyOf_eq (by kernel_rfl)) (by kernel_rfl) ((f11_eq p0_r h0 post).mpr hx)

/- (*latchgarth/ring.Ring).Get -/
def f12_sem (p0_r : Option Addr) (h0 : H) (post : Value → H → Prop) : Prop :=
  ∃ a1 : Addr, p0_r = some a1 ∧
  ∃ x2 : Int, H.rd h0 (Addr.add (Addr.add (Addr.add a1 5) 0) 0) (Value.int .i64 x2) ∧
  VIf (x2 != (0 : Int)) (
    VRet h0 (Value.iface 79 (Value.int .i64 (7 : Int))) post) (
    ∃ a3 : Addr, p0_r = some a3 ∧
    ([(Value.int .i64 (4 : Int)), (Value.int .i64 (0 : Int))]).length = 2 ∧ (Program.underlying Go.Proofs.Tryd.prog 81).isSome = true ∧
    H.wr h0 (Addr.add a3 5) ([(Value.int .i64 (4 : Int)), (Value.int .i64 (0 : Int))]) fun h4 =>
    VRet h4 Value.nilIface post)

def f12_hint : Hint := .leaf

theorem f12_eq (p0_r : Option Addr) (h0 : H) (post : Value → H → Prop) : exec Tryd.prog (bodyOf Tryd.f12) f12_hint (retQ Tryd.prog Tryd.f12 post) (F0 [(Value.pointer p0_r)]) h0 = f12_sem p0_r h0 post := by kernel_rfl

set_option maxRecDepth 20000 in
theorem f12_call (p0_r : Option Addr) (h0 : H) (post : Value → H → Prop) (hx : f12_sem p0_r h0 post) : SemCall Tryd.prog 12 (List.toArray [(Value.pointer p0_r)]) h0 post :=
  sem_of_exec (g := f12_hint) mixed Tryd.func12 (bodyOf_eq (by kernel_rfl)) (by kernel_rfl) ((f12_eq p0_r h0 post).mpr hx)

/- latchgarth/latchgarthlaw3.in -/
def f13_sem (p0_n : Int) (p1_low : Int) (p2_high : Int) (h0 : H) (post : Value → H → Prop) : Prop :=
  ∃ R1 : Bool → H → Prop, (
    VIf (decide (p0_n ≥ p1_low)) (
      (∃ h2, Gh h0 h2 ∧ R1 (decide (p0_n ≤ p2_high)) h2)) (
      (∃ h3, Gh h0 h3 ∧ R1 false h3))) ∧
  ∀ (_ : F) (x4 : Bool) (h5 : H), R1 x4 h5 →
  VRet h5 (Value.bool x4) post

def f13_hint : Hint := (.node .leaf (.node (.join [(6, .bool)] .leaf) .leaf))

theorem f13_eq (p0_n : Int) (p1_low : Int) (p2_high : Int) (h0 : H) (post : Value → H → Prop) : exec Tryd.prog (bodyOf Tryd.f13) f13_hint (retQ Tryd.prog Tryd.f13 post) (F0 [(Value.int .i64 p0_n), (Value.int .i64 p1_low), (Value.int .i64 p2_high)]) h0 = f13_sem p0_n p1_low p2_high h0 post := by kernel_rfl

set_option maxRecDepth 20000 in
theorem f13_call (p0_n : Int) (p1_low : Int) (p2_high : Int) (h0 : H) (post : Value → H → Prop) (hx : f13_sem p0_n p1_low p2_high h0 post) : SemCall Tryd.prog 13 (List.toArray [(Value.int .i64 p0_n), (Value.int .i64 p1_low), (Value.int .i64 p2_high)]) h0 post :=
  sem_of_exec (g := f13_hint) mixed Tryd.func13 (bodyOf_eq (by kernel_rfl)) (by kernel_rfl) ((f13_eq p0_n p1_low p2_high h0 post).mpr hx)

/- (*latchgarth/ring.Ring).Put -/
def f14_sem (p0_r : Option Addr) (p1_value : Int) (h0 : H) (post : Value → H → Prop) : Prop :=
  SemCall Go.Proofs.Tryd.prog 35 (List.toArray [(Value.int .i64 p1_value), (Value.int .i64 (0 : Int)), (Value.int .i64 (1000 : Int))]) h0 fun v1 h2 =>
  ∃ x3 : Bool, v1 = (Value.bool x3) ∧
  VIf (!x3) (
    VRet h2 (Value.iface 79 (Value.int .i64 (1 : Int))) post) (
    ∃ a4 : Addr, p0_r = some a4 ∧
    ∃ x5 : Int, H.rd h2 (Addr.add (Addr.add (Addr.add a4 3) 0) 0) (Value.int .i64 x5) ∧
    VIf (x5 != (0 : Int)) (
      VRet h2 (Value.iface 79 (Value.int .i64 (7 : Int))) post) (
      ∃ a6 : Addr, p0_r = some a6 ∧
      ([(Value.int .i64 (1 : Int)), (Value.int .i64 p1_value)]).length = 2 ∧ (Program.underlying Go.Proofs.Tryd.prog 81).isSome = true ∧
      H.wr h2 (Addr.add a6 3) ([(Value.int .i64 (1 : Int)), (Value.int .i64 p1_value)]) fun h7 =>
      VRet h7 Value.nilIface post))

def f14_hint : Hint := .leaf

theorem f14_eq (p0_r : Option Addr) (p1_value : Int) (h0 : H) (post : Value → H → Prop) : exec Tryd.prog (bodyOf Tryd.f14) f14_hint (retQ Tryd.prog Tryd.f14 post) (F0 [(Value.pointer p0_r), (Value.int .i64 p1_value)]) h0 = f14_sem p0_r p1_value h0 post := by kernel_rfl

set_option maxRecDepth 20000 in
theorem f14_call (p0_r : Option Addr) (p1_value : Int) (h0 : H) (post : Value → H → Prop) (hx : f14_sem p0_r p1_value h0 post) : SemCall Tryd.prog 14 (List.toArray [(Value.pointer p0_r), (Value.int .i64 p1_value)]) h0 post :=
  sem_of_exec (g := f14_hint) mixed Tryd.func14 (bodyOf_eq (by kernel_rfl)) (by kernel_rfl) ((f14_eq p0_r p1_value h0 post).mpr hx)

/- (*latchgarth/ring.Ring).Ends -/
def f15_sem (p0_r : Option Addr) (h0 : H) (post : Value → H → Prop) : Prop :=
  ∃ a1 : Addr, p0_r = some a1 ∧
  ∃ x2 : Int, H.rd h0 (Addr.add (Addr.add a1 1) 0) (Value.int .i64 x2) ∧
  ∃ a3 : Addr, p0_r = some a3 ∧
  ∃ x4 : Int, H.rd h0 (Addr.add (Addr.add a3 2) 0) (Value.int .i64 x4) ∧
  VRet h0 (Value.tuple (List.toArray [(Value.int .i64 x2), (Value.int .i64 x4)])) post

def f15_hint : Hint := .leaf

theorem f15_eq (p0_r : Option Addr) (h0 : H) (post : Value → H → Prop) : exec Tryd.prog (bodyOf Tryd.f15) f15_hint (retQ Tryd.prog Tryd.f15 post) (F0 [(Value.pointer p0_r)]) h0 = f15_sem p0_r h0 post := by kernel_rfl

set_option maxRecDepth 20000 in
theorem f15_call (p0_r : Option Addr) (h0 : H) (post : Value → H → Prop) (hx : f15_sem p0_r h0 post) : SemCall Tryd.prog 15 (List.toArray [(Value.pointer p0_r)]) h0 post :=
  sem_of_exec (g := f15_hint) mixed Tryd.func15 (bodyOf_eq (by kernel_rfl)) (by kernel_rfl) ((f15_eq p0_r h0 post).mpr hx)

/- latchgarth/latchgarthsame.Ints -/
def f16_L1 (p0_a : SV) (p1_b : SV) (post : Value → H → Prop) (R1 : H → Prop) (I2 : Nat → Int → H → Prop) (n3 : Nat) (x6_i : Int) (h7 : H) : Prop :=
  VIf (decide (x6_i < ((p0_a.len : Nat) : Int))) (
    ∃ b8 : Addr, p0_a.a = some b8 ∧ 0 ≤ x6_i ∧ x6_i < ((p0_a.len : Nat) : Int) ∧
    ∃ x9 : Int, H.rd h7 (Addr.add (Addr.add b8 ((x6_i).toNat * 1)) 0) (Value.int .i64 x9) ∧
    ∃ b10 : Addr, p1_b.a = some b10 ∧ 0 ≤ x6_i ∧ x6_i < ((p1_b.len : Nat) : Int) ∧
    ∃ x11 : Int, H.rd h7 (Addr.add (Addr.add b10 ((x6_i).toNat * 1)) 0) (Value.int .i64 x11) ∧
    VIf (x9 != x11) (
      VRet h7 (Value.bool false) post) (
      In64 (x6_i + (1 : Int)) ∧
      ∃ m4, m4 < n3 ∧ (∃ h12, Gh h7 h12 ∧ I2 m4 (x6_i + (1 : Int)) h12))) (
    (∃ h13, Gh h7 h13 ∧ R1 h13))

def f16_sem (p0_a : SV) (p1_b : SV) (h0 : H) (post : Value → H → Prop) : Prop :=
  VIf (((p0_a.len : Nat) : Int) != ((p1_b.len : Nat) : Int)) (
    VRet h0 (Value.bool false) post) (
    ∃ R1 : H → Prop, (
      ∃ I2 : Nat → Int → H → Prop, (∃ n3, (∃ h5, Gh h0 h5 ∧ I2 n3 (0 : Int) h5)) ∧
      ∀ (n3 : Nat) (_ : F) (x6_i : Int) (h7 : H), I2 n3 x6_i h7 →
      f16_L1 p0_a p1_b post R1 I2 n3 x6_i h7) ∧
    ∀ (_ : F) (h14 : H), R1 h14 →
    VRet h14 (Value.bool true) post)

def f16_hint : Hint := (.node .leaf (.node .leaf (.node (.node .leaf (.join [] (.node (.loop [(5, .int)] .leaf) .leaf))) .leaf)))

theorem f16_eq (p0_a : SV) (p1_b : SV) (h0 : H) (post : Value → H → Prop) : exec Tryd.prog (bodyOf Tryd.f16) f16_hint (retQ Tryd.prog Tryd.f16 post) (F0 [(Value.slice p0_a.a p0_a.len p0_a.cap), (Value.slice p1_b.a p1_b.len p1_b.cap)]) h0 = f16_sem p0_a p1_b h0 post := by kernel_rfl

set_option maxRecDepth 20000 in
theorem f16_call (p0_a : SV) (p1_b : SV) (h0 : H) (post : Value → H → Prop) (hx : f16_sem p0_a p1_b h0 post) : SemCall Tryd.prog 16 (List.toArray [(Value.slice p0_a.a p0_a.len p0_a.cap), (Value.slice p1_b.a p1_b.len p1_b.cap)]) h0 post :=
  sem_of_exec (g := f16_hint) mixed Tryd.func16 (bodyOf_eq (by kernel_rfl)) (by kernel_rfl) ((f16_eq p0_a p1_b h0 post).mpr hx)

/- (*latchgarth/ring.Ring).Places -/
def f17_sem (p0_r : Option Addr) (h0 : H) (post : Value → H → Prop) : Prop :=
  ∃ a1 : Addr, p0_r = some a1 ∧
  ∃ x2 : SV, H.rd h0 (Addr.add (Addr.add a1 0) 0) (Value.slice x2.a x2.len x2.cap) ∧
  SemCall Go.Proofs.Tryd.prog 38 (List.toArray [(Value.slice x2.a x2.len x2.cap)]) h0 fun v3 h4 =>
  ∃ x5 : SV, v3 = (Value.slice x5.a x5.len x5.cap) ∧
  VRet h4 (Value.slice x5.a x5.len x5.cap) post

def f17_hint : Hint := .leaf

theorem f17_eq (p0_r : Option Addr) (h0 : H) (post : Value → H → Prop) : exec Tryd.prog (bodyOf Tryd.f17) f17_hint (retQ Tryd.prog Tryd.f17 post) (F0 [(Value.pointer p0_r)]) h0 = f17_sem p0_r h0 post := by kernel_rfl

set_option maxRecDepth 20000 in
theorem f17_call (p0_r : Option Addr) (h0 : H) (post : Value → H → Prop) (hx : f17_sem p0_r h0 post) : SemCall Tryd.prog 17 (List.toArray [(Value.pointer p0_r)]) h0 post :=
  sem_of_exec (g := f17_hint) mixed Tryd.func17 (bodyOf_eq (by kernel_rfl)) (by kernel_rfl) ((f17_eq p0_r h0 post).mpr hx)

/- latchgarth/univ.New -/
def f18_sem (p0_n : Int) (h0 : H) (post : Value → H → Prop) : Prop :=
  SemCall Go.Proofs.Tryd.prog 39 (List.toArray [(Value.int .i64 p0_n)]) h0 fun v1 h2 =>
  ∃ x3 : Option (TypeId × Value), v1 = (errV x3) ∧
  isIfaceV (errV x3) = true ∧
  VIf (!(isNilV (errV x3))) (
    VRet h2 (Value.tuple (List.toArray [(Value.pointer none), (errV x3)])) post) (
    (
      0 ≤ (41 : Int) ∧ (41 : Int) ≤ (41 : Int) ∧ ((8 : Nat) : Int) * (41 : Int) ≤ 140737488355328 ∧ (41 : Int) ≤ 1000000000 ∧
      H.new h2 (repl ((41 : Int)).toNat [(Value.int .i64 (0 : Int))]) fun r4 h5 =>
      0 ≤ p0_n ∧ p0_n ≤ p0_n ∧ ((32 : Nat) : Int) * p0_n ≤ 140737488355328 ∧ p0_n ≤ 1000000000 ∧
      H.new h5 (repl (p0_n).toNat [(Value.int .i64 (0 : Int)), (Value.int .i64 (0 : Int)), (Value.int .i64 (0 : Int)), (Value.int .i64 (0 : Int))]) fun r6 h7 =>
      H.new h7 [(Value.slice (some (Addr.mk r4 0 none)) (((41 : Int)).toNat) (((41 : Int)).toNat)), (Value.slice none 0 0), (Value.slice (some (Addr.mk r6 0 none)) ((p0_n).toNat) ((p0_n).toNat))] fun r8 h9 =>
      VRet h9 (Value.tuple (List.toArray [(Value.pointer (some (Addr.mk r8 0 none))), Value.nilIface])) post) ∧
    (
      0 ≤ p0_n ∧ p0_n ≤ p0_n ∧ ((32 : Nat) : Int) * p0_n ≤ 140737488355328 ∧ p0_n ≤ 1000000000 ∧
      H.new h2 (repl (p0_n).toNat [(Value.int .i64 (0 : Int)), (Value.int .i64 (0 : Int)), (Value.int .i64 (0 : Int)), (Value.int .i64 (0 : Int))]) fun r10 h11 =>
      0 ≤ (41 : Int) ∧ (41 : Int) ≤ (41 : Int) ∧ ((8 : Nat) : Int) * (41 : Int) ≤ 140737488355328 ∧ (41 : Int) ≤ 1000000000 ∧
      H.new h11 (repl ((41 : Int)).toNat [(Value.int .i64 (0 : Int))]) fun r12 h13 =>
      H.new h13 [(Value.slice (some (Addr.mk r12 0 none)) (((41 : Int)).toNat) (((41 : Int)).toNat)), (Value.slice none 0 0), (Value.slice (some (Addr.mk r10 0 none)) ((p0_n).toNat) ((p0_n).toNat))] fun r14 h15 =>
      VRet h15 (Value.tuple (List.toArray [(Value.pointer (some (Addr.mk r14 0 none))), Value.nilIface])) post))

def f18_hint : Hint := (.node .leaf (.node .leaf (.node .any .leaf)))

theorem f18_eq (p0_n : Int) (h0 : H) (post : Value → H → Prop) : exec Tryd.prog (bodyOf Tryd.f18) f18_hint (retQ Tryd.prog Tryd.f18 post) (F0 [(Value.int .i64 p0_n)]) h0 = f18_sem p0_n h0 post := by kernel_rfl

set_option maxRecDepth 20000 in
theorem f18_call (p0_n : Int) (h0 : H) (post : Value → H → Prop) (hx : f18_sem p0_n h0 post) : SemCall Tryd.prog 18 (List.toArray [(Value.int .i64 p0_n)]) h0 post :=
  sem_of_exec (g := f18_hint) mixed Tryd.func18 (bodyOf_eq (by kernel_rfl)) (by kernel_rfl) ((f18_eq p0_n h0 post).mpr hx)

/- latchgarth/latchgarthref3.NewUniv -/
def f19_sem (p0_n : Int) (h0 : H) (post : Value → H → Prop) : Prop :=
  H.new h0 [(Value.slice none 0 0), (Value.slice none 0 0), (Value.slice none 0 0), (Value.slice none 0 0), (Value.slice none 0 0)] fun r1 h2 =>
  (
    0 ≤ p0_n ∧ p0_n ≤ p0_n ∧ ((8 : Nat) : Int) * p0_n ≤ 140737488355328 ∧ p0_n ≤ 1000000000 ∧
    H.new h2 (repl (p0_n).toNat [(Value.int .i64 (0 : Int))]) fun r3 h4 =>
    (
      0 ≤ p0_n ∧ p0_n ≤ p0_n ∧ ((8 : Nat) : Int) * p0_n ≤ 140737488355328 ∧ p0_n ≤ 1000000000 ∧
      H.new h4 (repl (p0_n).toNat [(Value.int .i64 (0 : Int))]) fun r5 h6 =>
      0 ≤ p0_n ∧ p0_n ≤ p0_n ∧ ((8 : Nat) : Int) * p0_n ≤ 140737488355328 ∧ p0_n ≤ 1000000000 ∧
      H.new h6 (repl (p0_n).toNat [(Value.int .i64 (0 : Int))]) fun r7 h8 =>
      ([(Value.slice none 0 0), (Value.slice none 0 0), (Value.slice (some (Addr.mk r3 0 none)) ((p0_n).toNat) ((p0_n).toNat)), (Value.slice (some (Addr.mk r5 0 none)) ((p0_n).toNat) ((p0_n).toNat)), (Value.slice (some (Addr.mk r7 0 none)) ((p0_n).toNat) ((p0_n).toNat))]).length = 5 ∧ (Program.underlying Go.Proofs.Tryd.prog 52).isSome = true ∧
      H.wr h8 (Addr.mk r1 0 none) ([(Value.slice none 0 0), (Value.slice none 0 0), (Value.slice (some (Addr.mk r3 0 none)) ((p0_n).toNat) ((p0_n).toNat)), (Value.slice (some (Addr.mk r5 0 none)) ((p0_n).toNat) ((p0_n).toNat)), (Value.slice (some (Addr.mk r7 0 none)) ((p0_n).toNat) ((p0_n).toNat))]) fun h9 =>
      ∃ x10 : SV, H.rd h9 (Addr.add (Addr.mk r1 0 none) 0) (Value.slice x10.a x10.len x10.cap) ∧
      ∃ x11 : SV, H.rd h9 (Addr.add (Addr.mk r1 0 none) 1) (Value.slice x11.a x11.len x11.cap) ∧
      ∃ x12 : SV, H.rd h9 (Addr.add (Addr.mk r1 0 none) 2) (Value.slice x12.a x12.len x12.cap) ∧
      ∃ x13 : SV, H.rd h9 (Addr.add (Addr.mk r1 0 none) 3) (Value.slice x13.a x13.len x13.cap) ∧
      ∃ x14 : SV, H.rd h9 (Addr.add (Addr.mk r1 0 none) 4) (Value.slice x14.a x14.len x14.cap) ∧
      VRet h9 (Value.agg (List.toArray [(Value.slice x10.a x10.len x10.cap), (Value.slice x11.a x11.len x11.cap), (Value.slice x12.a x12.len x12.cap), (Value.slice x13.a x13.len x13.cap), (Value.slice x14.a x14.len x14.cap)])) post) ∧
    (
      0 ≤ p0_n ∧ p0_n ≤ p0_n ∧ ((8 : Nat) : Int) * p0_n ≤ 140737488355328 ∧ p0_n ≤ 1000000000 ∧
      H.new h4 (repl (p0_n).toNat [(Value.int .i64 (0 : Int))]) fun r15 h16 =>
      0 ≤ p0_n ∧ p0_n ≤ p0_n ∧ ((8 : Nat) : Int) * p0_n ≤ 140737488355328 ∧ p0_n ≤ 1000000000 ∧
      H.new h16 (repl (p0_n).toNat [(Value.int .i64 (0 : Int))]) fun r17 h18 =>
      ([(Value.slice none 0 0), (Value.slice none 0 0), (Value.slice (some (Addr.mk r3 0 none)) ((p0_n).toNat) ((p0_n).toNat)), (Value.slice (some (Addr.mk r17 0 none)) ((p0_n).toNat) ((p0_n).toNat)), (Value.slice (some (Addr.mk r15 0 none)) ((p0_n).toNat) ((p0_n).toNat))]).length = 5 ∧ (Program.underlying Go.Proofs.Tryd.prog 52).isSome = true ∧
      H.wr h18 (Addr.mk r1 0 none) ([(Value.slice none 0 0), (Value.slice none 0 0), (Value.slice (some (Addr.mk r3 0 none)) ((p0_n).toNat) ((p0_n).toNat)), (Value.slice (some (Addr.mk r17 0 none)) ((p0_n).toNat) ((p0_n).toNat)), (Value.slice (some (Addr.mk r15 0 none)) ((p0_n).toNat) ((p0_n).toNat))]) fun h19 =>
      ∃ x20 : SV, H.rd h19 (Addr.add (Addr.mk r1 0 none) 0) (Value.slice x20.a x20.len x20.cap) ∧
      ∃ x21 : SV, H.rd h19 (Addr.add (Addr.mk r1 0 none) 1) (Value.slice x21.a x21.len x21.cap) ∧
      ∃ x22 : SV, H.rd h19 (Addr.add (Addr.mk r1 0 none) 2) (Value.slice x22.a x22.len x22.cap) ∧
      ∃ x23 : SV, H.rd h19 (Addr.add (Addr.mk r1 0 none) 3) (Value.slice x23.a x23.len x23.cap) ∧
      ∃ x24 : SV, H.rd h19 (Addr.add (Addr.mk r1 0 none) 4) (Value.slice x24.a x24.len x24.cap) ∧
      VRet h19 (Value.agg (List.toArray [(Value.slice x20.a x20.len x20.cap), (Value.slice x21.a x21.len x21.cap), (Value.slice x22.a x22.len x22.cap), (Value.slice x23.a x23.len x23.cap), (Value.slice x24.a x24.len x24.cap)])) post)) ∧
  (
    (
      0 ≤ p0_n ∧ p0_n ≤ p0_n ∧ ((8 : Nat) : Int) * p0_n ≤ 140737488355328 ∧ p0_n ≤ 1000000000 ∧
      H.new h2 (repl (p0_n).toNat [(Value.int .i64 (0 : Int))]) fun r25 h26 =>
      (
        0 ≤ p0_n ∧ p0_n ≤ p0_n ∧ ((8 : Nat) : Int) * p0_n ≤ 140737488355328 ∧ p0_n ≤ 1000000000 ∧
        H.new h26 (repl (p0_n).toNat [(Value.int .i64 (0 : Int))]) fun r27 h28 =>
        0 ≤ p0_n ∧ p0_n ≤ p0_n ∧ ((8 : Nat) : Int) * p0_n ≤ 140737488355328 ∧ p0_n ≤ 1000000000 ∧
        H.new h28 (repl (p0_n).toNat [(Value.int .i64 (0 : Int))]) fun r29 h30 =>
        ([(Value.slice none 0 0), (Value.slice none 0 0), (Value.slice (some (Addr.mk r27 0 none)) ((p0_n).toNat) ((p0_n).toNat)), (Value.slice (some (Addr.mk r25 0 none)) ((p0_n).toNat) ((p0_n).toNat)), (Value.slice (some (Addr.mk r29 0 none)) ((p0_n).toNat) ((p0_n).toNat))]).length = 5 ∧ (Program.underlying Go.Proofs.Tryd.prog 52).isSome = true ∧
        H.wr h30 (Addr.mk r1 0 none) ([(Value.slice none 0 0), (Value.slice none 0 0), (Value.slice (some (Addr.mk r27 0 none)) ((p0_n).toNat) ((p0_n).toNat)), (Value.slice (some (Addr.mk r25 0 none)) ((p0_n).toNat) ((p0_n).toNat)), (Value.slice (some (Addr.mk r29 0 none)) ((p0_n).toNat) ((p0_n).toNat))]) fun h31 =>
        ∃ x32 : SV, H.rd h31 (Addr.add (Addr.mk r1 0 none) 0) (Value.slice x32.a x32.len x32.cap) ∧
        ∃ x33 : SV, H.rd h31 (Addr.add (Addr.mk r1 0 none) 1) (Value.slice x33.a x33.len x33.cap) ∧
        ∃ x34 : SV, H.rd h31 (Addr.add (Addr.mk r1 0 none) 2) (Value.slice x34.a x34.len x34.cap) ∧
        ∃ x35 : SV, H.rd h31 (Addr.add (Addr.mk r1 0 none) 3) (Value.slice x35.a x35.len x35.cap) ∧
        ∃ x36 : SV, H.rd h31 (Addr.add (Addr.mk r1 0 none) 4) (Value.slice x36.a x36.len x36.cap) ∧
        VRet h31 (Value.agg (List.toArray [(Value.slice x32.a x32.len x32.cap), (Value.slice x33.a x33.len x33.cap), (Value.slice x34.a x34.len x34.cap), (Value.slice x35.a x35.len x35.cap), (Value.slice x36.a x36.len x36.cap)])) post) ∧
      (
        0 ≤ p0_n ∧ p0_n ≤ p0_n ∧ ((8 : Nat) : Int) * p0_n ≤ 140737488355328 ∧ p0_n ≤ 1000000000 ∧
        H.new h26 (repl (p0_n).toNat [(Value.int .i64 (0 : Int))]) fun r37 h38 =>
        0 ≤ p0_n ∧ p0_n ≤ p0_n ∧ ((8 : Nat) : Int) * p0_n ≤ 140737488355328 ∧ p0_n ≤ 1000000000 ∧
        H.new h38 (repl (p0_n).toNat [(Value.int .i64 (0 : Int))]) fun r39 h40 =>
        ([(Value.slice none 0 0), (Value.slice none 0 0), (Value.slice (some (Addr.mk r39 0 none)) ((p0_n).toNat) ((p0_n).toNat)), (Value.slice (some (Addr.mk r25 0 none)) ((p0_n).toNat) ((p0_n).toNat)), (Value.slice (some (Addr.mk r37 0 none)) ((p0_n).toNat) ((p0_n).toNat))]).length = 5 ∧ (Program.underlying Go.Proofs.Tryd.prog 52).isSome = true ∧
        H.wr h40 (Addr.mk r1 0 none) ([(Value.slice none 0 0), (Value.slice none 0 0), (Value.slice (some (Addr.mk r39 0 none)) ((p0_n).toNat) ((p0_n).toNat)), (Value.slice (some (Addr.mk r25 0 none)) ((p0_n).toNat) ((p0_n).toNat)), (Value.slice (some (Addr.mk r37 0 none)) ((p0_n).toNat) ((p0_n).toNat))]) fun h41 =>
        ∃ x42 : SV, H.rd h41 (Addr.add (Addr.mk r1 0 none) 0) (Value.slice x42.a x42.len x42.cap) ∧
        ∃ x43 : SV, H.rd h41 (Addr.add (Addr.mk r1 0 none) 1) (Value.slice x43.a x43.len x43.cap) ∧
        ∃ x44 : SV, H.rd h41 (Addr.add (Addr.mk r1 0 none) 2) (Value.slice x44.a x44.len x44.cap) ∧
        ∃ x45 : SV, H.rd h41 (Addr.add (Addr.mk r1 0 none) 3) (Value.slice x45.a x45.len x45.cap) ∧
        ∃ x46 : SV, H.rd h41 (Addr.add (Addr.mk r1 0 none) 4) (Value.slice x46.a x46.len x46.cap) ∧
        VRet h41 (Value.agg (List.toArray [(Value.slice x42.a x42.len x42.cap), (Value.slice x43.a x43.len x43.cap), (Value.slice x44.a x44.len x44.cap), (Value.slice x45.a x45.len x45.cap), (Value.slice x46.a x46.len x46.cap)])) post)) ∧
    (
      0 ≤ p0_n ∧ p0_n ≤ p0_n ∧ ((8 : Nat) : Int) * p0_n ≤ 140737488355328 ∧ p0_n ≤ 1000000000 ∧
      H.new h2 (repl (p0_n).toNat [(Value.int .i64 (0 : Int))]) fun r47 h48 =>
      (
        0 ≤ p0_n ∧ p0_n ≤ p0_n ∧ ((8 : Nat) : Int) * p0_n ≤ 140737488355328 ∧ p0_n ≤ 1000000000 ∧
        H.new h48 (repl (p0_n).toNat [(Value.int .i64 (0 : Int))]) fun r49 h50 =>
        0 ≤ p0_n ∧ p0_n ≤ p0_n ∧ ((8 : Nat) : Int) * p0_n ≤ 140737488355328 ∧ p0_n ≤ 1000000000 ∧
        H.new h50 (repl (p0_n).toNat [(Value.int .i64 (0 : Int))]) fun r51 h52 =>
        ([(Value.slice none 0 0), (Value.slice none 0 0), (Value.slice (some (Addr.mk r49 0 none)) ((p0_n).toNat) ((p0_n).toNat)), (Value.slice (some (Addr.mk r51 0 none)) ((p0_n).toNat) ((p0_n).toNat)), (Value.slice (some (Addr.mk r47 0 none)) ((p0_n).toNat) ((p0_n).toNat))]).length = 5 ∧ (Program.underlying Go.Proofs.Tryd.prog 52).isSome = true ∧
        H.wr h52 (Addr.mk r1 0 none) ([(Value.slice none 0 0), (Value.slice none 0 0), (Value.slice (some (Addr.mk r49 0 none)) ((p0_n).toNat) ((p0_n).toNat)), (Value.slice (some (Addr.mk r51 0 none)) ((p0_n).toNat) ((p0_n).toNat)), (Value.slice (some (Addr.mk r47 0 none)) ((p0_n).toNat) ((p0_n).toNat))]) fun h53 =>
        ∃ x54 : SV, H.rd h53 (Addr.add (Addr.mk r1 0 none) 0) (Value.slice x54.a x54.len x54.cap) ∧
        ∃ x55 : SV, H.rd h53 (Addr.add (Addr.mk r1 0 none) 1) (Value.slice x55.a x55.len x55.cap) ∧
        ∃ x56 : SV, H.rd h53 (Addr.add (Addr.mk r1 0 none) 2) (Value.slice x56.a x56.len x56.cap) ∧
        ∃ x57 : SV, H.rd h53 (Addr.add (Addr.mk r1 0 none) 3) (Value.slice x57.a x57.len x57.cap) ∧
        ∃ x58 : SV, H.rd h53 (Addr.add (Addr.mk r1 0 none) 4) (Value.slice x58.a x58.len x58.cap) ∧
        VRet h53 (Value.agg (List.toArray [(Value.slice x54.a x54.len x54.cap), (Value.slice x55.a x55.len x55.cap), (Value.slice x56.a x56.len x56.cap), (Value.slice x57.a x57.len x57.cap), (Value.slice x58.a x58.len x58.cap)])) post) ∧
      (
        0 ≤ p0_n ∧ p0_n ≤ p0_n ∧ ((8 : Nat) : Int) * p0_n ≤ 140737488355328 ∧ p0_n ≤ 1000000000 ∧
        H.new h48 (repl (p0_n).toNat [(Value.int .i64 (0 : Int))]) fun r59 h60 =>
        0 ≤ p0_n ∧ p0_n ≤ p0_n ∧ ((8 : Nat) : Int) * p0_n ≤ 140737488355328 ∧ p0_n ≤ 1000000000 ∧
        H.new h60 (repl (p0_n).toNat [(Value.int .i64 (0 : Int))]) fun r61 h62 =>
        ([(Value.slice none 0 0), (Value.slice none 0 0), (Value.slice (some (Addr.mk r61 0 none)) ((p0_n).toNat) ((p0_n).toNat)), (Value.slice (some (Addr.mk r59 0 none)) ((p0_n).toNat) ((p0_n).toNat)), (Value.slice (some (Addr.mk r47 0 none)) ((p0_n).toNat) ((p0_n).toNat))]).length = 5 ∧ (Program.underlying Go.Proofs.Tryd.prog 52).isSome = true ∧
        H.wr h62 (Addr.mk r1 0 none) ([(Value.slice none 0 0), (Value.slice none 0 0), (Value.slice (some (Addr.mk r61 0 none)) ((p0_n).toNat) ((p0_n).toNat)), (Value.slice (some (Addr.mk r59 0 none)) ((p0_n).toNat) ((p0_n).toNat)), (Value.slice (some (Addr.mk r47 0 none)) ((p0_n).toNat) ((p0_n).toNat))]) fun h63 =>
        ∃ x64 : SV, H.rd h63 (Addr.add (Addr.mk r1 0 none) 0) (Value.slice x64.a x64.len x64.cap) ∧
        ∃ x65 : SV, H.rd h63 (Addr.add (Addr.mk r1 0 none) 1) (Value.slice x65.a x65.len x65.cap) ∧
        ∃ x66 : SV, H.rd h63 (Addr.add (Addr.mk r1 0 none) 2) (Value.slice x66.a x66.len x66.cap) ∧
        ∃ x67 : SV, H.rd h63 (Addr.add (Addr.mk r1 0 none) 3) (Value.slice x67.a x67.len x67.cap) ∧
        ∃ x68 : SV, H.rd h63 (Addr.add (Addr.mk r1 0 none) 4) (Value.slice x68.a x68.len x68.cap) ∧
        VRet h63 (Value.agg (List.toArray [(Value.slice x64.a x64.len x64.cap), (Value.slice x65.a x65.len x65.cap), (Value.slice x66.a x66.len x66.cap), (Value.slice x67.a x67.len x67.cap), (Value.slice x68.a x68.len x68.cap)])) post)))

def f19_hint : Hint := (.node .leaf (.node .any .leaf))

theorem f19_eq (p0_n : Int) (h0 : H) (post : Value → H → Prop) : exec Tryd.prog (bodyOf Tryd.f19) f19_hint (retQ Tryd.prog Tryd.f19 post) (F0 [(Value.int .i64 p0_n)]) h0 = f19_sem p0_n h0 post := by kernel_rfl

set_option maxRecDepth 20000 in
theorem f19_call (p0_n : Int) (h0 : H) (post : Value → H → Prop) (hx : f19_sem p0_n h0 post) : SemCall Tryd.prog 19 (List.toArray [(Value.int .i64 p0_n)]) h0 post :=
  sem_of_exec (g := f19_hint) mixed Tryd.func19 (bodyOf_eq (by kernel_rfl)) (by kernel_rfl) ((f19_eq p0_n h0 post).mpr hx)

/- latchgarth/latchgarthref3.BeginUniv -/
def f20_J1 (p1_p : Int) (p2_add : Int) (post : Value → H → Prop) (r1 : Nat) (r3 : Nat) (x15 : Bool) (h16 : H) : Prop :=
  VIf x15 (
    ∃ x17 : SV, H.rd h16 (Addr.add (Addr.mk r1 0 none) 0) (Value.slice x17.a x17.len x17.cap) ∧
    ∃ x18 : SV, H.rd h16 (Addr.add (Addr.mk r1 0 none) 1) (Value.slice x18.a x18.len x18.cap) ∧
    ∃ x19 : SV, H.rd h16 (Addr.add (Addr.mk r1 0 none) 2) (Value.slice x19.a x19.len x19.cap) ∧
    ∃ x20 : SV, H.rd h16 (Addr.add (Addr.mk r1 0 none) 3) (Value.slice x20.a x20.len x20.cap) ∧
    ∃ x21 : SV, H.rd h16 (Addr.add (Addr.mk r1 0 none) 4) (Value.slice x21.a x21.len x21.cap) ∧
    ([(Value.slice x17.a x17.len x17.cap), (Value.slice x18.a x18.len x18.cap), (Value.slice x19.a x19.len x19.cap), (Value.slice x20.a x20.len x20.cap), (Value.slice x21.a x21.len x21.cap)]).length = 5 ∧ (Program.underlying Go.Proofs.Tryd.prog 52).isSome = true ∧
    H.wr h16 (Addr.mk r3 0 none) ([(Value.slice x17.a x17.len x17.cap), (Value.slice x18.a x18.len x18.cap), (Value.slice x19.a x19.len x19.cap), (Value.slice x20.a x20.len x20.cap), (Value.slice x21.a x21.len x21.cap)]) fun h22 =>
    ∃ x23 : SV, H.rd h22 (Addr.add (Addr.mk r3 0 none) 0) (Value.slice x23.a x23.len x23.cap) ∧
    ∃ x24 : SV, H.rd h22 (Addr.add (Addr.mk r3 0 none) 1) (Value.slice x24.a x24.len x24.cap) ∧
    ∃ x25 : SV, H.rd h22 (Addr.add (Addr.mk r3 0 none) 2) (Value.slice x25.a x25.len x25.cap) ∧
    ∃ x26 : SV, H.rd h22 (Addr.add (Addr.mk r3 0 none) 3) (Value.slice x26.a x26.len x26.cap) ∧
    ∃ x27 : SV, H.rd h22 (Addr.add (Addr.mk r3 0 none) 4) (Value.slice x27.a x27.len x27.cap) ∧
    VRet h22 (Value.tuple (List.toArray [(Value.agg (List.toArray [(Value.slice x23.a x23.len x23.cap), (Value.slice x24.a x24.len x24.cap), (Value.slice x25.a x25.len x25.cap), (Value.slice x26.a x26.len x26.cap), (Value.slice x27.a x27.len x27.cap)])), (Value.int .i64 (1 : Int))])) post) (
    ∃ x28 : SV, H.rd h16 (Addr.add (Addr.add (Addr.mk r1 0 none) 2) 0) (Value.slice x28.a x28.len x28.cap) ∧
    ∃ b29 : Addr, x28.a = some b29 ∧ 0 ≤ p1_p ∧ p1_p < ((x28.len : Nat) : Int) ∧
    ∃ x30 : Int, H.rd h16 (Addr.add (Addr.add b29 ((p1_p).toNat * 1)) 0) (Value.int .i64 x30) ∧
    VIf (x30 != (0 : Int)) (
      ∃ x31 : SV, H.rd h16 (Addr.add (Addr.mk r1 0 none) 0) (Value.slice x31.a x31.len x31.cap) ∧
      ∃ x32 : SV, H.rd h16 (Addr.add (Addr.mk r1 0 none) 1) (Value.slice x32.a x32.len x32.cap) ∧
      ∃ x33 : SV, H.rd h16 (Addr.add (Addr.mk r1 0 none) 2) (Value.slice x33.a x33.len x33.cap) ∧
      ∃ x34 : SV, H.rd h16 (Addr.add (Addr.mk r1 0 none) 3) (Value.slice x34.a x34.len x34.cap) ∧
      ∃ x35 : SV, H.rd h16 (Addr.add (Addr.mk r1 0 none) 4) (Value.slice x35.a x35.len x35.cap) ∧
      ([(Value.slice x31.a x31.len x31.cap), (Value.slice x32.a x32.len x32.cap), (Value.slice x33.a x33.len x33.cap), (Value.slice x34.a x34.len x34.cap), (Value.slice x35.a x35.len x35.cap)]).length = 5 ∧ (Program.underlying Go.Proofs.Tryd.prog 52).isSome = true ∧
      H.wr h16 (Addr.mk r3 0 none) ([(Value.slice x31.a x31.len x31.cap), (Value.slice x32.a x32.len x32.cap), (Value.slice x33.a x33.len x33.cap), (Value.slice x34.a x34.len x34.cap), (Value.slice x35.a x35.len x35.cap)]) fun h36 =>
      ∃ x37 : SV, H.rd h36 (Addr.add (Addr.mk r3 0 none) 0) (Value.slice x37.a x37.len x37.cap) ∧
      ∃ x38 : SV, H.rd h36 (Addr.add (Addr.mk r3 0 none) 1) (Value.slice x38.a x38.len x38.cap) ∧
      ∃ x39 : SV, H.rd h36 (Addr.add (Addr.mk r3 0 none) 2) (Value.slice x39.a x39.len x39.cap) ∧
      ∃ x40 : SV, H.rd h36 (Addr.add (Addr.mk r3 0 none) 3) (Value.slice x40.a x40.len x40.cap) ∧
      ∃ x41 : SV, H.rd h36 (Addr.add (Addr.mk r3 0 none) 4) (Value.slice x41.a x41.len x41.cap) ∧
      VRet h36 (Value.tuple (List.toArray [(Value.agg (List.toArray [(Value.slice x37.a x37.len x37.cap), (Value.slice x38.a x38.len x38.cap), (Value.slice x39.a x39.len x39.cap), (Value.slice x40.a x40.len x40.cap), (Value.slice x41.a x41.len x41.cap)])), (Value.int .i64 (7 : Int))])) post) (
      ∃ x42 : SV, H.rd h16 (Addr.add (Addr.add (Addr.mk r1 0 none) 0) 0) (Value.slice x42.a x42.len x42.cap) ∧
      VIf (decide (((x42.len : Nat) : Int) ≥ (40 : Int))) (
        ∃ x43 : SV, H.rd h16 (Addr.add (Addr.mk r1 0 none) 0) (Value.slice x43.a x43.len x43.cap) ∧
        ∃ x44 : SV, H.rd h16 (Addr.add (Addr.mk r1 0 none) 1) (Value.slice x44.a x44.len x44.cap) ∧
        ∃ x45 : SV, H.rd h16 (Addr.add (Addr.mk r1 0 none) 2) (Value.slice x45.a x45.len x45.cap) ∧
        ∃ x46 : SV, H.rd h16 (Addr.add (Addr.mk r1 0 none) 3) (Value.slice x46.a x46.len x46.cap) ∧
        ∃ x47 : SV, H.rd h16 (Addr.add (Addr.mk r1 0 none) 4) (Value.slice x47.a x47.len x47.cap) ∧
        ([(Value.slice x43.a x43.len x43.cap), (Value.slice x44.a x44.len x44.cap), (Value.slice x45.a x45.len x45.cap), (Value.slice x46.a x46.len x46.cap), (Value.slice x47.a x47.len x47.cap)]).length = 5 ∧ (Program.underlying Go.Proofs.Tryd.prog 52).isSome = true ∧
        H.wr h16 (Addr.mk r3 0 none) ([(Value.slice x43.a x43.len x43.cap), (Value.slice x44.a x44.len x44.cap), (Value.slice x45.a x45.len x45.cap), (Value.slice x46.a x46.len x46.cap), (Value.slice x47.a x47.len x47.cap)]) fun h48 =>
        ∃ x49 : SV, H.rd h48 (Addr.add (Addr.mk r3 0 none) 0) (Value.slice x49.a x49.len x49.cap) ∧
        ∃ x50 : SV, H.rd h48 (Addr.add (Addr.mk r3 0 none) 1) (Value.slice x50.a x50.len x50.cap) ∧
        ∃ x51 : SV, H.rd h48 (Addr.add (Addr.mk r3 0 none) 2) (Value.slice x51.a x51.len x51.cap) ∧
        ∃ x52 : SV, H.rd h48 (Addr.add (Addr.mk r3 0 none) 3) (Value.slice x52.a x52.len x52.cap) ∧
        ∃ x53 : SV, H.rd h48 (Addr.add (Addr.mk r3 0 none) 4) (Value.slice x53.a x53.len x53.cap) ∧
        VRet h48 (Value.tuple (List.toArray [(Value.agg (List.toArray [(Value.slice x49.a x49.len x49.cap), (Value.slice x50.a x50.len x50.cap), (Value.slice x51.a x51.len x51.cap), (Value.slice x52.a x52.len x52.cap), (Value.slice x53.a x53.len x53.cap)])), (Value.int .i64 (4 : Int))])) post) (
        ∃ x54 : SV, H.rd h16 (Addr.add (Addr.add (Addr.mk r1 0 none) 3) 0) (Value.slice x54.a x54.len x54.cap) ∧
        ∃ x55 : SV, H.rd h16 (Addr.add (Addr.add (Addr.mk r1 0 none) 0) 0) (Value.slice x55.a x55.len x55.cap) ∧
        SemCall Go.Proofs.Tryd.prog 37 (List.toArray [(Value.slice x54.a x54.len x54.cap), (Value.int .i64 p1_p), (Value.int .i64 ((x55.len : Nat) : Int))]) h16 fun v56 h57 =>
        ∃ x58 : SV, v56 = (Value.slice x58.a x58.len x58.cap) ∧
        H.wr h57 (Addr.add (Addr.mk r1 0 none) 3) ([(Value.slice x58.a x58.len x58.cap)]) fun h59 =>
        ∃ x60 : SV, H.rd h59 (Addr.add (Addr.add (Addr.mk r1 0 none) 0) 0) (Value.slice x60.a x60.len x60.cap) ∧
        SemCall Go.Proofs.Tryd.prog 41 (List.toArray [(Value.slice x60.a x60.len x60.cap), (Value.int .i64 p2_add)]) h59 fun v61 h62 =>
        ∃ x63 : SV, v61 = (Value.slice x63.a x63.len x63.cap) ∧
        H.wr h62 (Addr.add (Addr.mk r1 0 none) 0) ([(Value.slice x63.a x63.len x63.cap)]) fun h64 =>
        ∃ x65 : SV, H.rd h64 (Addr.add (Addr.add (Addr.mk r1 0 none) 2) 0) (Value.slice x65.a x65.len x65.cap) ∧
        SemCall Go.Proofs.Tryd.prog 37 (List.toArray [(Value.slice x65.a x65.len x65.cap), (Value.int .i64 p1_p), (Value.int .i64 (1 : Int))]) h64 fun v66 h67 =>
        ∃ x68 : SV, v66 = (Value.slice x68.a x68.len x68.cap) ∧
        H.wr h67 (Addr.add (Addr.mk r1 0 none) 2) ([(Value.slice x68.a x68.len x68.cap)]) fun h69 =>
        ∃ x70 : SV, H.rd h69 (Addr.add (Addr.add (Addr.mk r1 0 none) 4) 0) (Value.slice x70.a x70.len x70.cap) ∧
        SemCall Go.Proofs.Tryd.prog 37 (List.toArray [(Value.slice x70.a x70.len x70.cap), (Value.int .i64 p1_p), (Value.int .i64 (0 : Int))]) h69 fun v71 h72 =>
        ∃ x73 : SV, v71 = (Value.slice x73.a x73.len x73.cap) ∧
        H.wr h72 (Addr.add (Addr.mk r1 0 none) 4) ([(Value.slice x73.a x73.len x73.cap)]) fun h74 =>
        ∃ x75 : SV, H.rd h74 (Addr.add (Addr.mk r1 0 none) 0) (Value.slice x75.a x75.len x75.cap) ∧
        ∃ x76 : SV, H.rd h74 (Addr.add (Addr.mk r1 0 none) 1) (Value.slice x76.a x76.len x76.cap) ∧
        ∃ x77 : SV, H.rd h74 (Addr.add (Addr.mk r1 0 none) 2) (Value.slice x77.a x77.len x77.cap) ∧
        ∃ x78 : SV, H.rd h74 (Addr.add (Addr.mk r1 0 none) 3) (Value.slice x78.a x78.len x78.cap) ∧
        ∃ x79 : SV, H.rd h74 (Addr.add (Addr.mk r1 0 none) 4) (Value.slice x79.a x79.len x79.cap) ∧
        ([(Value.slice x75.a x75.len x75.cap), (Value.slice x76.a x76.len x76.cap), (Value.slice x77.a x77.len x77.cap), (Value.slice x78.a x78.len x78.cap), (Value.slice x79.a x79.len x79.cap)]).length = 5 ∧ (Program.underlying Go.Proofs.Tryd.prog 52).isSome = true ∧
        H.wr h74 (Addr.mk r3 0 none) ([(Value.slice x75.a x75.len x75.cap), (Value.slice x76.a x76.len x76.cap), (Value.slice x77.a x77.len x77.cap), (Value.slice x78.a x78.len x78.cap), (Value.slice x79.a x79.len x79.cap)]) fun h80 =>
        ∃ x81 : SV, H.rd h80 (Addr.add (Addr.mk r3 0 none) 0) (Value.slice x81.a x81.len x81.cap) ∧
        ∃ x82 : SV, H.rd h80 (Addr.add (Addr.mk r3 0 none) 1) (Value.slice x82.a x82.len x82.cap) ∧
        ∃ x83 : SV, H.rd h80 (Addr.add (Addr.mk r3 0 none) 2) (Value.slice x83.a x83.len x83.cap) ∧
        ∃ x84 : SV, H.rd h80 (Addr.add (Addr.mk r3 0 none) 3) (Value.slice x84.a x84.len x84.cap) ∧
        ∃ x85 : SV, H.rd h80 (Addr.add (Addr.mk r3 0 none) 4) (Value.slice x85.a x85.len x85.cap) ∧
        VRet h80 (Value.tuple (List.toArray [(Value.agg (List.toArray [(Value.slice x81.a x81.len x81.cap), (Value.slice x82.a x82.len x82.cap), (Value.slice x83.a x83.len x83.cap), (Value.slice x84.a x84.len x84.cap), (Value.slice x85.a x85.len x85.cap)])), (Value.int .i64 (0 : Int))])) post)))

def f20_sem (p0_0_u : SV) (p0_1_u : SV) (p0_2_u : SV) (p0_3_u : SV) (p0_4_u : SV) (p1_p : Int) (p2_add : Int) (h0 : H) (post : Value → H → Prop) : Prop :=
  H.new h0 [(Value.slice p0_0_u.a p0_0_u.len p0_0_u.cap), (Value.slice p0_1_u.a p0_1_u.len p0_1_u.cap), (Value.slice p0_2_u.a p0_2_u.len p0_2_u.cap), (Value.slice p0_3_u.a p0_3_u.len p0_3_u.cap), (Value.slice p0_4_u.a p0_4_u.len p0_4_u.cap)] fun r1 h2 =>
  H.new h2 [(Value.slice none 0 0), (Value.slice none 0 0), (Value.slice none 0 0), (Value.slice none 0 0), (Value.slice none 0 0)] fun r3 h4 =>
  ∃ R5 : Bool → H → Prop, (
    ∃ x6 : SV, H.rd h4 (Addr.add (Addr.add (Addr.mk r1 0 none) 2) 0) (Value.slice x6.a x6.len x6.cap) ∧
    In64 (((x6.len : Nat) : Int) - (1 : Int)) ∧
    SemCall Go.Proofs.Tryd.prog 40 (List.toArray [(Value.int .i64 p1_p), (Value.int .i64 (0 : Int)), (Value.int .i64 (((x6.len : Nat) : Int) - (1 : Int)))]) h4 fun v7 h8 =>
    ∃ x9 : Bool, v7 = (Value.bool x9) ∧
    VIf (!x9) (
      (∃ h10, Gh h8 h10 ∧ R5 true h10)) (
      SemCall Go.Proofs.Tryd.prog 40 (List.toArray [(Value.int .i64 p2_add), (Value.int .i64 (0 : Int)), (Value.int .i64 (1000 : Int))]) h8 fun v11 h12 =>
      ∃ x13 : Bool, v11 = (Value.bool x13) ∧
      (∃ h14, Gh h12 h14 ∧ R5 (!x13) h14))) ∧
  ∀ (_ : F) (x15 : Bool) (h16 : H), R5 x15 h16 →
  f20_J1 p1_p p2_add post r1 r3 x15 h16

def f20_hint : Hint := (.node .leaf (.node (.node (.join [(19, .bool)] .leaf) .leaf) .leaf))

theorem f20_eq (p0_0_u : SV) (p0_1_u : SV) (p0_2_u : SV) (p0_3_u : SV) (p0_4_u : SV) (p1_p : Int) (p2_add : Int) (h0 : H) (post : Value → H → Prop) : exec Tryd.prog (bodyOf Tryd.f20) f20_hint (retQ Tryd.prog Tryd.f20 post) (F0 [(Value.agg (List.toArray [(Value.slice p0_0_u.a p0_0_u.len p0_0_u.cap), (Value.slice p0_1_u.a p0_1_u.len p0_1_u.cap), (Value.slice p0_2_u.a p0_2_u.len p0_2_u.cap), (Value.slice p0_3_u.a p0_3_u.len p0_3_u.cap), (Value.slice p0_4_u.a p0_4_u.len p0_4_u.cap)])), (Value.int .i64 p1_p), (Value.int .i64 p2_add)]) h0 = f20_sem p0_0_u p0_1_u p0_2_u p0_3_u p0_4_u p1_p p2_add h0 post := by kernel_rfl

set_option maxRecDepth 20000 in
theorem f20_call (p0_0_u : SV) (p0_1_u : SV) (p0_2_u : SV) (p0_3_u : SV) (p0_4_u : SV) (p1_p : Int) (p2_add : Int) (h0 : H) (post : Value → H → Prop) (hx : f20_sem p0_0_u p0_1_u p0_2_u p0_3_u p0_4_u p1_p p2_add h0 post) : SemCall Tryd.prog 20 (List.toArray [(Value.agg (List.toArray [(Value.slice p0_0_u.a p0_0_u.len p0_0_u.cap), (Value.slice p0_1_u.a p0_1_u.len p0_1_u.cap), (Value.slice p0_2_u.a p0_2_u.len p0_2_u.cap), (Value.slice p0_3_u.a p0_3_u.len p0_3_u.cap), (Value.slice p0_4_u.a p0_4_u.len p0_4_u.cap)])), (Value.int .i64 p1_p), (Value.int .i64 p2_add)]) h0 post :=
  sem_of_exec (g := f20_hint) mixed Tryd.func20 (bodyOf_eq (by kernel_rfl)) (by kernel_rfl) ((f20_eq p0_0_u p0_1_u p0_2_u p0_3_u p0_4_u p1_p p2_add h0 post).mpr hx)

/- (*latchgarth/univ.Row).Begin -/
def f21_J1 (p0_r : Option Addr) (p1_p : Int) (p2_add : Int) (post : Value → H → Prop) (x12 : Bool) (h13 : H) : Prop :=
  VIf x12 (
    VRet h13 (Value.iface 79 (Value.int .i64 (1 : Int))) post) (
    ∃ a14 : Addr, p0_r = some a14 ∧
    ∃ x15 : SV, H.rd h13 (Addr.add (Addr.add a14 2) 0) (Value.slice x15.a x15.len x15.cap) ∧
    ∃ b16 : Addr, x15.a = some b16 ∧ 0 ≤ p1_p ∧ p1_p < ((x15.len : Nat) : Int) ∧
    ∃ x17 : Int, H.rd h13 (Addr.add (Addr.add (Addr.add b16 ((p1_p).toNat * 4)) 0) 0) (Value.int .i64 x17) ∧
    VIf (x17 != (0 : Int)) (
      VRet h13 (Value.iface 79 (Value.int .i64 (7 : Int))) post) (
      ∃ a18 : Addr, p0_r = some a18 ∧
      ∃ x19 : SV, H.rd h13 (Addr.add (Addr.add a18 1) 0) (Value.slice x19.a x19.len x19.cap) ∧
      VIf (((x19.len : Nat) : Int) == (40 : Int)) (
        VRet h13 (Value.iface 79 (Value.int .i64 (4 : Int))) post) (
        ∃ a20 : Addr, p0_r = some a20 ∧
        ∃ x21 : SV, H.rd h13 (Addr.add (Addr.add a20 1) 0) (Value.slice x21.a x21.len x21.cap) ∧
        H.new h13 [(Value.int .i64 p1_p), (Value.int .i64 p2_add)] fun r22 h23 =>
        appVC Go.Proofs.Tryd.prog 88 (Value.slice x21.a x21.len x21.cap) (Value.slice (some (Addr.mk r22 0 none)) 1 1) h23 fun x24 h25 =>
        ∃ a26 : Addr, p0_r = some a26 ∧
        H.wr h25 (Addr.add a26 1) ([(Value.slice x24.a x24.len x24.cap)]) fun h27 =>
        ∃ a28 : Addr, p0_r = some a28 ∧
        ∃ x29 : SV, H.rd h27 (Addr.add (Addr.add a28 2) 0) (Value.slice x29.a x29.len x29.cap) ∧
        ∃ a30 : Addr, p0_r = some a30 ∧
        ∃ x31 : SV, H.rd h27 (Addr.add (Addr.add a30 1) 0) (Value.slice x31.a x31.len x31.cap) ∧
        ∃ b32 : Addr, x29.a = some b32 ∧ 0 ≤ p1_p ∧ p1_p < ((x29.len : Nat) : Int) ∧
        ([(Value.int .i64 (1 : Int)), (Value.int .i64 ((x31.len : Nat) : Int)), (Value.int .i64 (0 : Int)), (Value.int .i64 (0 : Int))]).length = 4 ∧ (Program.underlying Go.Proofs.Tryd.prog 93).isSome = true ∧
        H.wr h27 (Addr.add b32 ((p1_p).toNat * 4)) ([(Value.int .i64 (1 : Int)), (Value.int .i64 ((x31.len : Nat) : Int)), (Value.int .i64 (0 : Int)), (Value.int .i64 (0 : Int))]) fun h33 =>
        VRet h33 Value.nilIface post)))

def f21_sem (p0_r : Option Addr) (p1_p : Int) (p2_add : Int) (h0 : H) (post : Value → H → Prop) : Prop :=
  ∃ R1 : Bool → H → Prop, (
    ∃ a2 : Addr, p0_r = some a2 ∧
    ∃ x3 : SV, H.rd h0 (Addr.add (Addr.add a2 2) 0) (Value.slice x3.a x3.len x3.cap) ∧
    In64 (((x3.len : Nat) : Int) - (1 : Int)) ∧
    SemCall Go.Proofs.Tryd.prog 35 (List.toArray [(Value.int .i64 p1_p), (Value.int .i64 (0 : Int)), (Value.int .i64 (((x3.len : Nat) : Int) - (1 : Int)))]) h0 fun v4 h5 =>
    ∃ x6 : Bool, v4 = (Value.bool x6) ∧
    VIf (!x6) (
      (∃ h7, Gh h5 h7 ∧ R1 true h7)) (
      SemCall Go.Proofs.Tryd.prog 35 (List.toArray [(Value.int .i64 p2_add), (Value.int .i64 (0 : Int)), (Value.int .i64 (1000 : Int))]) h5 fun v8 h9 =>
      ∃ x10 : Bool, v8 = (Value.bool x10) ∧
      (∃ h11, Gh h9 h11 ∧ R1 (!x10) h11))) ∧
  ∀ (_ : F) (x12 : Bool) (h13 : H), R1 x12 h13 →
  f21_J1 p0_r p1_p p2_add post x12 h13

def f21_hint : Hint := (.node .leaf (.node (.node (.join [(20, .bool)] .leaf) .leaf) (.node .leaf (.node .leaf (.node .leaf (.node (.tail 12) .leaf))))))

theorem f21_eq (p0_r : Option Addr) (p1_p : Int) (p2_add : Int) (h0 : H) (post : Value → H → Prop) : exec Tryd.prog (bodyOf Tryd.f21) f21_hint (retQ Tryd.prog Tryd.f21 post) (F0 [(Value.pointer p0_r), (Value.int .i64 p1_p), (Value.int .i64 p2_add)]) h0 = f21_sem p0_r p1_p p2_add h0 post := by kernel_rfl

set_option maxRecDepth 20000 in
theorem f21_call (p0_r : Option Addr) (p1_p : Int) (p2_add : Int) (h0 : H) (post : Value → H → Prop) (hx : f21_sem p0_r p1_p p2_add h0 post) : SemCall Tryd.prog 21 (List.toArray [(Value.pointer p0_r), (Value.int .i64 p1_p), (Value.int .i64 p2_add)]) h0 post :=
  sem_of_exec (g := f21_hint) mixed Tryd.func21 (bodyOf_eq (by kernel_rfl)) (by kernel_rfl) ((f21_eq p0_r p1_p p2_add h0 post).mpr hx)

/- latchgarth/latchgarthref3.StepUniv -/
def f22_J1 (p1_p : Int) (post : Value → H → Prop) (r1 : Nat) (r3 : Nat) (h52 : H) : Prop :=
  ∃ x53 : SV, H.rd h52 (Addr.add (Addr.add (Addr.mk r1 0 none) 2) 0) (Value.slice x53.a x53.len x53.cap) ∧
  SemCall Go.Proofs.Tryd.prog 37 (List.toArray [(Value.slice x53.a x53.len x53.cap), (Value.int .i64 p1_p), (Value.int .i64 (2 : Int))]) h52 fun v54 h55 =>
  ∃ x56 : SV, v54 = (Value.slice x56.a x56.len x56.cap) ∧
  H.wr h55 (Addr.add (Addr.mk r1 0 none) 2) ([(Value.slice x56.a x56.len x56.cap)]) fun h57 =>
  ∃ x58 : SV, H.rd h57 (Addr.add (Addr.mk r1 0 none) 0) (Value.slice x58.a x58.len x58.cap) ∧
  ∃ x59 : SV, H.rd h57 (Addr.add (Addr.mk r1 0 none) 1) (Value.slice x59.a x59.len x59.cap) ∧
  ∃ x60 : SV, H.rd h57 (Addr.add (Addr.mk r1 0 none) 2) (Value.slice x60.a x60.len x60.cap) ∧
  ∃ x61 : SV, H.rd h57 (Addr.add (Addr.mk r1 0 none) 3) (Value.slice x61.a x61.len x61.cap) ∧
  ∃ x62 : SV, H.rd h57 (Addr.add (Addr.mk r1 0 none) 4) (Value.slice x62.a x62.len x62.cap) ∧
  ([(Value.slice x58.a x58.len x58.cap), (Value.slice x59.a x59.len x59.cap), (Value.slice x60.a x60.len x60.cap), (Value.slice x61.a x61.len x61.cap), (Value.slice x62.a x62.len x62.cap)]).length = 5 ∧ (Program.underlying Go.Proofs.Tryd.prog 52).isSome = true ∧
  H.wr h57 (Addr.mk r3 0 none) ([(Value.slice x58.a x58.len x58.cap), (Value.slice x59.a x59.len x59.cap), (Value.slice x60.a x60.len x60.cap), (Value.slice x61.a x61.len x61.cap), (Value.slice x62.a x62.len x62.cap)]) fun h63 =>
  ∃ x64 : SV, H.rd h63 (Addr.add (Addr.mk r3 0 none) 0) (Value.slice x64.a x64.len x64.cap) ∧
  ∃ x65 : SV, H.rd h63 (Addr.add (Addr.mk r3 0 none) 1) (Value.slice x65.a x65.len x65.cap) ∧
  ∃ x66 : SV, H.rd h63 (Addr.add (Addr.mk r3 0 none) 2) (Value.slice x66.a x66.len x66.cap) ∧
  ∃ x67 : SV, H.rd h63 (Addr.add (Addr.mk r3 0 none) 3) (Value.slice x67.a x67.len x67.cap) ∧
  ∃ x68 : SV, H.rd h63 (Addr.add (Addr.mk r3 0 none) 4) (Value.slice x68.a x68.len x68.cap) ∧
  VRet h63 (Value.tuple (List.toArray [(Value.agg (List.toArray [(Value.slice x64.a x64.len x64.cap), (Value.slice x65.a x65.len x65.cap), (Value.slice x66.a x66.len x66.cap), (Value.slice x67.a x67.len x67.cap), (Value.slice x68.a x68.len x68.cap)])), (Value.bool false), (Value.int .i64 (0 : Int)), (Value.int .i64 (0 : Int))])) post

def f22_sem (p0_0_u : SV) (p0_1_u : SV) (p0_2_u : SV) (p0_3_u : SV) (p0_4_u : SV) (p1_p : Int) (h0 : H) (post : Value → H → Prop) : Prop :=
  H.new h0 [(Value.slice p0_0_u.a p0_0_u.len p0_0_u.cap), (Value.slice p0_1_u.a p0_1_u.len p0_1_u.cap), (Value.slice p0_2_u.a p0_2_u.len p0_2_u.cap), (Value.slice p0_3_u.a p0_3_u.len p0_3_u.cap), (Value.slice p0_4_u.a p0_4_u.len p0_4_u.cap)] fun r1 h2 =>
  H.new h2 [(Value.slice none 0 0), (Value.slice none 0 0), (Value.slice none 0 0), (Value.slice none 0 0), (Value.slice none 0 0)] fun r3 h4 =>
  ∃ x5 : SV, H.rd h4 (Addr.add (Addr.add (Addr.mk r1 0 none) 2) 0) (Value.slice x5.a x5.len x5.cap) ∧
  In64 (((x5.len : Nat) : Int) - (1 : Int)) ∧
  SemCall Go.Proofs.Tryd.prog 40 (List.toArray [(Value.int .i64 p1_p), (Value.int .i64 (0 : Int)), (Value.int .i64 (((x5.len : Nat) : Int) - (1 : Int)))]) h4 fun v6 h7 =>
  ∃ x8 : Bool, v6 = (Value.bool x8) ∧
  VIf (!x8) (
    ∃ x9 : SV, H.rd h7 (Addr.add (Addr.mk r1 0 none) 0) (Value.slice x9.a x9.len x9.cap) ∧
    ∃ x10 : SV, H.rd h7 (Addr.add (Addr.mk r1 0 none) 1) (Value.slice x10.a x10.len x10.cap) ∧
    ∃ x11 : SV, H.rd h7 (Addr.add (Addr.mk r1 0 none) 2) (Value.slice x11.a x11.len x11.cap) ∧
    ∃ x12 : SV, H.rd h7 (Addr.add (Addr.mk r1 0 none) 3) (Value.slice x12.a x12.len x12.cap) ∧
    ∃ x13 : SV, H.rd h7 (Addr.add (Addr.mk r1 0 none) 4) (Value.slice x13.a x13.len x13.cap) ∧
    ([(Value.slice x9.a x9.len x9.cap), (Value.slice x10.a x10.len x10.cap), (Value.slice x11.a x11.len x11.cap), (Value.slice x12.a x12.len x12.cap), (Value.slice x13.a x13.len x13.cap)]).length = 5 ∧ (Program.underlying Go.Proofs.Tryd.prog 52).isSome = true ∧
    H.wr h7 (Addr.mk r3 0 none) ([(Value.slice x9.a x9.len x9.cap), (Value.slice x10.a x10.len x10.cap), (Value.slice x11.a x11.len x11.cap), (Value.slice x12.a x12.len x12.cap), (Value.slice x13.a x13.len x13.cap)]) fun h14 =>
    ∃ x15 : SV, H.rd h14 (Addr.add (Addr.mk r3 0 none) 0) (Value.slice x15.a x15.len x15.cap) ∧
    ∃ x16 : SV, H.rd h14 (Addr.add (Addr.mk r3 0 none) 1) (Value.slice x16.a x16.len x16.cap) ∧
    ∃ x17 : SV, H.rd h14 (Addr.add (Addr.mk r3 0 none) 2) (Value.slice x17.a x17.len x17.cap) ∧
    ∃ x18 : SV, H.rd h14 (Addr.add (Addr.mk r3 0 none) 3) (Value.slice x18.a x18.len x18.cap) ∧
    ∃ x19 : SV, H.rd h14 (Addr.add (Addr.mk r3 0 none) 4) (Value.slice x19.a x19.len x19.cap) ∧
    VRet h14 (Value.tuple (List.toArray [(Value.agg (List.toArray [(Value.slice x15.a x15.len x15.cap), (Value.slice x16.a x16.len x16.cap), (Value.slice x17.a x17.len x17.cap), (Value.slice x18.a x18.len x18.cap), (Value.slice x19.a x19.len x19.cap)])), (Value.bool false), (Value.int .i64 (0 : Int)), (Value.int .i64 (1 : Int))])) post) (
    ∃ x20 : SV, H.rd h7 (Addr.add (Addr.add (Addr.mk r1 0 none) 2) 0) (Value.slice x20.a x20.len x20.cap) ∧
    ∃ b21 : Addr, x20.a = some b21 ∧ 0 ≤ p1_p ∧ p1_p < ((x20.len : Nat) : Int) ∧
    ∃ x22 : Int, H.rd h7 (Addr.add (Addr.add b21 ((p1_p).toNat * 1)) 0) (Value.int .i64 x22) ∧
    VIf (x22 == (0 : Int)) (
      ∃ x23 : SV, H.rd h7 (Addr.add (Addr.mk r1 0 none) 0) (Value.slice x23.a x23.len x23.cap) ∧
      ∃ x24 : SV, H.rd h7 (Addr.add (Addr.mk r1 0 none) 1) (Value.slice x24.a x24.len x24.cap) ∧
      ∃ x25 : SV, H.rd h7 (Addr.add (Addr.mk r1 0 none) 2) (Value.slice x25.a x25.len x25.cap) ∧
      ∃ x26 : SV, H.rd h7 (Addr.add (Addr.mk r1 0 none) 3) (Value.slice x26.a x26.len x26.cap) ∧
      ∃ x27 : SV, H.rd h7 (Addr.add (Addr.mk r1 0 none) 4) (Value.slice x27.a x27.len x27.cap) ∧
      ([(Value.slice x23.a x23.len x23.cap), (Value.slice x24.a x24.len x24.cap), (Value.slice x25.a x25.len x25.cap), (Value.slice x26.a x26.len x26.cap), (Value.slice x27.a x27.len x27.cap)]).length = 5 ∧ (Program.underlying Go.Proofs.Tryd.prog 52).isSome = true ∧
      H.wr h7 (Addr.mk r3 0 none) ([(Value.slice x23.a x23.len x23.cap), (Value.slice x24.a x24.len x24.cap), (Value.slice x25.a x25.len x25.cap), (Value.slice x26.a x26.len x26.cap), (Value.slice x27.a x27.len x27.cap)]) fun h28 =>
      ∃ x29 : SV, H.rd h28 (Addr.add (Addr.mk r3 0 none) 0) (Value.slice x29.a x29.len x29.cap) ∧
      ∃ x30 : SV, H.rd h28 (Addr.add (Addr.mk r3 0 none) 1) (Value.slice x30.a x30.len x30.cap) ∧
      ∃ x31 : SV, H.rd h28 (Addr.add (Addr.mk r3 0 none) 2) (Value.slice x31.a x31.len x31.cap) ∧
      ∃ x32 : SV, H.rd h28 (Addr.add (Addr.mk r3 0 none) 3) (Value.slice x32.a x32.len x32.cap) ∧
      ∃ x33 : SV, H.rd h28 (Addr.add (Addr.mk r3 0 none) 4) (Value.slice x33.a x33.len x33.cap) ∧
      VRet h28 (Value.tuple (List.toArray [(Value.agg (List.toArray [(Value.slice x29.a x29.len x29.cap), (Value.slice x30.a x30.len x30.cap), (Value.slice x31.a x31.len x31.cap), (Value.slice x32.a x32.len x32.cap), (Value.slice x33.a x33.len x33.cap)])), (Value.bool false), (Value.int .i64 (0 : Int)), (Value.int .i64 (7 : Int))])) post) (
      ∃ x34 : SV, H.rd h7 (Addr.add (Addr.add (Addr.mk r1 0 none) 4) 0) (Value.slice x34.a x34.len x34.cap) ∧
      ∃ b35 : Addr, x34.a = some b35 ∧ 0 ≤ p1_p ∧ p1_p < ((x34.len : Nat) : Int) ∧
      ∃ x36 : Int, H.rd h7 (Addr.add (Addr.add b35 ((p1_p).toNat * 1)) 0) (Value.int .i64 x36) ∧
      ∃ x37 : SV, H.rd h7 (Addr.add (Addr.add (Addr.mk r1 0 none) 2) 0) (Value.slice x37.a x37.len x37.cap) ∧
      ∃ b38 : Addr, x37.a = some b38 ∧ 0 ≤ p1_p ∧ p1_p < ((x37.len : Nat) : Int) ∧
      ∃ x39 : Int, H.rd h7 (Addr.add (Addr.add b38 ((p1_p).toNat * 1)) 0) (Value.int .i64 x39) ∧
      VIf (x39 == (1 : Int)) (
        ∃ x40 : SV, H.rd h7 (Addr.add (Addr.add (Addr.mk r1 0 none) 1) 0) (Value.slice x40.a x40.len x40.cap) ∧
        ∃ R41 : H → Prop, (
          VIf (x36 == ((x40.len : Nat) : Int)) (
            ∃ x42 : SV, H.rd h7 (Addr.add (Addr.add (Addr.mk r1 0 none) 1) 0) (Value.slice x42.a x42.len x42.cap) ∧
            ∃ x43 : SV, H.rd h7 (Addr.add (Addr.add (Addr.mk r1 0 none) 3) 0) (Value.slice x43.a x43.len x43.cap) ∧
            ∃ b44 : Addr, x43.a = some b44 ∧ 0 ≤ p1_p ∧ p1_p < ((x43.len : Nat) : Int) ∧
            ∃ x45 : Int, H.rd h7 (Addr.add (Addr.add b44 ((p1_p).toNat * 1)) 0) (Value.int .i64 x45) ∧
            SemCall Go.Proofs.Tryd.prog 41 (List.toArray [(Value.slice x42.a x42.len x42.cap), (Value.int .i64 x45)]) h7 fun v46 h47 =>
            ∃ x48 : SV, v46 = (Value.slice x48.a x48.len x48.cap) ∧
            H.wr h47 (Addr.add (Addr.mk r1 0 none) 1) ([(Value.slice x48.a x48.len x48.cap)]) fun h49 =>
            (∃ h50, Gh h49 h50 ∧ R41 h50)) (
            (∃ h51, Gh h7 h51 ∧ R41 h51))) ∧
        ∀ (_ : F) (h52 : H), R41 h52 →
        f22_J1 p1_p post r1 r3 h52) (
        ∃ x69 : SV, H.rd h7 (Addr.add (Addr.add (Addr.mk r1 0 none) 1) 0) (Value.slice x69.a x69.len x69.cap) ∧
        ∃ b70 : Addr, x69.a = some b70 ∧ 0 ≤ x36 ∧ x36 < ((x69.len : Nat) : Int) ∧
        ∃ x71 : Int, H.rd h7 (Addr.add (Addr.add b70 ((x36).toNat * 1)) 0) (Value.int .i64 x71) ∧
        ∃ x72 : SV, H.rd h7 (Addr.add (Addr.add (Addr.mk r1 0 none) 3) 0) (Value.slice x72.a x72.len x72.cap) ∧
        ∃ b73 : Addr, x72.a = some b73 ∧ 0 ≤ p1_p ∧ p1_p < ((x72.len : Nat) : Int) ∧
        ∃ x74 : Int, H.rd h7 (Addr.add (Addr.add b73 ((p1_p).toNat * 1)) 0) (Value.int .i64 x74) ∧
        VIf (x71 == x74) (
          ∃ x75 : SV, H.rd h7 (Addr.add (Addr.add (Addr.mk r1 0 none) 2) 0) (Value.slice x75.a x75.len x75.cap) ∧
          SemCall Go.Proofs.Tryd.prog 37 (List.toArray [(Value.slice x75.a x75.len x75.cap), (Value.int .i64 p1_p), (Value.int .i64 (0 : Int))]) h7 fun v76 h77 =>
          ∃ x78 : SV, v76 = (Value.slice x78.a x78.len x78.cap) ∧
          H.wr h77 (Addr.add (Addr.mk r1 0 none) 2) ([(Value.slice x78.a x78.len x78.cap)]) fun h79 =>
          ∃ R80 : Bool → Int → Int → H → Prop, (
            (
              ∃ x81 : SV, H.rd h79 (Addr.add (Addr.mk r1 0 none) 0) (Value.slice x81.a x81.len x81.cap) ∧
              ∃ x82 : SV, H.rd h79 (Addr.add (Addr.mk r1 0 none) 1) (Value.slice x82.a x82.len x82.cap) ∧
              ∃ x83 : SV, H.rd h79 (Addr.add (Addr.mk r1 0 none) 2) (Value.slice x83.a x83.len x83.cap) ∧
              ∃ x84 : SV, H.rd h79 (Addr.add (Addr.mk r1 0 none) 3) (Value.slice x84.a x84.len x84.cap) ∧
              ∃ x85 : SV, H.rd h79 (Addr.add (Addr.mk r1 0 none) 4) (Value.slice x85.a x85.len x85.cap) ∧
              ∃ x86 : SV, H.rd h79 (Addr.add (Addr.mk r1 0 none) 0) (Value.slice x86.a x86.len x86.cap) ∧
              ∃ x87 : SV, H.rd h79 (Addr.add (Addr.mk r1 0 none) 1) (Value.slice x87.a x87.len x87.cap) ∧
              ∃ x88 : SV, H.rd h79 (Addr.add (Addr.mk r1 0 none) 2) (Value.slice x88.a x88.len x88.cap) ∧
              ∃ x89 : SV, H.rd h79 (Addr.add (Addr.mk r1 0 none) 3) (Value.slice x89.a x89.len x89.cap) ∧
              ∃ x90 : SV, H.rd h79 (Addr.add (Addr.mk r1 0 none) 4) (Value.slice x90.a x90.len x90.cap) ∧
              SemCall Go.Proofs.Tryd.prog 42 (List.toArray [(Value.agg (List.toArray [(Value.slice x86.a x86.len x86.cap), (Value.slice x87.a x87.len x87.cap), (Value.slice x88.a x88.len x88.cap), (Value.slice x89.a x89.len x89.cap), (Value.slice x90.a x90.len x90.cap)])), (Value.int .i64 x36)]) h79 fun v91 h92 =>
              ∃ x93 : Int, v91 = (Value.int .i64 x93) ∧
              ([(Value.slice x81.a x81.len x81.cap), (Value.slice x82.a x82.len x82.cap), (Value.slice x83.a x83.len x83.cap), (Value.slice x84.a x84.len x84.cap), (Value.slice x85.a x85.len x85.cap)]).length = 5 ∧ (Program.underlying Go.Proofs.Tryd.prog 52).isSome = true ∧
              H.wr h92 (Addr.mk r3 0 none) ([(Value.slice x81.a x81.len x81.cap), (Value.slice x82.a x82.len x82.cap), (Value.slice x83.a x83.len x83.cap), (Value.slice x84.a x84.len x84.cap), (Value.slice x85.a x85.len x85.cap)]) fun h94 =>
              (∃ h95, Gh h94 h95 ∧ R80 true x93 (0 : Int) h95)) ∧
            (
              ∃ x96 : SV, H.rd h79 (Addr.add (Addr.mk r1 0 none) 0) (Value.slice x96.a x96.len x96.cap) ∧
              ∃ x97 : SV, H.rd h79 (Addr.add (Addr.mk r1 0 none) 1) (Value.slice x97.a x97.len x97.cap) ∧
              ∃ x98 : SV, H.rd h79 (Addr.add (Addr.mk r1 0 none) 2) (Value.slice x98.a x98.len x98.cap) ∧
              ∃ x99 : SV, H.rd h79 (Addr.add (Addr.mk r1 0 none) 3) (Value.slice x99.a x99.len x99.cap) ∧
              ∃ x100 : SV, H.rd h79 (Addr.add (Addr.mk r1 0 none) 4) (Value.slice x100.a x100.len x100.cap) ∧
              (
                ∃ x101 : SV, H.rd h79 (Addr.add (Addr.mk r1 0 none) 0) (Value.slice x101.a x101.len x101.cap) ∧
                ∃ x102 : SV, H.rd h79 (Addr.add (Addr.mk r1 0 none) 1) (Value.slice x102.a x102.len x102.cap) ∧
                ∃ x103 : SV, H.rd h79 (Addr.add (Addr.mk r1 0 none) 2) (Value.slice x103.a x103.len x103.cap) ∧
                ∃ x104 : SV, H.rd h79 (Addr.add (Addr.mk r1 0 none) 3) (Value.slice x104.a x104.len x104.cap) ∧
                ∃ x105 : SV, H.rd h79 (Addr.add (Addr.mk r1 0 none) 4) (Value.slice x105.a x105.len x105.cap) ∧
                SemCall Go.Proofs.Tryd.prog 42 (List.toArray [(Value.agg (List.toArray [(Value.slice x96.a x96.len x96.cap), (Value.slice x97.a x97.len x97.cap), (Value.slice x98.a x98.len x98.cap), (Value.slice x99.a x99.len x99.cap), (Value.slice x100.a x100.len x100.cap)])), (Value.int .i64 x36)]) h79 fun v106 h107 =>
                ∃ x108 : Int, v106 = (Value.int .i64 x108) ∧
                ([(Value.slice x101.a x101.len x101.cap), (Value.slice x102.a x102.len x102.cap), (Value.slice x103.a x103.len x103.cap), (Value.slice x104.a x104.len x104.cap), (Value.slice x105.a x105.len x105.cap)]).length = 5 ∧ (Program.underlying Go.Proofs.Tryd.prog 52).isSome = true ∧
                H.wr h107 (Addr.mk r3 0 none) ([(Value.slice x101.a x101.len x101.cap), (Value.slice x102.a x102.len x102.cap), (Value.slice x103.a x103.len x103.cap), (Value.slice x104.a x104.len x104.cap), (Value.slice x105.a x105.len x105.cap)]) fun h109 =>
                (∃ h110, Gh h109 h110 ∧ R80 true x108 (0 : Int) h110)) ∧
              (
                SemCall Go.Proofs.Tryd.prog 42 (List.toArray [(Value.agg (List.toArray [(Value.slice x96.a x96.len x96.cap), (Value.slice x97.a x97.len x97.cap), (Value.slice x98.a x98.len x98.cap), (Value.slice x99.a x99.len x99.cap), (Value.slice x100.a x100.len x100.cap)])), (Value.int .i64 x36)]) h79 fun v111 h112 =>
                ∃ x113 : Int, v111 = (Value.int .i64 x113) ∧
                ∃ x114 : SV, H.rd h112 (Addr.add (Addr.mk r1 0 none) 0) (Value.slice x114.a x114.len x114.cap) ∧
                ∃ x115 : SV, H.rd h112 (Addr.add (Addr.mk r1 0 none) 1) (Value.slice x115.a x115.len x115.cap) ∧
                ∃ x116 : SV, H.rd h112 (Addr.add (Addr.mk r1 0 none) 2) (Value.slice x116.a x116.len x116.cap) ∧
                ∃ x117 : SV, H.rd h112 (Addr.add (Addr.mk r1 0 none) 3) (Value.slice x117.a x117.len x117.cap) ∧
                ∃ x118 : SV, H.rd h112 (Addr.add (Addr.mk r1 0 none) 4) (Value.slice x118.a x118.len x118.cap) ∧
                ([(Value.slice x114.a x114.len x114.cap), (Value.slice x115.a x115.len x115.cap), (Value.slice x116.a x116.len x116.cap), (Value.slice x117.a x117.len x117.cap), (Value.slice x118.a x118.len x118.cap)]).length = 5 ∧ (Program.underlying Go.Proofs.Tryd.prog 52).isSome = true ∧
                H.wr h112 (Addr.mk r3 0 none) ([(Value.slice x114.a x114.len x114.cap), (Value.slice x115.a x115.len x115.cap), (Value.slice x116.a x116.len x116.cap), (Value.slice x117.a x117.len x117.cap), (Value.slice x118.a x118.len x118.cap)]) fun h119 =>
                (∃ h120, Gh h119 h120 ∧ R80 true x113 (0 : Int) h120)))) ∧
          ∀ (_ : F) (x121 : Bool) (x122 : Int) (x123 : Int) (h124 : H), R80 x121 x122 x123 h124 →
          ∃ x125 : SV, H.rd h124 (Addr.add (Addr.mk r3 0 none) 0) (Value.slice x125.a x125.len x125.cap) ∧
          ∃ x126 : SV, H.rd h124 (Addr.add (Addr.mk r3 0 none) 1) (Value.slice x126.a x126.len x126.cap) ∧
          ∃ x127 : SV, H.rd h124 (Addr.add (Addr.mk r3 0 none) 2) (Value.slice x127.a x127.len x127.cap) ∧
          ∃ x128 : SV, H.rd h124 (Addr.add (Addr.mk r3 0 none) 3) (Value.slice x128.a x128.len x128.cap) ∧
          ∃ x129 : SV, H.rd h124 (Addr.add (Addr.mk r3 0 none) 4) (Value.slice x129.a x129.len x129.cap) ∧
          VRet h124 (Value.tuple (List.toArray [(Value.agg (List.toArray [(Value.slice x125.a x125.len x125.cap), (Value.slice x126.a x126.len x126.cap), (Value.slice x127.a x127.len x127.cap), (Value.slice x128.a x128.len x128.cap), (Value.slice x129.a x129.len x129.cap)])), (Value.bool x121), (Value.int .i64 x122), (Value.int .i64 x123)])) post) (
          ∃ x130 : SV, H.rd h7 (Addr.add (Addr.add (Addr.mk r1 0 none) 4) 0) (Value.slice x130.a x130.len x130.cap) ∧
          In64 (x36 + (1 : Int)) ∧
          SemCall Go.Proofs.Tryd.prog 37 (List.toArray [(Value.slice x130.a x130.len x130.cap), (Value.int .i64 p1_p), (Value.int .i64 (x36 + (1 : Int)))]) h7 fun v131 h132 =>
          ∃ x133 : SV, v131 = (Value.slice x133.a x133.len x133.cap) ∧
          H.wr h132 (Addr.add (Addr.mk r1 0 none) 4) ([(Value.slice x133.a x133.len x133.cap)]) fun h134 =>
          ∃ x135 : SV, H.rd h134 (Addr.add (Addr.add (Addr.mk r1 0 none) 2) 0) (Value.slice x135.a x135.len x135.cap) ∧
          SemCall Go.Proofs.Tryd.prog 37 (List.toArray [(Value.slice x135.a x135.len x135.cap), (Value.int .i64 p1_p), (Value.int .i64 (1 : Int))]) h134 fun v136 h137 =>
          ∃ x138 : SV, v136 = (Value.slice x138.a x138.len x138.cap) ∧
          H.wr h137 (Addr.add (Addr.mk r1 0 none) 2) ([(Value.slice x138.a x138.len x138.cap)]) fun h139 =>
          ∃ x140 : SV, H.rd h139 (Addr.add (Addr.mk r1 0 none) 0) (Value.slice x140.a x140.len x140.cap) ∧
          ∃ x141 : SV, H.rd h139 (Addr.add (Addr.mk r1 0 none) 1) (Value.slice x141.a x141.len x141.cap) ∧
          ∃ x142 : SV, H.rd h139 (Addr.add (Addr.mk r1 0 none) 2) (Value.slice x142.a x142.len x142.cap) ∧
          ∃ x143 : SV, H.rd h139 (Addr.add (Addr.mk r1 0 none) 3) (Value.slice x143.a x143.len x143.cap) ∧
          ∃ x144 : SV, H.rd h139 (Addr.add (Addr.mk r1 0 none) 4) (Value.slice x144.a x144.len x144.cap) ∧
          ([(Value.slice x140.a x140.len x140.cap), (Value.slice x141.a x141.len x141.cap), (Value.slice x142.a x142.len x142.cap), (Value.slice x143.a x143.len x143.cap), (Value.slice x144.a x144.len x144.cap)]).length = 5 ∧ (Program.underlying Go.Proofs.Tryd.prog 52).isSome = true ∧
          H.wr h139 (Addr.mk r3 0 none) ([(Value.slice x140.a x140.len x140.cap), (Value.slice x141.a x141.len x141.cap), (Value.slice x142.a x142.len x142.cap), (Value.slice x143.a x143.len x143.cap), (Value.slice x144.a x144.len x144.cap)]) fun h145 =>
          ∃ x146 : SV, H.rd h145 (Addr.add (Addr.mk r3 0 none) 0) (Value.slice x146.a x146.len x146.cap) ∧
          ∃ x147 : SV, H.rd h145 (Addr.add (Addr.mk r3 0 none) 1) (Value.slice x147.a x147.len x147.cap) ∧
          ∃ x148 : SV, H.rd h145 (Addr.add (Addr.mk r3 0 none) 2) (Value.slice x148.a x148.len x148.cap) ∧
          ∃ x149 : SV, H.rd h145 (Addr.add (Addr.mk r3 0 none) 3) (Value.slice x149.a x149.len x149.cap) ∧
          ∃ x150 : SV, H.rd h145 (Addr.add (Addr.mk r3 0 none) 4) (Value.slice x150.a x150.len x150.cap) ∧
          VRet h145 (Value.tuple (List.toArray [(Value.agg (List.toArray [(Value.slice x146.a x146.len x146.cap), (Value.slice x147.a x147.len x147.cap), (Value.slice x148.a x148.len x148.cap), (Value.slice x149.a x149.len x149.cap), (Value.slice x150.a x150.len x150.cap)])), (Value.bool false), (Value.int .i64 (0 : Int)), (Value.int .i64 (0 : Int))])) post))))

def f22_hint : Hint := (.node .leaf (.node .leaf (.node .leaf (.node .leaf (.node (.node .leaf (.node (.node (.node .leaf (.join [] (.node (.tail 7) .leaf))) .leaf) .leaf)) (.node (.node .leaf (.node (.node .leaf (.node (.join [(5, .bool), (6, .int), (7, .int)] .any) .leaf)) .leaf)) .leaf))))))

theorem f22_eq (p0_0_u : SV) (p0_1_u : SV) (p0_2_u : SV) (p0_3_u : SV) (p0_4_u : SV) (p1_p : Int) (h0 : H) (post : Value → H → Prop) : exec Tryd.prog (bodyOf Tryd.f22) f22_hint (retQ Tryd.prog Tryd.f22 post) (F0 [(Value.agg (List.toArray [(Value.slice p0_0_u.a p0_0_u.len p0_0_u.cap), (Value.slice p0_1_u.a p0_1_u.len p0_1_u.cap), (Value.slice p0_2_u.a p0_2_u.len p0_2_u.cap), (Value.slice p0_3_u.a p0_3_u.len p0_3_u.cap), (Value.slice p0_4_u.a p0_4_u.len p0_4_u.cap)])), (Value.int .i64 p1_p)]) h0 = f22_sem p0_0_u p0_1_u p0_2_u p0_3_u p0_4_u p1_p h0 post := by kernel_rfl

set_option maxRecDepth 20000 in
theorem f22_call (p0_0_u : SV) (p0_1_u : SV) (p0_2_u : SV) (p0_3_u : SV) (p0_4_u : SV) (p1_p : Int) (h0 : H) (post : Value → H → Prop) (hx : f22_sem p0_0_u p0_1_u p0_2_u p0_3_u p0_4_u p1_p h0 post) : SemCall Tryd.prog 22 (List.toArray [(Value.agg (List.toArray [(Value.slice p0_0_u.a p0_0_u.len p0_0_u.cap), (Value.slice p0_1_u.a p0_1_u.len p0_1_u.cap), (Value.slice p0_2_u.a p0_2_u.len p0_2_u.cap), (Value.slice p0_3_u.a p0_3_u.len p0_3_u.cap), (Value.slice p0_4_u.a p0_4_u.len p0_4_u.cap)])), (Value.int .i64 p1_p)]) h0 post :=
  sem_of_exec (g := f22_hint) mixed Tryd.func22 (bodyOf_eq (by kernel_rfl)) (by kernel_rfl) ((f22_eq p0_0_u p0_1_u p0_2_u p0_3_u p0_4_u p1_p h0 post).mpr hx)

/- (*latchgarth/univ.Row).Step -/
def f23_sem (p0_r : Option Addr) (p1_p : Int) (h0 : H) (post : Value → H → Prop) : Prop :=
  ∃ a1 : Addr, p0_r = some a1 ∧
  ∃ x2 : SV, H.rd h0 (Addr.add (Addr.add a1 2) 0) (Value.slice x2.a x2.len x2.cap) ∧
  In64 (((x2.len : Nat) : Int) - (1 : Int)) ∧
  SemCall Go.Proofs.Tryd.prog 35 (List.toArray [(Value.int .i64 p1_p), (Value.int .i64 (0 : Int)), (Value.int .i64 (((x2.len : Nat) : Int) - (1 : Int)))]) h0 fun v3 h4 =>
  ∃ x5 : Bool, v3 = (Value.bool x5) ∧
  VIf (!x5) (
    VRet h4 (Value.tuple (List.toArray [(Value.bool false), (Value.int .i64 (0 : Int)), (Value.iface 79 (Value.int .i64 (1 : Int)))])) post) (
    ∃ a6 : Addr, p0_r = some a6 ∧
    ∃ x7 : SV, H.rd h4 (Addr.add (Addr.add a6 2) 0) (Value.slice x7.a x7.len x7.cap) ∧
    ∃ b8 : Addr, x7.a = some b8 ∧ 0 ≤ p1_p ∧ p1_p < ((x7.len : Nat) : Int) ∧
    ∃ a9 : Addr, (some (Addr.add b8 ((p1_p).toNat * 4))) = some a9 ∧
    ∃ x10 : Int, H.rd h4 (Addr.add (Addr.add a9 0) 0) (Value.int .i64 x10) ∧
    VIf (x10 == (0 : Int)) (
      VRet h4 (Value.tuple (List.toArray [(Value.bool false), (Value.int .i64 (0 : Int)), (Value.iface 79 (Value.int .i64 (7 : Int)))])) post) (
      VIf (x10 == (1 : Int)) (
        ∃ a11 : Addr, p0_r = some a11 ∧
        ∃ x12 : SV, H.rd h4 (Addr.add (Addr.add a11 0) 0) (Value.slice x12.a x12.len x12.cap) ∧
        ∃ a13 : Addr, (some (Addr.add b8 ((p1_p).toNat * 4))) = some a13 ∧
        ∃ x14 : Int, H.rd h4 (Addr.add (Addr.add a13 2) 0) (Value.int .i64 x14) ∧
        ∃ b15 : Addr, x12.a = some b15 ∧ 0 ≤ x14 ∧ x14 < ((x12.len : Nat) : Int) ∧
        ∃ a16 : Addr, (some (Addr.add b8 ((p1_p).toNat * 4))) = some a16 ∧
        ∃ x17 : Int, H.rd h4 (Addr.add (Addr.add a16 1) 0) (Value.int .i64 x17) ∧
        SemCall Go.Proofs.Tryd.prog 43 (List.toArray [(Value.pointer (some (Addr.add b15 ((x14).toNat * 1)))), (Value.int .i64 (0 : Int)), (Value.int .i64 x17)]) h4 fun v18 h19 =>
        ∃ x20 : Bool, v18 = (Value.bool x20) ∧
        ∃ a21 : Addr, (some (Addr.add b8 ((p1_p).toNat * 4))) = some a21 ∧
        H.wr h19 (Addr.add a21 0) ([(Value.int .i64 (2 : Int))]) fun h22 =>
        VRet h22 (Value.tuple (List.toArray [(Value.bool false), (Value.int .i64 (0 : Int)), Value.nilIface])) post) (
        VIf (x10 == (2 : Int)) (
          ∃ a23 : Addr, p0_r = some a23 ∧
          ∃ x24 : SV, H.rd h4 (Addr.add (Addr.add a23 0) 0) (Value.slice x24.a x24.len x24.cap) ∧
          ∃ a25 : Addr, (some (Addr.add b8 ((p1_p).toNat * 4))) = some a25 ∧
          ∃ x26 : Int, H.rd h4 (Addr.add (Addr.add a25 2) 0) (Value.int .i64 x26) ∧
          ∃ b27 : Addr, x24.a = some b27 ∧ 0 ≤ x26 ∧ x26 < ((x24.len : Nat) : Int) ∧
          ∃ x28 : Int, H.rd h4 (Addr.add (Addr.add b27 ((x26).toNat * 1)) 0) (Value.int .i64 x28) ∧
          ∃ a29 : Addr, (some (Addr.add b8 ((p1_p).toNat * 4))) = some a29 ∧
          ∃ x30 : Int, H.rd h4 (Addr.add (Addr.add a29 1) 0) (Value.int .i64 x30) ∧
          VIf (x28 == x30) (
            ∃ a31 : Addr, (some (Addr.add b8 ((p1_p).toNat * 4))) = some a31 ∧
            ∃ x32 : Int, H.rd h4 (Addr.add (Addr.add a31 3) 0) (Value.int .i64 x32) ∧
            ∃ a33 : Addr, (some (Addr.add b8 ((p1_p).toNat * 4))) = some a33 ∧
            ([(Value.int .i64 (0 : Int)), (Value.int .i64 (0 : Int)), (Value.int .i64 (0 : Int)), (Value.int .i64 (0 : Int))]).length = 4 ∧ (Program.underlying Go.Proofs.Tryd.prog 93).isSome = true ∧
            H.wr h4 a33 ([(Value.int .i64 (0 : Int)), (Value.int .i64 (0 : Int)), (Value.int .i64 (0 : Int)), (Value.int .i64 (0 : Int))]) fun h34 =>
            VRet h34 (Value.tuple (List.toArray [(Value.bool true), (Value.int .i64 x32), Value.nilIface])) post) (
            ∃ a35 : Addr, (some (Addr.add b8 ((p1_p).toNat * 4))) = some a35 ∧
            ∃ x36 : Int, H.rd h4 (Addr.add (Addr.add a35 3) 0) (Value.int .i64 x36) ∧
            ∃ a37 : Addr, p0_r = some a37 ∧
            ∃ x38 : SV, H.rd h4 (Addr.add (Addr.add a37 1) 0) (Value.slice x38.a x38.len x38.cap) ∧
            In64 (x28 - (1 : Int)) ∧
            ∃ b39 : Addr, x38.a = some b39 ∧ 0 ≤ (x28 - (1 : Int)) ∧ (x28 - (1 : Int)) < ((x38.len : Nat) : Int) ∧
            ∃ x40 : Int, H.rd h4 (Addr.add (Addr.add (Addr.add b39 (((x28 - (1 : Int))).toNat * 2)) 1) 0) (Value.int .i64 x40) ∧
            In64 (x36 + x40) ∧
            ∃ a41 : Addr, (some (Addr.add b8 ((p1_p).toNat * 4))) = some a41 ∧
            H.wr h4 (Addr.add a41 3) ([(Value.int .i64 (x36 + x40))]) fun h42 =>
            ∃ a43 : Addr, (some (Addr.add b8 ((p1_p).toNat * 4))) = some a43 ∧
            ∃ x44 : Int, H.rd h42 (Addr.add (Addr.add a43 2) 0) (Value.int .i64 x44) ∧
            In64 (x44 + (1 : Int)) ∧
            ∃ a45 : Addr, (some (Addr.add b8 ((p1_p).toNat * 4))) = some a45 ∧
            H.wr h42 (Addr.add a45 2) ([(Value.int .i64 (x44 + (1 : Int)))]) fun h46 =>
            ∃ a47 : Addr, (some (Addr.add b8 ((p1_p).toNat * 4))) = some a47 ∧
            H.wr h46 (Addr.add a47 0) ([(Value.int .i64 (1 : Int))]) fun h48 =>
            VRet h48 (Value.tuple (List.toArray [(Value.bool false), (Value.int .i64 (0 : Int)), Value.nilIface])) post)) (
          VRet h4 (Value.tuple (List.toArray [(Value.bool false), (Value.int .i64 (0 : Int)), Value.nilIface])) post))))

def f23_hint : Hint := (.node .leaf (.node .leaf (.node .leaf (.node (.node .leaf (.node (.node .leaf (.node .leaf (.node .leaf (.node (.node (.tail 13) .leaf) (.node .leaf (.node (.node .leaf (.node .leaf (.node (.tail 16) .leaf))) .leaf)))))) .leaf)) .leaf))))

theorem f23_eq (p0_r : Option Addr) (p1_p : Int) (h0 : H) (post : Value → H → Prop) : exec Tryd.prog (bodyOf Tryd.f23) f23_hint (retQ Tryd.prog Tryd.f23 post) (F0 [(Value.pointer p0_r), (Value.int .i64 p1_p)]) h0 = f23_sem p0_r p1_p h0 post := by kernel_rfl

set_option maxRecDepth 20000 in
theorem f23_call (p0_r : Option Addr) (p1_p : Int) (h0 : H) (post : Value → H → Prop) (hx : f23_sem p0_r p1_p h0 post) : SemCall Tryd.prog 23 (List.toArray [(Value.pointer p0_r), (Value.int .i64 p1_p)]) h0 post :=
  sem_of_exec (g := f23_hint) mixed Tryd.func23 (bodyOf_eq (by kernel_rfl)) (by kernel_rfl) ((f23_eq p0_r p1_p h0 post).mpr hx)

/- (*latchgarth/univ.Row).At -/
def f24_sem (p0_r : Option Addr) (p1_p : Int) (h0 : H) (post : Value → H → Prop) : Prop :=
  ∃ a1 : Addr, p0_r = some a1 ∧
  ∃ x2 : SV, H.rd h0 (Addr.add (Addr.add a1 2) 0) (Value.slice x2.a x2.len x2.cap) ∧
  In64 (((x2.len : Nat) : Int) - (1 : Int)) ∧
  SemCall Go.Proofs.Tryd.prog 35 (List.toArray [(Value.int .i64 p1_p), (Value.int .i64 (0 : Int)), (Value.int .i64 (((x2.len : Nat) : Int) - (1 : Int)))]) h0 fun v3 h4 =>
  ∃ x5 : Bool, v3 = (Value.bool x5) ∧
  VIf (!x5) (
    VRet h4 (Value.int .i64 (0 : Int)) post) (
    ∃ a6 : Addr, p0_r = some a6 ∧
    ∃ x7 : SV, H.rd h4 (Addr.add (Addr.add a6 2) 0) (Value.slice x7.a x7.len x7.cap) ∧
    ∃ b8 : Addr, x7.a = some b8 ∧ 0 ≤ p1_p ∧ p1_p < ((x7.len : Nat) : Int) ∧
    ∃ x9 : Int, H.rd h4 (Addr.add (Addr.add (Addr.add b8 ((p1_p).toNat * 4)) 0) 0) (Value.int .i64 x9) ∧
    VRet h4 (Value.int .i64 x9) post)

def f24_hint : Hint := .leaf

theorem f24_eq (p0_r : Option Addr) (p1_p : Int) (h0 : H) (post : Value → H → Prop) : exec Tryd.prog (bodyOf Tryd.f24) f24_hint (retQ Tryd.prog Tryd.f24 post) (F0 [(Value.pointer p0_r), (Value.int .i64 p1_p)]) h0 = f24_sem p0_r p1_p h0 post := by kernel_rfl

set_option maxRecDepth 20000 in
theorem f24_call (p0_r : Option Addr) (p1_p : Int) (h0 : H) (post : Value → H → Prop) (hx : f24_sem p0_r p1_p h0 post) : SemCall Tryd.prog 24 (List.toArray [(Value.pointer p0_r), (Value.int .i64 p1_p)]) h0 post :=
  sem_of_exec (g := f24_hint) mixed Tryd.func24 (bodyOf_eq (by kernel_rfl)) (by kernel_rfl) ((f24_eq p0_r p1_p h0 post).mpr hx)

/- (*latchgarth/univ.Row).Order -/
def f25_L1 (x2 : SV) (R3 : SV → H → Prop) (I4 : Nat → SV → Int → H → Prop) (n5 : Nat) (x8_out : SV) (x9 : Int) (h10 : H) : Prop :=
  VIf (decide (x9 < ((x2.len : Nat) : Int))) (
    ∃ b11 : Addr, x2.a = some b11 ∧ 0 ≤ x9 ∧ x9 < ((x2.len : Nat) : Int) ∧
    ∃ x12 : Int, H.rd h10 (Addr.add (Addr.add b11 ((x9).toNat * 1)) 0) (Value.int .i64 x12) ∧
    VIf (x12 == (0 : Int)) (
      (∃ h13, Gh h10 h13 ∧ R3 x8_out h13)) (
      In64 (x12 - (1 : Int)) ∧
      H.new h10 [(Value.int .i64 (x12 - (1 : Int)))] fun r14 h15 =>
      appVC Go.Proofs.Tryd.prog 22 (Value.slice x8_out.a x8_out.len x8_out.cap) (Value.slice (some (Addr.mk r14 0 none)) 1 1) h15 fun x16 h17 =>
      In64 (x9 + (1 : Int)) ∧
      ∃ m6, m6 < n5 ∧ (∃ h18, Gh h17 h18 ∧ I4 m6 x16 (x9 + (1 : Int)) h18))) (
    (∃ h19, Gh h10 h19 ∧ R3 x8_out h19))

def f25_sem (p0_r : Option Addr) (h0 : H) (post : Value → H → Prop) : Prop :=
  ∃ a1 : Addr, p0_r = some a1 ∧
  ∃ x2 : SV, H.rd h0 (Addr.add (Addr.add a1 0) 0) (Value.slice x2.a x2.len x2.cap) ∧
  ∃ R3 : SV → H → Prop, (
    ∃ I4 : Nat → SV → Int → H → Prop, (∃ n5, (∃ h7, Gh h0 h7 ∧ I4 n5 (SV.mk none 0 0) (0 : Int) h7)) ∧
    ∀ (n5 : Nat) (_ : F) (x8_out : SV) (x9 : Int) (h10 : H), I4 n5 x8_out x9 h10 →
    f25_L1 x2 R3 I4 n5 x8_out x9 h10) ∧
  ∀ (_ : F) (x20_out : SV) (h21 : H), R3 x20_out h21 →
  SemCall Go.Proofs.Tryd.prog 38 (List.toArray [(Value.slice x20_out.a x20_out.len x20_out.cap)]) h21 fun v22 h23 =>
  ∃ x24 : SV, v22 = (Value.slice x24.a x24.len x24.cap) ∧
  VRet h23 (Value.slice x24.a x24.len x24.cap) post

def f25_hint : Hint := (.node .leaf (.node .leaf (.node (.node .leaf (.join [(3, .sl)] (.node (.loop [(3, .sl), (11, .int)] .leaf) .leaf))) .leaf)))

theorem f25_eq (p0_r : Option Addr) (h0 : H) (post : Value → H → Prop) : exec Tryd.prog (bodyOf Tryd.f25) f25_hint (retQ Tryd.prog Tryd.f25 post) (F0 [(Value.pointer p0_r)]) h0 = f25_sem p0_r h0 post := by kernel_rfl

set_option maxRecDepth 20000 in
theorem f25_call (p0_r : Option Addr) (h0 : H) (post : Value → H → Prop) (hx : f25_sem p0_r h0 post) : SemCall Tryd.prog 25 (List.toArray [(Value.pointer p0_r)]) h0 post :=
  sem_of_exec (g := f25_hint) mixed Tryd.func25 (bodyOf_eq (by kernel_rfl)) (by kernel_rfl) ((f25_eq p0_r h0 post).mpr hx)

/- latchgarth/core.Within -/
def f35_sem (p0_n : Int) (p1_low : Int) (p2_high : Int) (h0 : H) (post : Value → H → Prop) : Prop :=
  ∃ R1 : Bool → H → Prop, (
    VIf (decide (p0_n ≥ p1_low)) (
      (∃ h2, Gh h0 h2 ∧ R1 (decide (p0_n ≤ p2_high)) h2)) (
      (∃ h3, Gh h0 h3 ∧ R1 false h3))) ∧
  ∀ (_ : F) (x4 : Bool) (h5 : H), R1 x4 h5 →
  VRet h5 (Value.bool x4) post

def f35_hint : Hint := (.node .leaf (.node (.join [(6, .bool)] .leaf) .leaf))

theorem f35_eq (p0_n : Int) (p1_low : Int) (p2_high : Int) (h0 : H) (post : Value → H → Prop) : exec Tryd.prog (bodyOf Tryd.f35) f35_hint (retQ Tryd.prog Tryd.f35 post) (F0 [(Value.int .i64 p0_n), (Value.int .i64 p1_low), (Value.int .i64 p2_high)]) h0 = f35_sem p0_n p1_low p2_high h0 post := by kernel_rfl

set_option maxRecDepth 20000 in
theorem f35_call (p0_n : Int) (p1_low : Int) (p2_high : Int) (h0 : H) (post : Value → H → Prop) (hx : f35_sem p0_n p1_low p2_high h0 post) : SemCall Tryd.prog 35 (List.toArray [(Value.int .i64 p0_n), (Value.int .i64 p1_low), (Value.int .i64 p2_high)]) h0 post :=
  sem_of_exec (g := f35_hint) mixed Tryd.func35 (bodyOf_eq (by kernel_rfl)) (by kernel_rfl) ((f35_eq p0_n p1_low p2_high h0 post).mpr hx)

/- latchgarth/plain.Told -/
def f36_sem (p0_err : Option (TypeId × Value)) (h0 : H) (post : Value → H → Prop) : Prop :=
  isIfaceV (errV p0_err) = true ∧
  VIf (isNilV (errV p0_err)) (
    VRet h0 (Value.int .i64 (0 : Int)) post) (
    H.new h0 [(Value.int .i64 (0 : Int))] fun r1 h2 =>
    SemCall Go.Proofs.Tryd.prog 50 (List.toArray [(errV p0_err), (Value.iface 117 (Value.pointer (some (Addr.mk r1 0 none))))]) h2 fun v3 h4 =>
    ∃ x5 : Bool, v3 = (Value.bool x5) ∧
    VIf x5 (
      ∃ x6 : Int, H.rd h4 (Addr.add (Addr.mk r1 0 none) 0) (Value.int .i64 x6) ∧
      VRet h4 (Value.int .i64 x6) post) (
      VRet h4 (Value.int .i64 (-1 : Int)) post))

def f36_hint : Hint := .leaf

theorem f36_eq (p0_err : Option (TypeId × Value)) (h0 : H) (post : Value → H → Prop) : exec Tryd.prog (bodyOf Tryd.f36) f36_hint (retQ Tryd.prog Tryd.f36 post) (F0 [(errV p0_err)]) h0 = f36_sem p0_err h0 post := by kernel_rfl

set_option maxRecDepth 20000 in
theorem f36_call (p0_err : Option (TypeId × Value)) (h0 : H) (post : Value → H → Prop) (hx : f36_sem p0_err h0 post) : SemCall Tryd.prog 36 (List.toArray [(errV p0_err)]) h0 post :=
  sem_of_exec (g := f36_hint) mixed Tryd.func36 (bodyOf_eq (by kernel_rfl)) (by kernel_rfl) ((f36_eq p0_err h0 post).mpr hx)

/- latchgarth/latchgarthref3.set -/
def f37_sem (p0_l : SV) (p1_i : Int) (p2_n : Int) (h0 : H) (post : Value → H → Prop) : Prop :=
  appVC Go.Proofs.Tryd.prog 22 (Value.slice none 0 0) (Value.slice p0_l.a p0_l.len p0_l.cap) h0 fun x1 h2 =>
  ∃ b3 : Addr, x1.a = some b3 ∧ 0 ≤ p1_i ∧ p1_i < ((x1.len : Nat) : Int) ∧
  H.wr h2 (Addr.add b3 ((p1_i).toNat * 1)) ([(Value.int .i64 p2_n)]) fun h4 =>
  VRet h4 (Value.slice x1.a x1.len x1.cap) post

def f37_hint : Hint := .leaf

theorem f37_eq (p0_l : SV) (p1_i : Int) (p2_n : Int) (h0 : H) (post : Value → H → Prop) : exec Tryd.prog (bodyOf Tryd.f37) f37_hint (retQ Tryd.prog Tryd.f37 post) (F0 [(Value.slice p0_l.a p0_l.len p0_l.cap), (Value.int .i64 p1_i), (Value.int .i64 p2_n)]) h0 = f37_sem p0_l p1_i p2_n h0 post := by kernel_rfl

set_option maxRecDepth 20000 in
theorem f37_call (p0_l : SV) (p1_i : Int) (p2_n : Int) (h0 : H) (post : Value → H → Prop) (hx : f37_sem p0_l p1_i p2_n h0 post) : SemCall Tryd.prog 37 (List.toArray [(Value.slice p0_l.a p0_l.len p0_l.cap), (Value.int .i64 p1_i), (Value.int .i64 p2_n)]) h0 post :=
  sem_of_exec (g := f37_hint) mixed Tryd.func37 (bodyOf_eq (by kernel_rfl)) (by kernel_rfl) ((f37_eq p0_l p1_i p2_n h0 post).mpr hx)

/- slices.Clone[[]int,int] -/
def f38_sem (p0_s : SV) (h0 : H) (post : Value → H → Prop) : Prop :=
  VIf (Option.isNone p0_s.a) (
    VRet h0 (Value.slice none 0 0) post) (
    H.new h0 [] fun r1 h2 =>
    appVC Go.Proofs.Tryd.prog 22 (Value.slice (some (Addr.mk r1 0 none)) 0 0) (Value.slice p0_s.a p0_s.len p0_s.cap) h2 fun x3 h4 =>
    VRet h4 (Value.slice x3.a x3.len x3.cap) post)

def f38_hint : Hint := .leaf

theorem f38_eq (p0_s : SV) (h0 : H) (post : Value → H → Prop) : exec Tryd.prog (bodyOf Tryd.f38) f38_hint (retQ Tryd.prog Tryd.f38 post) (F0 [(Value.slice p0_s.a p0_s.len p0_s.cap)]) h0 = f38_sem p0_s h0 post := by kernel_rfl

set_option maxRecDepth 20000 in
theorem f38_call (p0_s : SV) (h0 : H) (post : Value → H → Prop) (hx : f38_sem p0_s h0 post) : SemCall Tryd.prog 38 (List.toArray [(Value.slice p0_s.a p0_s.len p0_s.cap)]) h0 post :=
  sem_of_exec (g := f38_hint) mixed Tryd.func38 (bodyOf_eq (by kernel_rfl)) (by kernel_rfl) ((f38_eq p0_s h0 post).mpr hx)

/- latchgarth/core.Hands -/
def f39_sem (p0_n : Int) (h0 : H) (post : Value → H → Prop) : Prop :=
  SemCall Go.Proofs.Tryd.prog 35 (List.toArray [(Value.int .i64 p0_n), (Value.int .i64 (1 : Int)), (Value.int .i64 (4 : Int))]) h0 fun v1 h2 =>
  ∃ x3 : Bool, v1 = (Value.bool x3) ∧
  VIf (!x3) (
    VRet h2 (Value.iface 79 (Value.int .i64 (1 : Int))) post) (
    VRet h2 Value.nilIface post)

def f39_hint : Hint := .leaf

theorem f39_eq (p0_n : Int) (h0 : H) (post : Value → H → Prop) : exec Tryd.prog (bodyOf Tryd.f39) f39_hint (retQ Tryd.prog Tryd.f39 post) (F0 [(Value.int .i64 p0_n)]) h0 = f39_sem p0_n h0 post := by kernel_rfl

set_option maxRecDepth 20000 in
theorem f39_call (p0_n : Int) (h0 : H) (post : Value → H → Prop) (hx : f39_sem p0_n h0 post) : SemCall Tryd.prog 39 (List.toArray [(Value.int .i64 p0_n)]) h0 post :=
  sem_of_exec (g := f39_hint) mixed Tryd.func39 (bodyOf_eq (by kernel_rfl)) (by kernel_rfl) ((f39_eq p0_n h0 post).mpr hx)

/- latchgarth/latchgarthref3.in -/
def f40_sem (p0_n : Int) (p1_low : Int) (p2_high : Int) (h0 : H) (post : Value → H → Prop) : Prop :=
  ∃ R1 : Bool → H → Prop, (
    VIf (decide (p0_n ≥ p1_low)) (
      (∃ h2, Gh h0 h2 ∧ R1 (decide (p0_n ≤ p2_high)) h2)) (
      (∃ h3, Gh h0 h3 ∧ R1 false h3))) ∧
  ∀ (_ : F) (x4 : Bool) (h5 : H), R1 x4 h5 →
  VRet h5 (Value.bool x4) post

def f40_hint : Hint := (.node .leaf (.node (.join [(6, .bool)] .leaf) .leaf))

theorem f40_eq (p0_n : Int) (p1_low : Int) (p2_high : Int) (h0 : H) (post : Value → H → Prop) : exec Tryd.prog (bodyOf Tryd.f40) f40_hint (retQ Tryd.prog Tryd.f40 post) (F0 [(Value.int .i64 p0_n), (Value.int .i64 p1_low), (Value.int .i64 p2_high)]) h0 = f40_sem p0_n p1_low p2_high h0 post := by kernel_rfl

set_option maxRecDepth 20000 in
theorem f40_call (p0_n : Int) (p1_low : Int) (p2_high : Int) (h0 : H) (post : Value → H → Prop) (hx : f40_sem p0_n p1_low p2_high h0 post) : SemCall Tryd.prog 40 (List.toArray [(Value.int .i64 p0_n), (Value.int .i64 p1_low), (Value.int .i64 p2_high)]) h0 post :=
  sem_of_exec (g := f40_hint) mixed Tryd.func40 (bodyOf_eq (by kernel_rfl)) (by kernel_rfl) ((f40_eq p0_n p1_low p2_high h0 post).mpr hx)

/- latchgarth/latchgarthref3.more -/
def f41_sem (p0_l : SV) (p1_n : Int) (h0 : H) (post : Value → H → Prop) : Prop :=
  appVC Go.Proofs.Tryd.prog 22 (Value.slice none 0 0) (Value.slice p0_l.a p0_l.len p0_l.cap) h0 fun x1 h2 =>
  H.new h2 [(Value.int .i64 p1_n)] fun r3 h4 =>
  appVC Go.Proofs.Tryd.prog 22 (Value.slice x1.a x1.len x1.cap) (Value.slice (some (Addr.mk r3 0 none)) 1 1) h4 fun x5 h6 =>
  VRet h6 (Value.slice x5.a x5.len x5.cap) post

def f41_hint : Hint := .leaf

theorem f41_eq (p0_l : SV) (p1_n : Int) (h0 : H) (post : Value → H → Prop) : exec Tryd.prog (bodyOf Tryd.f41) f41_hint (retQ Tryd.prog Tryd.f41 post) (F0 [(Value.slice p0_l.a p0_l.len p0_l.cap), (Value.int .i64 p1_n)]) h0 = f41_sem p0_l p1_n h0 post := by kernel_rfl

set_option maxRecDepth 20000 in
theorem f41_call (p0_l : SV) (p1_n : Int) (h0 : H) (post : Value → H → Prop) (hx : f41_sem p0_l p1_n h0 post) : SemCall Tryd.prog 41 (List.toArray [(Value.slice p0_l.a p0_l.len p0_l.cap), (Value.int .i64 p1_n)]) h0 post :=
  sem_of_exec (g := f41_hint) mixed Tryd.func41 (bodyOf_eq (by kernel_rfl)) (by kernel_rfl) ((f41_eq p0_l p1_n h0 post).mpr hx)

/- latchgarth/latchgarthref3.Before -/
def f42_L1 (p1_cell : Int) (r1 : Nat) (R3 : Int → H → Prop) (I4 : Nat → Int → Int → H → Prop) (n5 : Nat) (x8_n : Int) (x9_i : Int) (h10 : H) : Prop :=
  VIf (decide (x9_i < p1_cell)) (
    ∃ x11 : SV, H.rd h10 (Addr.add (Addr.add (Addr.mk r1 0 none) 0) 0) (Value.slice x11.a x11.len x11.cap) ∧
    ∃ x12 : SV, H.rd h10 (Addr.add (Addr.add (Addr.mk r1 0 none) 1) 0) (Value.slice x12.a x12.len x12.cap) ∧
    ∃ b13 : Addr, x12.a = some b13 ∧ 0 ≤ x9_i ∧ x9_i < ((x12.len : Nat) : Int) ∧
    ∃ x14 : Int, H.rd h10 (Addr.add (Addr.add b13 ((x9_i).toNat * 1)) 0) (Value.int .i64 x14) ∧
    ∃ b15 : Addr, x11.a = some b15 ∧ 0 ≤ x14 ∧ x14 < ((x11.len : Nat) : Int) ∧
    ∃ x16 : Int, H.rd h10 (Addr.add (Addr.add b15 ((x14).toNat * 1)) 0) (Value.int .i64 x16) ∧
    In64 (x8_n + x16) ∧
    In64 (x9_i + (1 : Int)) ∧
    ∃ m6, m6 < n5 ∧ (∃ h17, Gh h10 h17 ∧ I4 m6 (x8_n + x16) (x9_i + (1 : Int)) h17)) (
    (∃ h18, Gh h10 h18 ∧ R3 x8_n h18))

def f42_sem (p0_0_u : SV) (p0_1_u : SV) (p0_2_u : SV) (p0_3_u : SV) (p0_4_u : SV) (p1_cell : Int) (h0 : H) (post : Value → H → Prop) : Prop :=
  H.new h0 [(Value.slice p0_0_u.a p0_0_u.len p0_0_u.cap), (Value.slice p0_1_u.a p0_1_u.len p0_1_u.cap), (Value.slice p0_2_u.a p0_2_u.len p0_2_u.cap), (Value.slice p0_3_u.a p0_3_u.len p0_3_u.cap), (Value.slice p0_4_u.a p0_4_u.len p0_4_u.cap)] fun r1 h2 =>
  ∃ R3 : Int → H → Prop, (
    ∃ I4 : Nat → Int → Int → H → Prop, (∃ n5, (∃ h7, Gh h2 h7 ∧ I4 n5 (0 : Int) (0 : Int) h7)) ∧
    ∀ (n5 : Nat) (_ : F) (x8_n : Int) (x9_i : Int) (h10 : H), I4 n5 x8_n x9_i h10 →
    f42_L1 p1_cell r1 R3 I4 n5 x8_n x9_i h10) ∧
  ∀ (_ : F) (x19_n : Int) (h20 : H), R3 x19_n h20 →
  VRet h20 (Value.int .i64 x19_n) post

def f42_hint : Hint := (.node .leaf (.node .leaf (.node (.node .leaf (.join [(5, .int)] (.node (.loop [(5, .int), (6, .int)] .leaf) .leaf))) .leaf)))

theorem f42_eq (p0_0_u : SV) (p0_1_u : SV) (p0_2_u : SV) (p0_3_u : SV) (p0_4_u : SV) (p1_cell : Int) (h0 : H) (post : Value → H → Prop) : exec Tryd.prog (bodyOf Tryd.f42) f42_hint (retQ Tryd.prog Tryd.f42 post) (F0 [(Value.agg (List.toArray [(Value.slice p0_0_u.a p0_0_u.len p0_0_u.cap), (Value.slice p0_1_u.a p0_1_u.len p0_1_u.cap), (Value.slice p0_2_u.a p0_2_u.len p0_2_u.cap), (Value.slice p0_3_u.a p0_3_u.len p0_3_u.cap), (Value.slice p0_4_u.a p0_4_u.len p0_4_u.cap)])), (Value.int .i64 p1_cell)]) h0 = f42_sem p0_0_u p0_1_u p0_2_u p0_3_u p0_4_u p1_cell h0 post := by kernel_rfl

set_option maxRecDepth 20000 in
theorem f42_call (p0_0_u : SV) (p0_1_u : SV) (p0_2_u : SV) (p0_3_u : SV) (p0_4_u : SV) (p1_cell : Int) (h0 : H) (post : Value → H → Prop) (hx : f42_sem p0_0_u p0_1_u p0_2_u p0_3_u p0_4_u p1_cell h0 post) : SemCall Tryd.prog 42 (List.toArray [(Value.agg (List.toArray [(Value.slice p0_0_u.a p0_0_u.len p0_0_u.cap), (Value.slice p0_1_u.a p0_1_u.len p0_1_u.cap), (Value.slice p0_2_u.a p0_2_u.len p0_2_u.cap), (Value.slice p0_3_u.a p0_3_u.len p0_3_u.cap), (Value.slice p0_4_u.a p0_4_u.len p0_4_u.cap)])), (Value.int .i64 p1_cell)]) h0 post :=
  sem_of_exec (g := f42_hint) mixed Tryd.func42 (bodyOf_eq (by kernel_rfl)) (by kernel_rfl) ((f42_eq p0_0_u p0_1_u p0_2_u p0_3_u p0_4_u p1_cell h0 post).mpr hx)

/- latchgarth/core.Cas[int] -/
def f43_sem (p0_word : Option Addr) (p1_old : Int) (p2_new : Int) (h0 : H) (post : Value → H → Prop) : Prop :=
  ∃ a1 : Addr, p0_word = some a1 ∧
  ∃ x2 : Int, H.rd h0 (Addr.add a1 0) (Value.int .i64 x2) ∧
  VIf (x2 != p1_old) (
    VRet h0 (Value.bool false) post) (
    ∃ a3 : Addr, p0_word = some a3 ∧
    H.wr h0 a3 ([(Value.int .i64 p2_new)]) fun h4 =>
    VRet h4 (Value.bool true) post)

def f43_hint : Hint := .leaf

theorem f43_eq (p0_word : Option Addr) (p1_old : Int) (p2_new : Int) (h0 : H) (post : Value → H → Prop) : exec Tryd.prog (bodyOf Tryd.f43) f43_hint (retQ Tryd.prog Tryd.f43 post) (F0 [(Value.pointer p0_word), (Value.int .i64 p1_old), (Value.int .i64 p2_new)]) h0 = f43_sem p0_word p1_old p2_new h0 post := by kernel_rfl

set_option maxRecDepth 20000 in
theorem f43_call (p0_word : Option Addr) (p1_old : Int) (p2_new : Int) (h0 : H) (post : Value → H → Prop) (hx : f43_sem p0_word p1_old p2_new h0 post) : SemCall Tryd.prog 43 (List.toArray [(Value.pointer p0_word), (Value.int .i64 p1_old), (Value.int .i64 p2_new)]) h0 post :=
  sem_of_exec (g := f43_hint) mixed Tryd.func43 (bodyOf_eq (by kernel_rfl)) (by kernel_rfl) ((f43_eq p0_word p1_old p2_new h0 post).mpr hx)

end Go.Proofs.YtnecppjgcbhnaaaDoor
