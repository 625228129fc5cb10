import Derived.Test.YtiaopgnnibidlaaDoorEngG
import Derived.Test.YtiaopgnnibidlaaDoorRows
namespace Go.Proofs.YtiaopgnnibidlaaDoor
open Go.Eng
theorem mixed : Tryd.prog.follows .mixedOrders = true := by kernel_rfl
/- latchgarth/latchgarthlaw4.DinePlays -/
def f3_J1 (post : Value → H → Prop) (x3 : Option Addr) (x39 : Int) (R48 : Int → H → Prop) (x54_was : Int) (x67_e : Int) (h82 : H) : Prop :=
  ∃ R83 : Bool → H → Prop, (
    VIf (x54_was == (0 : Int)) (
      SemCall Go.Proofs.Tryd.prog 9 (List.toArray [(Value.pointer x3), (Value.int .i64 x39)]) h82 fun v84 h85 =>
      ∃ x86 : Option (TypeId × Value), v84 = (errV x86) ∧
      SemCall Go.Proofs.Tryd.prog 6 (List.toArray [(errV x86), (Value.int .i64 x67_e)]) h85 fun v87 h88 =>
      ∃ x89 : Bool, v87 = (Value.bool x89) ∧
      VIf (!x89) (
        (∃ h90, Gh h88 h90 ∧ R83 true h90)) (
        VIf (x54_was == (2 : Int)) (
          SemCall Go.Proofs.Tryd.prog 10 (List.toArray [(Value.pointer x3), (Value.int .i64 x39)]) h88 fun v91 h92 =>
          ∃ x93 : Option (TypeId × Value), v91 = (errV x93) ∧
          SemCall Go.Proofs.Tryd.prog 6 (List.toArray [(errV x93), (Value.int .i64 x67_e)]) h92 fun v94 h95 =>
          ∃ x96 : Bool, v94 = (Value.bool x96) ∧
          (∃ h97, Gh h95 h97 ∧ R83 (!x96) h97)) (
          (∃ h98, Gh h88 h98 ∧ R83 false h98)))) (
      VIf (x54_was == (2 : Int)) (
        SemCall Go.Proofs.Tryd.prog 10 (List.toArray [(Value.pointer x3), (Value.int .i64 x39)]) h82 fun v99 h100 =>
        ∃ x101 : Option (TypeId × Value), v99 = (errV x101) ∧
        SemCall Go.Proofs.Tryd.prog 6 (List.toArray [(errV x101), (Value.int .i64 x67_e)]) h100 fun v102 h103 =>
        ∃ x104 : Bool, v102 = (Value.bool x104) ∧
        (∃ h105, Gh h103 h105 ∧ R83 (!x104) h105)) (
        (∃ h106, Gh h82 h106 ∧ R83 false h106)))) ∧
  ∀ (_ : F) (x107 : Bool) (h108 : H), R83 x107 h108 →
  VIf x107 (
    VRet h108 (Value.bool false) post) (
    (∃ h109, Gh h108 h109 ∧ R48 x67_e h109))

def f3_J2 (post : Value → H → Prop) (x3 : Option Addr) (r19 : Nat) (x39 : Int) (R48 : Int → H → Prop) (x54_was : Int) (x67_e : Int) (h68 : H) : Prop :=
  ∃ R69 : H → Prop, (
    VIf (x67_e == (0 : Int)) (
      ∃ x70 : SV, H.rd h68 (Addr.add (Addr.add (Addr.mk r19 0 none) 0) 0) (Value.slice x70.a x70.len x70.cap) ∧
      appVC Go.Proofs.Tryd.prog 29 (Value.slice none 0 0) (Value.slice x70.a x70.len x70.cap) h68 fun x71 h72 =>
      ∃ b73 : Addr, x71.a = some b73 ∧ 0 ≤ x39 ∧ x39 < ((x71.len : Nat) : Int) ∧
      H.wr h72 (Addr.add b73 ((x39).toNat * 1)) ([(Value.int .i64 (1 : Int))]) fun h74 =>
      VIf (x54_was == (2 : Int)) (
        ∃ b75 : Addr, x71.a = some b75 ∧ 0 ≤ x39 ∧ x39 < ((x71.len : Nat) : Int) ∧
        H.wr h74 (Addr.add b75 ((x39).toNat * 1)) ([(Value.int .i64 (0 : Int))]) fun h76 =>
        H.wr h76 (Addr.add (Addr.mk r19 0 none) 0) ([(Value.slice x71.a x71.len x71.cap)]) fun h77 =>
        (∃ h78, Gh h77 h78 ∧ R69 h78)) (
        H.wr h74 (Addr.add (Addr.mk r19 0 none) 0) ([(Value.slice x71.a x71.len x71.cap)]) fun h79 =>
        (∃ h80, Gh h79 h80 ∧ R69 h80))) (
      (∃ h81, Gh h68 h81 ∧ R69 h81))) ∧
  ∀ (_ : F) (h82 : H), R69 h82 →
  f3_J1 post x3 x39 R48 x54_was x67_e h82

def f3_J3 (post : Value → H → Prop) (x3 : Option Addr) (r19 : Nat) (x39 : Int) (x46_e : Int) (R48 : Int → H → Prop) (x54_was : Int) (h55 : H) : Prop :=
  ∃ R56 : Bool → H → Prop, (
    VIf (x46_e == (0 : Int)) (
      ∃ x57 : SV, H.rd h55 (Addr.add (Addr.add (Addr.mk r19 0 none) 0) 0) (Value.slice x57.a x57.len x57.cap) ∧
      ∃ b58 : Addr, x57.a = some b58 ∧ 0 ≤ x39 ∧ x39 < ((x57.len : Nat) : Int) ∧
      ∃ x59 : Int, H.rd h55 (Addr.add (Addr.add b58 ((x39).toNat * 1)) 0) (Value.int .i64 x59) ∧
      (∃ h60, Gh h55 h60 ∧ R56 (x59 != x54_was) h60)) (
      (∃ h61, Gh h55 h61 ∧ R56 false h61))) ∧
  ∀ (_ : F) (x62 : Bool) (h63 : H), R56 x62 h63 →
  ∃ R64 : Int → H → Prop, (
    VIf x62 (
      (∃ h65, Gh h63 h65 ∧ R64 (7 : Int) h65)) (
      (∃ h66, Gh h63 h66 ∧ R64 x46_e h66))) ∧
  ∀ (_ : F) (x67_e : Int) (h68 : H), R64 x67_e h68 →
  f3_J2 post x3 r19 x39 R48 x54_was x67_e h68

def f3_J4 (post : Value → H → Prop) (x3 : Option Addr) (x39 : Int) (x111_e : Int) (R113 : H → Prop) (x129_did : Bool) (h130 : H) : Prop :=
  SemCall Go.Proofs.Tryd.prog 12 (List.toArray [(Value.pointer x3), (Value.int .i64 x39)]) h130 fun v131 h132 =>
  ∃ x133 : Bool, ∃ x134 : Option (TypeId × Value), v131 = (Value.tuple (List.toArray [(Value.bool x133), (errV x134)])) ∧
  ∃ R135 : Bool → H → Prop, (
    SemCall Go.Proofs.Tryd.prog 6 (List.toArray [(errV x134), (Value.int .i64 x111_e)]) h132 fun v136 h137 =>
    ∃ x138 : Bool, v136 = (Value.bool x138) ∧
    VIf (!x138) (
      (∃ h139, Gh h137 h139 ∧ R135 true h139)) (
      (∃ h140, Gh h137 h140 ∧ R135 (!(x133 == x129_did)) h140))) ∧
  ∀ (_ : F) (x141 : Bool) (h142 : H), R135 x141 h142 →
  VIf x141 (
    VRet h142 (Value.bool false) post) (
    (∃ h143, Gh h142 h143 ∧ R113 h143))

def f3_L5 (p0_n : Int) (post : Value → H → Prop) (x3 : Option Addr) (r19 : Nat) (x149 : SV) (R159 : H → Prop) (I160 : Nat → Int → H → Prop) (n161 : Nat) (x164_k : Int) (h165 : H) : Prop :=
  VIf (decide (x164_k < p0_n)) (
    ∃ R166 : Bool → H → Prop, (
      (
        SemCall Go.Proofs.Tryd.prog 15 (List.toArray [(Value.pointer x3), (Value.int .i64 x164_k)]) h165 fun v167 h168 =>
        ∃ x169 : Int, v167 = (Value.int .i64 x169) ∧
        ∃ x170 : SV, H.rd h168 (Addr.add (Addr.add (Addr.mk r19 0 none) 0) 0) (Value.slice x170.a x170.len x170.cap) ∧
        ∃ b171 : Addr, x170.a = some b171 ∧ 0 ≤ x164_k ∧ x164_k < ((x170.len : Nat) : Int) ∧
        ∃ x172 : Int, H.rd h168 (Addr.add (Addr.add b171 ((x164_k).toNat * 1)) 0) (Value.int .i64 x172) ∧
        VIf (x169 != x172) (
          (∃ h173, Gh h168 h173 ∧ R166 true h173)) (
          ∃ b174 : Addr, x149.a = some b174 ∧ 0 ≤ x164_k ∧ x164_k < ((x149.len : Nat) : Int) ∧
          (
            ∃ x175 : Bool, H.rd h168 (Addr.add (Addr.add b174 ((x164_k).toNat * 1)) 0) (Value.bool x175) ∧
            ∃ x176 : SV, H.rd h168 (Addr.add (Addr.add (Addr.mk r19 0 none) 3) 0) (Value.slice x176.a x176.len x176.cap) ∧
            ∃ b177 : Addr, x176.a = some b177 ∧ 0 ≤ x164_k ∧ x164_k < ((x176.len : Nat) : Int) ∧
            ∃ x178 : Int, H.rd h168 (Addr.add (Addr.add b177 ((x164_k).toNat * 1)) 0) (Value.int .i64 x178) ∧
            (∃ h179, Gh h168 h179 ∧ R166 (!(x175 == (x178 == (1 : Int)))) h179)) ∧
          (
            ∃ x180 : SV, H.rd h168 (Addr.add (Addr.add (Addr.mk r19 0 none) 3) 0) (Value.slice x180.a x180.len x180.cap) ∧
            ∃ b181 : Addr, x180.a = some b181 ∧ 0 ≤ x164_k ∧ x164_k < ((x180.len : Nat) : Int) ∧
            (
              ∃ x182 : Bool, H.rd h168 (Addr.add (Addr.add b174 ((x164_k).toNat * 1)) 0) (Value.bool x182) ∧
              ∃ x183 : Int, H.rd h168 (Addr.add (Addr.add b181 ((x164_k).toNat * 1)) 0) (Value.int .i64 x183) ∧
              (∃ h184, Gh h168 h184 ∧ R166 (!(x182 == (x183 == (1 : Int)))) h184)) ∧
            (
              ∃ x185 : Int, H.rd h168 (Addr.add (Addr.add b181 ((x164_k).toNat * 1)) 0) (Value.int .i64 x185) ∧
              ∃ x186 : Bool, H.rd h168 (Addr.add (Addr.add b174 ((x164_k).toNat * 1)) 0) (Value.bool x186) ∧
              (∃ h187, Gh h168 h187 ∧ R166 (!(x186 == (x185 == (1 : Int)))) h187))))) ∧
      (
        ∃ x188 : SV, H.rd h165 (Addr.add (Addr.add (Addr.mk r19 0 none) 0) 0) (Value.slice x188.a x188.len x188.cap) ∧
        ∃ b189 : Addr, x188.a = some b189 ∧ 0 ≤ x164_k ∧ x164_k < ((x188.len : Nat) : Int) ∧
        (
          SemCall Go.Proofs.Tryd.prog 15 (List.toArray [(Value.pointer x3), (Value.int .i64 x164_k)]) h165 fun v190 h191 =>
          ∃ x192 : Int, v190 = (Value.int .i64 x192) ∧
          ∃ x193 : Int, H.rd h191 (Addr.add (Addr.add b189 ((x164_k).toNat * 1)) 0) (Value.int .i64 x193) ∧
          VIf (x192 != x193) (
            (∃ h194, Gh h191 h194 ∧ R166 true h194)) (
            ∃ b195 : Addr, x149.a = some b195 ∧ 0 ≤ x164_k ∧ x164_k < ((x149.len : Nat) : Int) ∧
            (
              ∃ x196 : Bool, H.rd h191 (Addr.add (Addr.add b195 ((x164_k).toNat * 1)) 0) (Value.bool x196) ∧
              ∃ x197 : SV, H.rd h191 (Addr.add (Addr.add (Addr.mk r19 0 none) 3) 0) (Value.slice x197.a x197.len x197.cap) ∧
              ∃ b198 : Addr, x197.a = some b198 ∧ 0 ≤ x164_k ∧ x164_k < ((x197.len : Nat) : Int) ∧
              ∃ x199 : Int, H.rd h191 (Addr.add (Addr.add b198 ((x164_k).toNat * 1)) 0) (Value.int .i64 x199) ∧
              (∃ h200, Gh h191 h200 ∧ R166 (!(x196 == (x199 == (1 : Int)))) h200)) ∧
            (
              ∃ x201 : SV, H.rd h191 (Addr.add (Addr.add (Addr.mk r19 0 none) 3) 0) (Value.slice x201.a x201.len x201.cap) ∧
              ∃ b202 : Addr, x201.a = some b202 ∧ 0 ≤ x164_k ∧ x164_k < ((x201.len : Nat) : Int) ∧
              (
                ∃ x203 : Bool, H.rd h191 (Addr.add (Addr.add b195 ((x164_k).toNat * 1)) 0) (Value.bool x203) ∧
                ∃ x204 : Int, H.rd h191 (Addr.add (Addr.add b202 ((x164_k).toNat * 1)) 0) (Value.int .i64 x204) ∧
                (∃ h205, Gh h191 h205 ∧ R166 (!(x203 == (x204 == (1 : Int)))) h205)) ∧
              (
                ∃ x206 : Int, H.rd h191 (Addr.add (Addr.add b202 ((x164_k).toNat * 1)) 0) (Value.int .i64 x206) ∧
                ∃ x207 : Bool, H.rd h191 (Addr.add (Addr.add b195 ((x164_k).toNat * 1)) 0) (Value.bool x207) ∧
                (∃ h208, Gh h191 h208 ∧ R166 (!(x207 == (x206 == (1 : Int)))) h208))))) ∧
        (
          ∃ x209 : Int, H.rd h165 (Addr.add (Addr.add b189 ((x164_k).toNat * 1)) 0) (Value.int .i64 x209) ∧
          SemCall Go.Proofs.Tryd.prog 15 (List.toArray [(Value.pointer x3), (Value.int .i64 x164_k)]) h165 fun v210 h211 =>
          ∃ x212 : Int, v210 = (Value.int .i64 x212) ∧
          VIf (x212 != x209) (
            (∃ h213, Gh h211 h213 ∧ R166 true h213)) (
            ∃ b214 : Addr, x149.a = some b214 ∧ 0 ≤ x164_k ∧ x164_k < ((x149.len : Nat) : Int) ∧
            (
              ∃ x215 : Bool, H.rd h211 (Addr.add (Addr.add b214 ((x164_k).toNat * 1)) 0) (Value.bool x215) ∧
              ∃ x216 : SV, H.rd h211 (Addr.add (Addr.add (Addr.mk r19 0 none) 3) 0) (Value.slice x216.a x216.len x216.cap) ∧
              ∃ b217 : Addr, x216.a = some b217 ∧ 0 ≤ x164_k ∧ x164_k < ((x216.len : Nat) : Int) ∧
              ∃ x218 : Int, H.rd h211 (Addr.add (Addr.add b217 ((x164_k).toNat * 1)) 0) (Value.int .i64 x218) ∧
              (∃ h219, Gh h211 h219 ∧ R166 (!(x215 == (x218 == (1 : Int)))) h219)) ∧
            (
              ∃ x220 : SV, H.rd h211 (Addr.add (Addr.add (Addr.mk r19 0 none) 3) 0) (Value.slice x220.a x220.len x220.cap) ∧
              ∃ b221 : Addr, x220.a = some b221 ∧ 0 ≤ x164_k ∧ x164_k < ((x220.len : Nat) : Int) ∧
              (
                ∃ x222 : Bool, H.rd h211 (Addr.add (Addr.add b214 ((x164_k).toNat * 1)) 0) (Value.bool x222) ∧
                ∃ x223 : Int, H.rd h211 (Addr.add (Addr.add b221 ((x164_k).toNat * 1)) 0) (Value.int .i64 x223) ∧
                (∃ h224, Gh h211 h224 ∧ R166 (!(x222 == (x223 == (1 : Int)))) h224)) ∧
              (
                ∃ x225 : Int, H.rd h211 (Addr.add (Addr.add b221 ((x164_k).toNat * 1)) 0) (Value.int .i64 x225) ∧
                ∃ x226 : Bool, H.rd h211 (Addr.add (Addr.add b214 ((x164_k).toNat * 1)) 0) (Value.bool x226) ∧
                (∃ h227, Gh h211 h227 ∧ R166 (!(x226 == (x225 == (1 : Int)))) h227))))))) ∧
    ∀ (_ : F) (x228 : Bool) (h229 : H), R166 x228 h229 →
    VIf x228 (
      VRet h229 (Value.bool false) post) (
      In64 (x164_k + (1 : Int)) ∧
      ∃ m162, m162 < n161 ∧ (∃ h230, Gh h229 h230 ∧ I160 m162 (x164_k + (1 : Int)) h230))) (
    (∃ h231, Gh h165 h231 ∧ R159 h231))

def f3_J6 (p0_n : Int) (post : Value → H → Prop) (x3 : Option Addr) (r19 : Nat) (R34 : H → Prop) (h145 : H) : Prop :=
  SemCall Go.Proofs.Tryd.prog 13 (List.toArray [(Value.pointer x3)]) h145 fun v146 h147 =>
  ∃ x148 : SV, ∃ x149 : SV, v146 = (Value.tuple (List.toArray [(Value.slice x148.a x148.len x148.cap), (Value.slice x149.a x149.len x149.cap)])) ∧
  ∃ R150 : Bool → H → Prop, (
    ∃ x151 : SV, H.rd h147 (Addr.add (Addr.add (Addr.mk r19 0 none) 1) 0) (Value.slice x151.a x151.len x151.cap) ∧
    SemCall Go.Proofs.Tryd.prog 14 (List.toArray [(Value.slice x148.a x148.len x148.cap), (Value.slice x151.a x151.len x151.cap)]) h147 fun v152 h153 =>
    ∃ x154 : Bool, v152 = (Value.bool x154) ∧
    VIf (!x154) (
      (∃ h155, Gh h153 h155 ∧ R150 true h155)) (
      (∃ h156, Gh h153 h156 ∧ R150 (((x149.len : Nat) : Int) != p0_n) h156))) ∧
  ∀ (_ : F) (x157 : Bool) (h158 : H), R150 x157 h158 →
  VIf x157 (
    VRet h158 (Value.bool false) post) (
    ∃ R159 : H → Prop, (
      ∃ I160 : Nat → Int → H → Prop, (∃ n161, (∃ h163, Gh h158 h163 ∧ I160 n161 (0 : Int) h163)) ∧
      ∀ (n161 : Nat) (_ : F) (x164_k : Int) (h165 : H), I160 n161 x164_k h165 →
      f3_L5 p0_n post x3 r19 x149 R159 I160 n161 x164_k h165) ∧
    ∀ (_ : F) (h232 : H), R159 h232 →
    (∃ h233, Gh h232 h233 ∧ R34 h233))

def f3_J7 (p0_n : Int) (post : Value → H → Prop) (x3 : Option Addr) (r19 : Nat) (R34 : H → Prop) (x36 : SV) (x39 : Int) (x111_e : Int) (h112 : H) : Prop :=
  ∃ R113 : H → Prop, (
    VIf (((x36.len : Nat) : Int) == (1 : Int)) (
      ∃ R114 : Bool → H → Prop, (
        VIf (x111_e == (0 : Int)) (
          ∃ x115 : SV, H.rd h112 (Addr.add (Addr.mk r19 0 none) 0) (Value.slice x115.a x115.len x115.cap) ∧
          ∃ x116 : SV, H.rd h112 (Addr.add (Addr.mk r19 0 none) 1) (Value.slice x116.a x116.len x116.cap) ∧
          ∃ x117 : SV, H.rd h112 (Addr.add (Addr.mk r19 0 none) 2) (Value.slice x117.a x117.len x117.cap) ∧
          ∃ x118 : SV, H.rd h112 (Addr.add (Addr.mk r19 0 none) 3) (Value.slice x118.a x118.len x118.cap) ∧
          SemCall Go.Proofs.Tryd.prog 11 (List.toArray [(Value.agg (List.toArray [(Value.slice x115.a x115.len x115.cap), (Value.slice x116.a x116.len x116.cap), (Value.slice x117.a x117.len x117.cap), (Value.slice x118.a x118.len x118.cap)])), (Value.int .i64 x39)]) h112 fun v119 h120 =>
          ∃ x121 : SV, ∃ x122 : SV, ∃ x123 : SV, ∃ x124 : SV, ∃ x125 : Bool, v119 = (Value.tuple (List.toArray [(Value.agg (List.toArray [(Value.slice x121.a x121.len x121.cap), (Value.slice x122.a x122.len x122.cap), (Value.slice x123.a x123.len x123.cap), (Value.slice x124.a x124.len x124.cap)])), (Value.bool x125)])) ∧
          ([(Value.slice x121.a x121.len x121.cap), (Value.slice x122.a x122.len x122.cap), (Value.slice x123.a x123.len x123.cap), (Value.slice x124.a x124.len x124.cap)]).length = 4 ∧ (Program.underlying Go.Proofs.Tryd.prog 31).isSome = true ∧
          H.wr h120 (Addr.mk r19 0 none) ([(Value.slice x121.a x121.len x121.cap), (Value.slice x122.a x122.len x122.cap), (Value.slice x123.a x123.len x123.cap), (Value.slice x124.a x124.len x124.cap)]) fun h126 =>
          (∃ h127, Gh h126 h127 ∧ R114 x125 h127)) (
          (∃ h128, Gh h112 h128 ∧ R114 false h128))) ∧
      ∀ (_ : F) (x129_did : Bool) (h130 : H), R114 x129_did h130 →
      f3_J4 post x3 x39 x111_e R113 x129_did h130) (
      (∃ h144, Gh h112 h144 ∧ R113 h144))) ∧
  ∀ (_ : F) (h145 : H), R113 h145 →
  f3_J6 p0_n post x3 r19 R34 h145

def f3_J8 (p0_n : Int) (post : Value → H → Prop) (x3 : Option Addr) (r19 : Nat) (R34 : H → Prop) (x36 : SV) (x39 : Int) (x46_e : Int) (h47 : H) : Prop :=
  ∃ R48 : Int → H → Prop, (
    VIf (((x36.len : Nat) : Int) == (2 : Int)) (
      ∃ b49 : Addr, x36.a = some b49 ∧ 0 ≤ (1 : Int) ∧ (1 : Int) < ((x36.len : Nat) : Int) ∧
      ∃ x50 : Int, H.rd h47 (Addr.add (Addr.add b49 (((1 : Int)).toNat * 1)) 0) (Value.int .i64 x50) ∧
      ∃ R51 : Int → H → Prop, (
        VIf (x50 != (0 : Int)) (
          (∃ h52, Gh h47 h52 ∧ R51 (2 : Int) h52)) (
          (∃ h53, Gh h47 h53 ∧ R51 (0 : Int) h53))) ∧
      ∀ (_ : F) (x54_was : Int) (h55 : H), R51 x54_was h55 →
      f3_J3 post x3 r19 x39 x46_e R48 x54_was h55) (
      (∃ h110, Gh h47 h110 ∧ R48 x46_e h110))) ∧
  ∀ (_ : F) (x111_e : Int) (h112 : H), R48 x111_e h112 →
  f3_J7 p0_n post x3 r19 R34 x36 x39 x111_e h112

def f3_J9 (p0_n : Int) (p1_steps : SV) (post : Value → H → Prop) (x3 : Option Addr) (r19 : Nat) (R22 : H → Prop) (I23 : Nat → Int → H → Prop) (n24 : Nat) (x27_i : Int) (x32 : Bool) (h33 : H) : Prop :=
  VIf x32 (
    ∃ R34 : H → Prop, (
      ∃ b35 : Addr, p1_steps.a = some b35 ∧ 0 ≤ x27_i ∧ x27_i < ((p1_steps.len : Nat) : Int) ∧
      ∃ x36 : SV, H.rd h33 (Addr.add (Addr.add b35 ((x27_i).toNat * 1)) 0) (Value.slice x36.a x36.len x36.cap) ∧
      VIf (((x36.len : Nat) : Int) == (0 : Int)) (
        (∃ h37, Gh h33 h37 ∧ R34 h37)) (
        ∃ b38 : Addr, x36.a = some b38 ∧ 0 ≤ (0 : Int) ∧ (0 : Int) < ((x36.len : Nat) : Int) ∧
        ∃ x39 : Int, H.rd h33 (Addr.add (Addr.add b38 (((0 : Int)).toNat * 1)) 0) (Value.int .i64 x39) ∧
        In64 (p0_n - (1 : Int)) ∧
        SemCall Go.Proofs.Tryd.prog 8 (List.toArray [(Value.int .i64 x39), (Value.int .i64 (0 : Int)), (Value.int .i64 (p0_n - (1 : Int)))]) h33 fun v40 h41 =>
        ∃ x42 : Bool, v40 = (Value.bool x42) ∧
        ∃ R43 : Int → H → Prop, (
          VIf (!x42) (
            (∃ h44, Gh h41 h44 ∧ R43 (1 : Int) h44)) (
            (∃ h45, Gh h41 h45 ∧ R43 (0 : Int) h45))) ∧
        ∀ (_ : F) (x46_e : Int) (h47 : H), R43 x46_e h47 →
        f3_J8 p0_n post x3 r19 R34 x36 x39 x46_e h47)) ∧
    ∀ (_ : F) (h234 : H), R34 h234 →
    In64 (x27_i + (1 : Int)) ∧
    ∃ m25, m25 < n24 ∧ (∃ h235, Gh h234 h235 ∧ I23 m25 (x27_i + (1 : Int)) h235)) (
    (∃ h236, Gh h33 h236 ∧ R22 h236))

def f3_L10 (p0_n : Int) (p1_steps : SV) (post : Value → H → Prop) (x3 : Option Addr) (r19 : Nat) (R22 : H → Prop) (I23 : Nat → Int → H → Prop) (n24 : Nat) (x27_i : Int) (h28 : H) : Prop :=
  ∃ R29 : Bool → H → Prop, (
    VIf (decide (x27_i < ((p1_steps.len : Nat) : Int))) (
      (∃ h30, Gh h28 h30 ∧ R29 (decide (x27_i < (200 : Int))) h30)) (
      (∃ h31, Gh h28 h31 ∧ R29 false h31))) ∧
  ∀ (_ : F) (x32 : Bool) (h33 : H), R29 x32 h33 →
  f3_J9 p0_n p1_steps post x3 r19 R22 I23 n24 x27_i x32 h33

def f3_J11 (p0_n : Int) (post : Value → H → Prop) (x3 : Option Addr) (h237 : H) : Prop :=
  ∃ R238 : Bool → H → Prop, (
    SemCall Go.Proofs.Tryd.prog 15 (List.toArray [(Value.pointer x3), (Value.int .i64 (-1 : Int))]) h237 fun v239 h240 =>
    ∃ x241 : Int, v239 = (Value.int .i64 x241) ∧
    VIf (x241 == (-1 : Int)) (
      SemCall Go.Proofs.Tryd.prog 15 (List.toArray [(Value.pointer x3), (Value.int .i64 p0_n)]) h240 fun v242 h243 =>
      ∃ x244 : Int, v242 = (Value.int .i64 x244) ∧
      (∃ h245, Gh h243 h245 ∧ R238 (x244 == (-1 : Int)) h245)) (
      (∃ h246, Gh h240 h246 ∧ R238 false h246))) ∧
  ∀ (_ : F) (x247 : Bool) (h248 : H), R238 x247 h248 →
  VRet h248 (Value.bool x247) post

def f3_J12 (p0_n : Int) (p1_steps : SV) (post : Value → H → Prop) (x3 : Option Addr) (x4 : Option (TypeId × Value)) (x8 : Bool) (h9 : H) : Prop :=
  VIf x8 (
    SemCall Go.Proofs.Tryd.prog 6 (List.toArray [(errV x4), (Value.int .i64 (1 : Int))]) h9 fun v10 h11 =>
    ∃ x12 : Bool, v10 = (Value.bool x12) ∧
    VRet h11 (Value.bool x12) post) (
    isIfaceV (errV x4) = true ∧
    VIf (!(isNilV (errV x4))) (
      VRet h9 (Value.bool false) post) (
      SemCall Go.Proofs.Tryd.prog 7 (List.toArray [(Value.int .i64 p0_n)]) h9 fun v13 h14 =>
      ∃ x15 : SV, ∃ x16 : SV, ∃ x17 : SV, ∃ x18 : SV, v13 = (Value.agg (List.toArray [(Value.slice x15.a x15.len x15.cap), (Value.slice x16.a x16.len x16.cap), (Value.slice x17.a x17.len x17.cap), (Value.slice x18.a x18.len x18.cap)])) ∧
      H.new h14 [(Value.slice none 0 0), (Value.slice none 0 0), (Value.slice none 0 0), (Value.slice none 0 0)] fun r19 h20 =>
      ([(Value.slice x15.a x15.len x15.cap), (Value.slice x16.a x16.len x16.cap), (Value.slice x17.a x17.len x17.cap), (Value.slice x18.a x18.len x18.cap)]).length = 4 ∧ (Program.underlying Go.Proofs.Tryd.prog 31).isSome = true ∧
      H.wr h20 (Addr.mk r19 0 none) ([(Value.slice x15.a x15.len x15.cap), (Value.slice x16.a x16.len x16.cap), (Value.slice x17.a x17.len x17.cap), (Value.slice x18.a x18.len x18.cap)]) fun h21 =>
      ∃ R22 : H → Prop, (
        ∃ I23 : Nat → Int → H → Prop, (∃ n24, (∃ h26, Gh h21 h26 ∧ I23 n24 (0 : Int) h26)) ∧
        ∀ (n24 : Nat) (_ : F) (x27_i : Int) (h28 : H), I23 n24 x27_i h28 →
        f3_L10 p0_n p1_steps post x3 r19 R22 I23 n24 x27_i h28) ∧
      ∀ (_ : F) (h237 : H), R22 h237 →
      f3_J11 p0_n post x3 h237))

def f3_sem (p0_n : Int) (p1_steps : SV) (h0 : H) (post : Value → H → Prop) : Prop :=
  SemCall Go.Proofs.Tryd.prog 5 (List.toArray [(Value.int .i64 p0_n)]) h0 fun v1 h2 =>
  ∃ x3 : Option Addr, ∃ x4 : Option (TypeId × Value), v1 = (Value.tuple (List.toArray [(Value.pointer x3), (errV x4)])) ∧
  ∃ R5 : Bool → H → Prop, (
    VIf (decide (p0_n < (3 : Int))) (
      (∃ h6, Gh h2 h6 ∧ R5 true h6)) (
      (∃ h7, Gh h2 h7 ∧ R5 (decide (p0_n > (6 : Int))) h7))) ∧
  ∀ (_ : F) (x8 : Bool) (h9 : H), R5 x8 h9 →
  f3_J12 p0_n p1_steps post x3 x4 x8 h9

def f3_hint : Hint := (.node .leaf (.node .leaf (.node (.node (.join [(30, .bool)] .leaf) .leaf) (.node .leaf (.node .leaf (.node (.node .leaf (.join [] (.node (.loop [(8, .int)] (.node (.node (.join [(44, .bool)] .leaf) .leaf) (.node (.join [] (.node (.node .leaf (.node .leaf (.node .leaf (.node .leaf (.node (.node .leaf (.join [(11, .int)] .leaf)) (.node (.node .leaf (.join [(11, .int)] (.node (.node .leaf (.node (.node .leaf (.join [(12, .int)] .leaf)) (.node (.node (.join [(79, .bool)] .leaf) (.join [(11, .int)] .leaf)) (.node (.node .leaf (.join [] .leaf)) (.node (.join [(117, .bool)] .leaf) .leaf))))) .leaf))) (.node (.node .leaf (.join [] (.node (.node .leaf (.node (.node .leaf (.join [(14, .bool)] .leaf)) (.node .leaf (.node (.join [(143, .bool)] .leaf) .leaf)))) .leaf))) (.node .leaf (.node (.node (.join [(159, .bool)] .leaf) .leaf) (.node .leaf (.join [] (.node (.loop [(19, .int)] (.node .leaf (.node (.node (.node (.join [(186, .bool)] .any2) .leaf) .leaf) .leaf))) .leaf)))))))))))) .leaf)) .leaf))) .leaf))) (.node (.join [(4, .bool)] .leaf) .leaf)))))))

theorem f3_eq (p0_n : Int) (p1_steps : SV) (h0 : H) (post : Value → H → Prop) : exec Tryd.prog (bodyOf Tryd.f3) f3_hint (retQ Tryd.prog Tryd.f3 post) (F0 [(Value.int .i64 p0_n), (Value.slice p1_steps.a p1_steps.len p1_steps.cap)]) h0 = f3_sem p0_n p1_steps h0 post := by kernel_rfl

set_option maxRecDepth 20000 in
theorem f3_call (p0_n : Int) (p1_steps : SV) (h0 : H) (post : Value → H → Prop) (hx : f3_sem p0_n p1_steps h0 post) : SemCall Tryd.prog 3 (List.toArray [(Value.int .i64 p0_n), (Value.slice p1_steps.a p1_steps.len p1_steps.cap)]) h0 post :=
  sem_of_exec (g := f3_hint) mixed Tryd.func3 (bodyOf_eq (by kernel_rfl)) (by kernel_rfl) ((f3_eq p0_n p1_steps h0 post).mpr hx)

/- latchgarth/latchgarthlaw4.DequePlays -/
def f4_J1 (post : Value → H → Prop) (x3 : Option Addr) (r22 : Nat) (x39 : SV) (R161 : H → Prop) (x330_y : Addr) (x331_done : Bool) (x332_got : Int) (x333_e : Int) (h334 : H) : Prop :=
  ∃ x335 : SV, H.rd h334 (Addr.add x330_y 0) (Value.slice x335.a x335.len x335.cap) ∧
  ∃ x336 : Int, H.rd h334 (Addr.add x330_y 1) (Value.int .i64 x336) ∧
  ∃ x337 : Int, H.rd h334 (Addr.add x330_y 2) (Value.int .i64 x337) ∧
  ∃ x338 : SV, H.rd h334 (Addr.add x330_y 3) (Value.slice x338.a x338.len x338.cap) ∧
  ∃ x339 : SV, H.rd h334 (Addr.add x330_y 4) (Value.slice x339.a x339.len x339.cap) ∧
  ∃ x340 : SV, H.rd h334 (Addr.add x330_y 5) (Value.slice x340.a x340.len x340.cap) ∧
  ∃ x341 : SV, H.rd h334 (Addr.add x330_y 6) (Value.slice x341.a x341.len x341.cap) ∧
  ([(Value.slice x335.a x335.len x335.cap), (Value.int .i64 x336), (Value.int .i64 x337), (Value.slice x338.a x338.len x338.cap), (Value.slice x339.a x339.len x339.cap), (Value.slice x340.a x340.len x340.cap), (Value.slice x341.a x341.len x341.cap)]).length = 7 ∧ (Program.underlying Go.Proofs.Tryd.prog 49).isSome = true ∧
  H.wr h334 (Addr.mk r22 0 none) ([(Value.slice x335.a x335.len x335.cap), (Value.int .i64 x336), (Value.int .i64 x337), (Value.slice x338.a x338.len x338.cap), (Value.slice x339.a x339.len x339.cap), (Value.slice x340.a x340.len x340.cap), (Value.slice x341.a x341.len x341.cap)]) fun h342 =>
  ∃ b343 : Addr, x39.a = some b343 ∧ 0 ≤ (0 : Int) ∧ (0 : Int) < ((x39.len : Nat) : Int) ∧
  ∃ x344 : Int, H.rd h342 (Addr.add (Addr.add b343 (((0 : Int)).toNat * 1)) 0) (Value.int .i64 x344) ∧
  SemCall Go.Proofs.Tryd.prog 23 (List.toArray [(Value.pointer x3), (Value.int .i64 x344)]) h342 fun v345 h346 =>
  ∃ x347 : Bool, ∃ x348 : Int, ∃ x349 : Option (TypeId × Value), v345 = (Value.tuple (List.toArray [(Value.bool x347), (Value.int .i64 x348), (errV x349)])) ∧
  ∃ R350 : Bool → H → Prop, (
    SemCall Go.Proofs.Tryd.prog 6 (List.toArray [(errV x349), (Value.int .i64 x333_e)]) h346 fun v351 h352 =>
    ∃ x353 : Bool, v351 = (Value.bool x353) ∧
    VIf (!x353) (
      (∃ h354, Gh h352 h354 ∧ R350 true h354)) (
      VIf (!(x347 == x331_done)) (
        (∃ h355, Gh h352 h355 ∧ R350 true h355)) (
        (∃ h356, Gh h352 h356 ∧ R350 (x348 != x332_got) h356)))) ∧
  ∀ (_ : F) (x357 : Bool) (h358 : H), R350 x357 h358 →
  VIf x357 (
    VRet h358 (Value.bool false) post) (
    (∃ h359, Gh h358 h359 ∧ R161 h359))

def f4_L2 (p0_n : Int) (post : Value → H → Prop) (x3 : Option Addr) (r22 : Nat) (R389 : H → Prop) (I390 : Nat → Int → H → Prop) (n391 : Nat) (x394_q : Int) (h395 : H) : Prop :=
  VIf (decide (x394_q < p0_n)) (
    ∃ R396 : Bool → H → Prop, (
      (
        SemCall Go.Proofs.Tryd.prog 26 (List.toArray [(Value.pointer x3), (Value.int .i64 x394_q)]) h395 fun v397 h398 =>
        ∃ x399 : Int, v397 = (Value.int .i64 x399) ∧
        ∃ x400 : SV, H.rd h398 (Addr.add (Addr.add (Addr.mk r22 0 none) 3) 0) (Value.slice x400.a x400.len x400.cap) ∧
        ∃ b401 : Addr, x400.a = some b401 ∧ 0 ≤ x394_q ∧ x394_q < ((x400.len : Nat) : Int) ∧
        ∃ x402 : Int, H.rd h398 (Addr.add (Addr.add b401 ((x394_q).toNat * 1)) 0) (Value.int .i64 x402) ∧
        (∃ h403, Gh h398 h403 ∧ R396 (x399 != x402) h403)) ∧
      (
        ∃ x404 : SV, H.rd h395 (Addr.add (Addr.add (Addr.mk r22 0 none) 3) 0) (Value.slice x404.a x404.len x404.cap) ∧
        ∃ b405 : Addr, x404.a = some b405 ∧ 0 ≤ x394_q ∧ x394_q < ((x404.len : Nat) : Int) ∧
        (
          SemCall Go.Proofs.Tryd.prog 26 (List.toArray [(Value.pointer x3), (Value.int .i64 x394_q)]) h395 fun v406 h407 =>
          ∃ x408 : Int, v406 = (Value.int .i64 x408) ∧
          ∃ x409 : Int, H.rd h407 (Addr.add (Addr.add b405 ((x394_q).toNat * 1)) 0) (Value.int .i64 x409) ∧
          (∃ h410, Gh h407 h410 ∧ R396 (x408 != x409) h410)) ∧
        (
          ∃ x411 : Int, H.rd h395 (Addr.add (Addr.add b405 ((x394_q).toNat * 1)) 0) (Value.int .i64 x411) ∧
          SemCall Go.Proofs.Tryd.prog 26 (List.toArray [(Value.pointer x3), (Value.int .i64 x394_q)]) h395 fun v412 h413 =>
          ∃ x414 : Int, v412 = (Value.int .i64 x414) ∧
          (∃ h415, Gh h413 h415 ∧ R396 (x414 != x411) h415)))) ∧
    ∀ (_ : F) (x416 : Bool) (h417 : H), R396 x416 h417 →
    VIf x416 (
      VRet h417 (Value.bool false) post) (
      In64 (x394_q + (1 : Int)) ∧
      ∃ m392, m392 < n391 ∧ (∃ h418, Gh h417 h418 ∧ I390 m392 (x394_q + (1 : Int)) h418))) (
    (∃ h419, Gh h395 h419 ∧ R389 h419))

def f4_J3 (p0_n : Int) (post : Value → H → Prop) (x3 : Option Addr) (r22 : Nat) (R37 : H → Prop) (h361 : H) : Prop :=
  SemCall Go.Proofs.Tryd.prog 24 (List.toArray [(Value.pointer x3)]) h361 fun v362 h363 =>
  ∃ x364 : Int, ∃ x365 : Int, v362 = (Value.tuple (List.toArray [(Value.int .i64 x364), (Value.int .i64 x365)])) ∧
  ∃ R366 : Bool → H → Prop, (
    ∃ x367 : Int, H.rd h363 (Addr.add (Addr.add (Addr.mk r22 0 none) 1) 0) (Value.int .i64 x367) ∧
    VIf (x364 != x367) (
      (∃ h368, Gh h363 h368 ∧ R366 true h368)) (
      ∃ x369 : Int, H.rd h363 (Addr.add (Addr.add (Addr.mk r22 0 none) 2) 0) (Value.int .i64 x369) ∧
      VIf (x365 != x369) (
        (∃ h370, Gh h363 h370 ∧ R366 true h370)) (
        (
          SemCall Go.Proofs.Tryd.prog 25 (List.toArray [(Value.pointer x3)]) h363 fun v371 h372 =>
          ∃ x373 : SV, v371 = (Value.slice x373.a x373.len x373.cap) ∧
          ∃ x374 : SV, H.rd h372 (Addr.add (Addr.add (Addr.mk r22 0 none) 0) 0) (Value.slice x374.a x374.len x374.cap) ∧
          SemCall Go.Proofs.Tryd.prog 14 (List.toArray [(Value.slice x373.a x373.len x373.cap), (Value.slice x374.a x374.len x374.cap)]) h372 fun v375 h376 =>
          ∃ x377 : Bool, v375 = (Value.bool x377) ∧
          (∃ h378, Gh h376 h378 ∧ R366 (!x377) h378)) ∧
        (
          ∃ x379 : SV, H.rd h363 (Addr.add (Addr.add (Addr.mk r22 0 none) 0) 0) (Value.slice x379.a x379.len x379.cap) ∧
          SemCall Go.Proofs.Tryd.prog 25 (List.toArray [(Value.pointer x3)]) h363 fun v380 h381 =>
          ∃ x382 : SV, v380 = (Value.slice x382.a x382.len x382.cap) ∧
          SemCall Go.Proofs.Tryd.prog 14 (List.toArray [(Value.slice x382.a x382.len x382.cap), (Value.slice x379.a x379.len x379.cap)]) h381 fun v383 h384 =>
          ∃ x385 : Bool, v383 = (Value.bool x385) ∧
          (∃ h386, Gh h384 h386 ∧ R366 (!x385) h386))))) ∧
  ∀ (_ : F) (x387 : Bool) (h388 : H), R366 x387 h388 →
  VIf x387 (
    VRet h388 (Value.bool false) post) (
    ∃ R389 : H → Prop, (
      ∃ I390 : Nat → Int → H → Prop, (∃ n391, (∃ h393, Gh h388 h393 ∧ I390 n391 (0 : Int) h393)) ∧
      ∀ (n391 : Nat) (_ : F) (x394_q : Int) (h395 : H), I390 n391 x394_q h395 →
      f4_L2 p0_n post x3 r22 R389 I390 n391 x394_q h395) ∧
    ∀ (_ : F) (h420 : H), R389 h420 →
    (∃ h421, Gh h420 h421 ∧ R37 h421))

def f4_J4 (p0_n : Int) (post : Value → H → Prop) (x3 : Option Addr) (r22 : Nat) (R37 : H → Prop) (x39 : SV) (h160 : H) : Prop :=
  ∃ R161 : H → Prop, (
    VIf (((x39.len : Nat) : Int) == (1 : Int)) (
      ∃ R162 : Addr → Bool → Int → Int → H → Prop, (
        ∃ b163 : Addr, x39.a = some b163 ∧ 0 ≤ (0 : Int) ∧ (0 : Int) < ((x39.len : Nat) : Int) ∧
        (
          ∃ x164 : SV, H.rd h160 (Addr.add (Addr.mk r22 0 none) 0) (Value.slice x164.a x164.len x164.cap) ∧
          ∃ x165 : Int, H.rd h160 (Addr.add (Addr.mk r22 0 none) 1) (Value.int .i64 x165) ∧
          ∃ x166 : Int, H.rd h160 (Addr.add (Addr.mk r22 0 none) 2) (Value.int .i64 x166) ∧
          ∃ x167 : SV, H.rd h160 (Addr.add (Addr.mk r22 0 none) 3) (Value.slice x167.a x167.len x167.cap) ∧
          ∃ x168 : SV, H.rd h160 (Addr.add (Addr.mk r22 0 none) 4) (Value.slice x168.a x168.len x168.cap) ∧
          ∃ x169 : SV, H.rd h160 (Addr.add (Addr.mk r22 0 none) 5) (Value.slice x169.a x169.len x169.cap) ∧
          ∃ x170 : SV, H.rd h160 (Addr.add (Addr.mk r22 0 none) 6) (Value.slice x170.a x170.len x170.cap) ∧
          (
            ∃ x171 : Int, H.rd h160 (Addr.add (Addr.add b163 (((0 : Int)).toNat * 1)) 0) (Value.int .i64 x171) ∧
            (
              SemCall Go.Proofs.Tryd.prog 22 (List.toArray [(Value.agg (List.toArray [(Value.slice x164.a x164.len x164.cap), (Value.int .i64 x165), (Value.int .i64 x166), (Value.slice x167.a x167.len x167.cap), (Value.slice x168.a x168.len x168.cap), (Value.slice x169.a x169.len x169.cap), (Value.slice x170.a x170.len x170.cap)])), (Value.int .i64 x171)]) h160 fun v172 h173 =>
              ∃ x174 : SV, ∃ x175 : Int, ∃ x176 : Int, ∃ x177 : SV, ∃ x178 : SV, ∃ x179 : SV, ∃ x180 : SV, ∃ x181 : Bool, ∃ x182 : Int, ∃ x183 : Int, v172 = (Value.tuple (List.toArray [(Value.agg (List.toArray [(Value.slice x174.a x174.len x174.cap), (Value.int .i64 x175), (Value.int .i64 x176), (Value.slice x177.a x177.len x177.cap), (Value.slice x178.a x178.len x178.cap), (Value.slice x179.a x179.len x179.cap), (Value.slice x180.a x180.len x180.cap)])), (Value.bool x181), (Value.int .i64 x182), (Value.int .i64 x183)])) ∧
              H.new h173 [(Value.slice none 0 0), (Value.int .i64 (0 : Int)), (Value.int .i64 (0 : Int)), (Value.slice none 0 0), (Value.slice none 0 0), (Value.slice none 0 0), (Value.slice none 0 0)] fun r184 h185 =>
              ([(Value.slice x174.a x174.len x174.cap), (Value.int .i64 x175), (Value.int .i64 x176), (Value.slice x177.a x177.len x177.cap), (Value.slice x178.a x178.len x178.cap), (Value.slice x179.a x179.len x179.cap), (Value.slice x180.a x180.len x180.cap)]).length = 7 ∧ (Program.underlying Go.Proofs.Tryd.prog 49).isSome = true ∧
              H.wr h185 (Addr.mk r184 0 none) ([(Value.slice x174.a x174.len x174.cap), (Value.int .i64 x175), (Value.int .i64 x176), (Value.slice x177.a x177.len x177.cap), (Value.slice x178.a x178.len x178.cap), (Value.slice x179.a x179.len x179.cap), (Value.slice x180.a x180.len x180.cap)]) fun h186 =>
              (∃ h187, Gh h186 h187 ∧ R162 (Addr.mk r184 0 none) x181 x182 x183 h187)) ∧
            (
              H.new h160 [(Value.slice none 0 0), (Value.int .i64 (0 : Int)), (Value.int .i64 (0 : Int)), (Value.slice none 0 0), (Value.slice none 0 0), (Value.slice none 0 0), (Value.slice none 0 0)] fun r188 h189 =>
              SemCall Go.Proofs.Tryd.prog 22 (List.toArray [(Value.agg (List.toArray [(Value.slice x164.a x164.len x164.cap), (Value.int .i64 x165), (Value.int .i64 x166), (Value.slice x167.a x167.len x167.cap), (Value.slice x168.a x168.len x168.cap), (Value.slice x169.a x169.len x169.cap), (Value.slice x170.a x170.len x170.cap)])), (Value.int .i64 x171)]) h189 fun v190 h191 =>
              ∃ x192 : SV, ∃ x193 : Int, ∃ x194 : Int, ∃ x195 : SV, ∃ x196 : SV, ∃ x197 : SV, ∃ x198 : SV, ∃ x199 : Bool, ∃ x200 : Int, ∃ x201 : Int, v190 = (Value.tuple (List.toArray [(Value.agg (List.toArray [(Value.slice x192.a x192.len x192.cap), (Value.int .i64 x193), (Value.int .i64 x194), (Value.slice x195.a x195.len x195.cap), (Value.slice x196.a x196.len x196.cap), (Value.slice x197.a x197.len x197.cap), (Value.slice x198.a x198.len x198.cap)])), (Value.bool x199), (Value.int .i64 x200), (Value.int .i64 x201)])) ∧
              ([(Value.slice x192.a x192.len x192.cap), (Value.int .i64 x193), (Value.int .i64 x194), (Value.slice x195.a x195.len x195.cap), (Value.slice x196.a x196.len x196.cap), (Value.slice x197.a x197.len x197.cap), (Value.slice x198.a x198.len x198.cap)]).length = 7 ∧ (Program.underlying Go.Proofs.Tryd.prog 49).isSome = true ∧
              H.wr h191 (Addr.mk r188 0 none) ([(Value.slice x192.a x192.len x192.cap), (Value.int .i64 x193), (Value.int .i64 x194), (Value.slice x195.a x195.len x195.cap), (Value.slice x196.a x196.len x196.cap), (Value.slice x197.a x197.len x197.cap), (Value.slice x198.a x198.len x198.cap)]) fun h202 =>
              (∃ h203, Gh h202 h203 ∧ R162 (Addr.mk r188 0 none) x199 x200 x201 h203))) ∧
          (
            H.new h160 [(Value.slice none 0 0), (Value.int .i64 (0 : Int)), (Value.int .i64 (0 : Int)), (Value.slice none 0 0), (Value.slice none 0 0), (Value.slice none 0 0), (Value.slice none 0 0)] fun r204 h205 =>
            ∃ x206 : Int, H.rd h205 (Addr.add (Addr.add b163 (((0 : Int)).toNat * 1)) 0) (Value.int .i64 x206) ∧
            SemCall Go.Proofs.Tryd.prog 22 (List.toArray [(Value.agg (List.toArray [(Value.slice x164.a x164.len x164.cap), (Value.int .i64 x165), (Value.int .i64 x166), (Value.slice x167.a x167.len x167.cap), (Value.slice x168.a x168.len x168.cap), (Value.slice x169.a x169.len x169.cap), (Value.slice x170.a x170.len x170.cap)])), (Value.int .i64 x206)]) h205 fun v207 h208 =>
            ∃ x209 : SV, ∃ x210 : Int, ∃ x211 : Int, ∃ x212 : SV, ∃ x213 : SV, ∃ x214 : SV, ∃ x215 : SV, ∃ x216 : Bool, ∃ x217 : Int, ∃ x218 : Int, v207 = (Value.tuple (List.toArray [(Value.agg (List.toArray [(Value.slice x209.a x209.len x209.cap), (Value.int .i64 x210), (Value.int .i64 x211), (Value.slice x212.a x212.len x212.cap), (Value.slice x213.a x213.len x213.cap), (Value.slice x214.a x214.len x214.cap), (Value.slice x215.a x215.len x215.cap)])), (Value.bool x216), (Value.int .i64 x217), (Value.int .i64 x218)])) ∧
            ([(Value.slice x209.a x209.len x209.cap), (Value.int .i64 x210), (Value.int .i64 x211), (Value.slice x212.a x212.len x212.cap), (Value.slice x213.a x213.len x213.cap), (Value.slice x214.a x214.len x214.cap), (Value.slice x215.a x215.len x215.cap)]).length = 7 ∧ (Program.underlying Go.Proofs.Tryd.prog 49).isSome = true ∧
            H.wr h208 (Addr.mk r204 0 none) ([(Value.slice x209.a x209.len x209.cap), (Value.int .i64 x210), (Value.int .i64 x211), (Value.slice x212.a x212.len x212.cap), (Value.slice x213.a x213.len x213.cap), (Value.slice x214.a x214.len x214.cap), (Value.slice x215.a x215.len x215.cap)]) fun h219 =>
            (∃ h220, Gh h219 h220 ∧ R162 (Addr.mk r204 0 none) x216 x217 x218 h220))) ∧
        (
          (
            ∃ x221 : Int, H.rd h160 (Addr.add (Addr.add b163 (((0 : Int)).toNat * 1)) 0) (Value.int .i64 x221) ∧
            (
              ∃ x222 : SV, H.rd h160 (Addr.add (Addr.mk r22 0 none) 0) (Value.slice x222.a x222.len x222.cap) ∧
              ∃ x223 : Int, H.rd h160 (Addr.add (Addr.mk r22 0 none) 1) (Value.int .i64 x223) ∧
              ∃ x224 : Int, H.rd h160 (Addr.add (Addr.mk r22 0 none) 2) (Value.int .i64 x224) ∧
              ∃ x225 : SV, H.rd h160 (Addr.add (Addr.mk r22 0 none) 3) (Value.slice x225.a x225.len x225.cap) ∧
              ∃ x226 : SV, H.rd h160 (Addr.add (Addr.mk r22 0 none) 4) (Value.slice x226.a x226.len x226.cap) ∧
              ∃ x227 : SV, H.rd h160 (Addr.add (Addr.mk r22 0 none) 5) (Value.slice x227.a x227.len x227.cap) ∧
              ∃ x228 : SV, H.rd h160 (Addr.add (Addr.mk r22 0 none) 6) (Value.slice x228.a x228.len x228.cap) ∧
              (
                SemCall Go.Proofs.Tryd.prog 22 (List.toArray [(Value.agg (List.toArray [(Value.slice x222.a x222.len x222.cap), (Value.int .i64 x223), (Value.int .i64 x224), (Value.slice x225.a x225.len x225.cap), (Value.slice x226.a x226.len x226.cap), (Value.slice x227.a x227.len x227.cap), (Value.slice x228.a x228.len x228.cap)])), (Value.int .i64 x221)]) h160 fun v229 h230 =>
                ∃ x231 : SV, ∃ x232 : Int, ∃ x233 : Int, ∃ x234 : SV, ∃ x235 : SV, ∃ x236 : SV, ∃ x237 : SV, ∃ x238 : Bool, ∃ x239 : Int, ∃ x240 : Int, v229 = (Value.tuple (List.toArray [(Value.agg (List.toArray [(Value.slice x231.a x231.len x231.cap), (Value.int .i64 x232), (Value.int .i64 x233), (Value.slice x234.a x234.len x234.cap), (Value.slice x235.a x235.len x235.cap), (Value.slice x236.a x236.len x236.cap), (Value.slice x237.a x237.len x237.cap)])), (Value.bool x238), (Value.int .i64 x239), (Value.int .i64 x240)])) ∧
                H.new h230 [(Value.slice none 0 0), (Value.int .i64 (0 : Int)), (Value.int .i64 (0 : Int)), (Value.slice none 0 0), (Value.slice none 0 0), (Value.slice none 0 0), (Value.slice none 0 0)] fun r241 h242 =>
                ([(Value.slice x231.a x231.len x231.cap), (Value.int .i64 x232), (Value.int .i64 x233), (Value.slice x234.a x234.len x234.cap), (Value.slice x235.a x235.len x235.cap), (Value.slice x236.a x236.len x236.cap), (Value.slice x237.a x237.len x237.cap)]).length = 7 ∧ (Program.underlying Go.Proofs.Tryd.prog 49).isSome = true ∧
                H.wr h242 (Addr.mk r241 0 none) ([(Value.slice x231.a x231.len x231.cap), (Value.int .i64 x232), (Value.int .i64 x233), (Value.slice x234.a x234.len x234.cap), (Value.slice x235.a x235.len x235.cap), (Value.slice x236.a x236.len x236.cap), (Value.slice x237.a x237.len x237.cap)]) fun h243 =>
                (∃ h244, Gh h243 h244 ∧ R162 (Addr.mk r241 0 none) x238 x239 x240 h244)) ∧
              (
                H.new h160 [(Value.slice none 0 0), (Value.int .i64 (0 : Int)), (Value.int .i64 (0 : Int)), (Value.slice none 0 0), (Value.slice none 0 0), (Value.slice none 0 0), (Value.slice none 0 0)] fun r245 h246 =>
                SemCall Go.Proofs.Tryd.prog 22 (List.toArray [(Value.agg (List.toArray [(Value.slice x222.a x222.len x222.cap), (Value.int .i64 x223), (Value.int .i64 x224), (Value.slice x225.a x225.len x225.cap), (Value.slice x226.a x226.len x226.cap), (Value.slice x227.a x227.len x227.cap), (Value.slice x228.a x228.len x228.cap)])), (Value.int .i64 x221)]) h246 fun v247 h248 =>
                ∃ x249 : SV, ∃ x250 : Int, ∃ x251 : Int, ∃ x252 : SV, ∃ x253 : SV, ∃ x254 : SV, ∃ x255 : SV, ∃ x256 : Bool, ∃ x257 : Int, ∃ x258 : Int, v247 = (Value.tuple (List.toArray [(Value.agg (List.toArray [(Value.slice x249.a x249.len x249.cap), (Value.int .i64 x250), (Value.int .i64 x251), (Value.slice x252.a x252.len x252.cap), (Value.slice x253.a x253.len x253.cap), (Value.slice x254.a x254.len x254.cap), (Value.slice x255.a x255.len x255.cap)])), (Value.bool x256), (Value.int .i64 x257), (Value.int .i64 x258)])) ∧
                ([(Value.slice x249.a x249.len x249.cap), (Value.int .i64 x250), (Value.int .i64 x251), (Value.slice x252.a x252.len x252.cap), (Value.slice x253.a x253.len x253.cap), (Value.slice x254.a x254.len x254.cap), (Value.slice x255.a x255.len x255.cap)]).length = 7 ∧ (Program.underlying Go.Proofs.Tryd.prog 49).isSome = true ∧
                H.wr h248 (Addr.mk r245 0 none) ([(Value.slice x249.a x249.len x249.cap), (Value.int .i64 x250), (Value.int .i64 x251), (Value.slice x252.a x252.len x252.cap), (Value.slice x253.a x253.len x253.cap), (Value.slice x254.a x254.len x254.cap), (Value.slice x255.a x255.len x255.cap)]) fun h259 =>
                (∃ h260, Gh h259 h260 ∧ R162 (Addr.mk r245 0 none) x256 x257 x258 h260))) ∧
            (
              H.new h160 [(Value.slice none 0 0), (Value.int .i64 (0 : Int)), (Value.int .i64 (0 : Int)), (Value.slice none 0 0), (Value.slice none 0 0), (Value.slice none 0 0), (Value.slice none 0 0)] fun r261 h262 =>
              ∃ x263 : SV, H.rd h262 (Addr.add (Addr.mk r22 0 none) 0) (Value.slice x263.a x263.len x263.cap) ∧
              ∃ x264 : Int, H.rd h262 (Addr.add (Addr.mk r22 0 none) 1) (Value.int .i64 x264) ∧
              ∃ x265 : Int, H.rd h262 (Addr.add (Addr.mk r22 0 none) 2) (Value.int .i64 x265) ∧
              ∃ x266 : SV, H.rd h262 (Addr.add (Addr.mk r22 0 none) 3) (Value.slice x266.a x266.len x266.cap) ∧
              ∃ x267 : SV, H.rd h262 (Addr.add (Addr.mk r22 0 none) 4) (Value.slice x267.a x267.len x267.cap) ∧
              ∃ x268 : SV, H.rd h262 (Addr.add (Addr.mk r22 0 none) 5) (Value.slice x268.a x268.len x268.cap) ∧
              ∃ x269 : SV, H.rd h262 (Addr.add (Addr.mk r22 0 none) 6) (Value.slice x269.a x269.len x269.cap) ∧
              SemCall Go.Proofs.Tryd.prog 22 (List.toArray [(Value.agg (List.toArray [(Value.slice x263.a x263.len x263.cap), (Value.int .i64 x264), (Value.int .i64 x265), (Value.slice x266.a x266.len x266.cap), (Value.slice x267.a x267.len x267.cap), (Value.slice x268.a x268.len x268.cap), (Value.slice x269.a x269.len x269.cap)])), (Value.int .i64 x221)]) h262 fun v270 h271 =>
              ∃ x272 : SV, ∃ x273 : Int, ∃ x274 : Int, ∃ x275 : SV, ∃ x276 : SV, ∃ x277 : SV, ∃ x278 : SV, ∃ x279 : Bool, ∃ x280 : Int, ∃ x281 : Int, v270 = (Value.tuple (List.toArray [(Value.agg (List.toArray [(Value.slice x272.a x272.len x272.cap), (Value.int .i64 x273), (Value.int .i64 x274), (Value.slice x275.a x275.len x275.cap), (Value.slice x276.a x276.len x276.cap), (Value.slice x277.a x277.len x277.cap), (Value.slice x278.a x278.len x278.cap)])), (Value.bool x279), (Value.int .i64 x280), (Value.int .i64 x281)])) ∧
              ([(Value.slice x272.a x272.len x272.cap), (Value.int .i64 x273), (Value.int .i64 x274), (Value.slice x275.a x275.len x275.cap), (Value.slice x276.a x276.len x276.cap), (Value.slice x277.a x277.len x277.cap), (Value.slice x278.a x278.len x278.cap)]).length = 7 ∧ (Program.underlying Go.Proofs.Tryd.prog 49).isSome = true ∧
              H.wr h271 (Addr.mk r261 0 none) ([(Value.slice x272.a x272.len x272.cap), (Value.int .i64 x273), (Value.int .i64 x274), (Value.slice x275.a x275.len x275.cap), (Value.slice x276.a x276.len x276.cap), (Value.slice x277.a x277.len x277.cap), (Value.slice x278.a x278.len x278.cap)]) fun h282 =>
              (∃ h283, Gh h282 h283 ∧ R162 (Addr.mk r261 0 none) x279 x280 x281 h283))) ∧
          (
            H.new h160 [(Value.slice none 0 0), (Value.int .i64 (0 : Int)), (Value.int .i64 (0 : Int)), (Value.slice none 0 0), (Value.slice none 0 0), (Value.slice none 0 0), (Value.slice none 0 0)] fun r284 h285 =>
            (
              ∃ x286 : SV, H.rd h285 (Addr.add (Addr.mk r22 0 none) 0) (Value.slice x286.a x286.len x286.cap) ∧
              ∃ x287 : Int, H.rd h285 (Addr.add (Addr.mk r22 0 none) 1) (Value.int .i64 x287) ∧
              ∃ x288 : Int, H.rd h285 (Addr.add (Addr.mk r22 0 none) 2) (Value.int .i64 x288) ∧
              ∃ x289 : SV, H.rd h285 (Addr.add (Addr.mk r22 0 none) 3) (Value.slice x289.a x289.len x289.cap) ∧
              ∃ x290 : SV, H.rd h285 (Addr.add (Addr.mk r22 0 none) 4) (Value.slice x290.a x290.len x290.cap) ∧
              ∃ x291 : SV, H.rd h285 (Addr.add (Addr.mk r22 0 none) 5) (Value.slice x291.a x291.len x291.cap) ∧
              ∃ x292 : SV, H.rd h285 (Addr.add (Addr.mk r22 0 none) 6) (Value.slice x292.a x292.len x292.cap) ∧
              ∃ x293 : Int, H.rd h285 (Addr.add (Addr.add b163 (((0 : Int)).toNat * 1)) 0) (Value.int .i64 x293) ∧
              SemCall Go.Proofs.Tryd.prog 22 (List.toArray [(Value.agg (List.toArray [(Value.slice x286.a x286.len x286.cap), (Value.int .i64 x287), (Value.int .i64 x288), (Value.slice x289.a x289.len x289.cap), (Value.slice x290.a x290.len x290.cap), (Value.slice x291.a x291.len x291.cap), (Value.slice x292.a x292.len x292.cap)])), (Value.int .i64 x293)]) h285 fun v294 h295 =>
              ∃ x296 : SV, ∃ x297 : Int, ∃ x298 : Int, ∃ x299 : SV, ∃ x300 : SV, ∃ x301 : SV, ∃ x302 : SV, ∃ x303 : Bool, ∃ x304 : Int, ∃ x305 : Int, v294 = (Value.tuple (List.toArray [(Value.agg (List.toArray [(Value.slice x296.a x296.len x296.cap), (Value.int .i64 x297), (Value.int .i64 x298), (Value.slice x299.a x299.len x299.cap), (Value.slice x300.a x300.len x300.cap), (Value.slice x301.a x301.len x301.cap), (Value.slice x302.a x302.len x302.cap)])), (Value.bool x303), (Value.int .i64 x304), (Value.int .i64 x305)])) ∧
              ([(Value.slice x296.a x296.len x296.cap), (Value.int .i64 x297), (Value.int .i64 x298), (Value.slice x299.a x299.len x299.cap), (Value.slice x300.a x300.len x300.cap), (Value.slice x301.a x301.len x301.cap), (Value.slice x302.a x302.len x302.cap)]).length = 7 ∧ (Program.underlying Go.Proofs.Tryd.prog 49).isSome = true ∧
              H.wr h295 (Addr.mk r284 0 none) ([(Value.slice x296.a x296.len x296.cap), (Value.int .i64 x297), (Value.int .i64 x298), (Value.slice x299.a x299.len x299.cap), (Value.slice x300.a x300.len x300.cap), (Value.slice x301.a x301.len x301.cap), (Value.slice x302.a x302.len x302.cap)]) fun h306 =>
              (∃ h307, Gh h306 h307 ∧ R162 (Addr.mk r284 0 none) x303 x304 x305 h307)) ∧
            (
              ∃ x308 : Int, H.rd h285 (Addr.add (Addr.add b163 (((0 : Int)).toNat * 1)) 0) (Value.int .i64 x308) ∧
              ∃ x309 : SV, H.rd h285 (Addr.add (Addr.mk r22 0 none) 0) (Value.slice x309.a x309.len x309.cap) ∧
              ∃ x310 : Int, H.rd h285 (Addr.add (Addr.mk r22 0 none) 1) (Value.int .i64 x310) ∧
              ∃ x311 : Int, H.rd h285 (Addr.add (Addr.mk r22 0 none) 2) (Value.int .i64 x311) ∧
              ∃ x312 : SV, H.rd h285 (Addr.add (Addr.mk r22 0 none) 3) (Value.slice x312.a x312.len x312.cap) ∧
              ∃ x313 : SV, H.rd h285 (Addr.add (Addr.mk r22 0 none) 4) (Value.slice x313.a x313.len x313.cap) ∧
              ∃ x314 : SV, H.rd h285 (Addr.add (Addr.mk r22 0 none) 5) (Value.slice x314.a x314.len x314.cap) ∧
              ∃ x315 : SV, H.rd h285 (Addr.add (Addr.mk r22 0 none) 6) (Value.slice x315.a x315.len x315.cap) ∧
              SemCall Go.Proofs.Tryd.prog 22 (List.toArray [(Value.agg (List.toArray [(Value.slice x309.a x309.len x309.cap), (Value.int .i64 x310), (Value.int .i64 x311), (Value.slice x312.a x312.len x312.cap), (Value.slice x313.a x313.len x313.cap), (Value.slice x314.a x314.len x314.cap), (Value.slice x315.a x315.len x315.cap)])), (Value.int .i64 x308)]) h285 fun v316 h317 =>
              ∃ x318 : SV, ∃ x319 : Int, ∃ x320 : Int, ∃ x321 : SV, ∃ x322 : SV, ∃ x323 : SV, ∃ x324 : SV, ∃ x325 : Bool, ∃ x326 : Int, ∃ x327 : Int, v316 = (Value.tuple (List.toArray [(Value.agg (List.toArray [(Value.slice x318.a x318.len x318.cap), (Value.int .i64 x319), (Value.int .i64 x320), (Value.slice x321.a x321.len x321.cap), (Value.slice x322.a x322.len x322.cap), (Value.slice x323.a x323.len x323.cap), (Value.slice x324.a x324.len x324.cap)])), (Value.bool x325), (Value.int .i64 x326), (Value.int .i64 x327)])) ∧
              ([(Value.slice x318.a x318.len x318.cap), (Value.int .i64 x319), (Value.int .i64 x320), (Value.slice x321.a x321.len x321.cap), (Value.slice x322.a x322.len x322.cap), (Value.slice x323.a x323.len x323.cap), (Value.slice x324.a x324.len x324.cap)]).length = 7 ∧ (Program.underlying Go.Proofs.Tryd.prog 49).isSome = true ∧
              H.wr h317 (Addr.mk r284 0 none) ([(Value.slice x318.a x318.len x318.cap), (Value.int .i64 x319), (Value.int .i64 x320), (Value.slice x321.a x321.len x321.cap), (Value.slice x322.a x322.len x322.cap), (Value.slice x323.a x323.len x323.cap), (Value.slice x324.a x324.len x324.cap)]) fun h328 =>
              (∃ h329, Gh h328 h329 ∧ R162 (Addr.mk r284 0 none) x325 x326 x327 h329))))) ∧
      ∀ (_ : F) (x330_y : Addr) (x331_done : Bool) (x332_got : Int) (x333_e : Int) (h334 : H), R162 x330_y x331_done x332_got x333_e h334 →
      f4_J1 post x3 r22 x39 R161 x330_y x331_done x332_got x333_e h334) (
      (∃ h360, Gh h160 h360 ∧ R161 h360))) ∧
  ∀ (_ : F) (h361 : H), R161 h361 →
  f4_J3 p0_n post x3 r22 R37 h361

def f4_J5 (p0_n : Int) (p1_steps : SV) (post : Value → H → Prop) (x3 : Option Addr) (r22 : Nat) (R25 : H → Prop) (I26 : Nat → Int → H → Prop) (n27 : Nat) (x30_i : Int) (x35 : Bool) (h36 : H) : Prop :=
  VIf x35 (
    ∃ R37 : H → Prop, (
      ∃ b38 : Addr, p1_steps.a = some b38 ∧ 0 ≤ x30_i ∧ x30_i < ((p1_steps.len : Nat) : Int) ∧
      ∃ x39 : SV, H.rd h36 (Addr.add (Addr.add b38 ((x30_i).toNat * 1)) 0) (Value.slice x39.a x39.len x39.cap) ∧
      ∃ R40 : H → Prop, (
        VIf (((x39.len : Nat) : Int) == (2 : Int)) (
          ∃ b41 : Addr, x39.a = some b41 ∧ 0 ≤ (0 : Int) ∧ (0 : Int) < ((x39.len : Nat) : Int) ∧
          ∃ x42 : Int, H.rd h36 (Addr.add (Addr.add b41 (((0 : Int)).toNat * 1)) 0) (Value.int .i64 x42) ∧
          VIf (x42 != (0 : Int)) (
            In64 (p0_n - (1 : Int)) ∧
            SemCall Go.Proofs.Tryd.prog 8 (List.toArray [(Value.int .i64 x42), (Value.int .i64 (1 : Int)), (Value.int .i64 (p0_n - (1 : Int)))]) h36 fun v43 h44 =>
            ∃ x45 : Bool, v43 = (Value.bool x45) ∧
            ∃ R46 : Int → H → Prop, (
              VIf x45 (
                ∃ x47 : SV, H.rd h44 (Addr.add (Addr.mk r22 0 none) 0) (Value.slice x47.a x47.len x47.cap) ∧
                ∃ x48 : Int, H.rd h44 (Addr.add (Addr.mk r22 0 none) 1) (Value.int .i64 x48) ∧
                ∃ x49 : Int, H.rd h44 (Addr.add (Addr.mk r22 0 none) 2) (Value.int .i64 x49) ∧
                ∃ x50 : SV, H.rd h44 (Addr.add (Addr.mk r22 0 none) 3) (Value.slice x50.a x50.len x50.cap) ∧
                ∃ x51 : SV, H.rd h44 (Addr.add (Addr.mk r22 0 none) 4) (Value.slice x51.a x51.len x51.cap) ∧
                ∃ x52 : SV, H.rd h44 (Addr.add (Addr.mk r22 0 none) 5) (Value.slice x52.a x52.len x52.cap) ∧
                ∃ x53 : SV, H.rd h44 (Addr.add (Addr.mk r22 0 none) 6) (Value.slice x53.a x53.len x53.cap) ∧
                SemCall Go.Proofs.Tryd.prog 18 (List.toArray [(Value.agg (List.toArray [(Value.slice x47.a x47.len x47.cap), (Value.int .i64 x48), (Value.int .i64 x49), (Value.slice x50.a x50.len x50.cap), (Value.slice x51.a x51.len x51.cap), (Value.slice x52.a x52.len x52.cap), (Value.slice x53.a x53.len x53.cap)])), (Value.int .i64 x42), (Value.int .i64 (9 : Int)), (Value.int .i64 (0 : Int))]) h44 fun v54 h55 =>
                ∃ x56 : SV, ∃ x57 : Int, ∃ x58 : Int, ∃ x59 : SV, ∃ x60 : SV, ∃ x61 : SV, ∃ x62 : SV, ∃ x63 : Int, v54 = (Value.tuple (List.toArray [(Value.agg (List.toArray [(Value.slice x56.a x56.len x56.cap), (Value.int .i64 x57), (Value.int .i64 x58), (Value.slice x59.a x59.len x59.cap), (Value.slice x60.a x60.len x60.cap), (Value.slice x61.a x61.len x61.cap), (Value.slice x62.a x62.len x62.cap)])), (Value.int .i64 x63)])) ∧
                ([(Value.slice x56.a x56.len x56.cap), (Value.int .i64 x57), (Value.int .i64 x58), (Value.slice x59.a x59.len x59.cap), (Value.slice x60.a x60.len x60.cap), (Value.slice x61.a x61.len x61.cap), (Value.slice x62.a x62.len x62.cap)]).length = 7 ∧ (Program.underlying Go.Proofs.Tryd.prog 49).isSome = true ∧
                H.wr h55 (Addr.mk r22 0 none) ([(Value.slice x56.a x56.len x56.cap), (Value.int .i64 x57), (Value.int .i64 x58), (Value.slice x59.a x59.len x59.cap), (Value.slice x60.a x60.len x60.cap), (Value.slice x61.a x61.len x61.cap), (Value.slice x62.a x62.len x62.cap)]) fun h64 =>
                (∃ h65, Gh h64 h65 ∧ R46 x63 h65)) (
                (∃ h66, Gh h44 h66 ∧ R46 (1 : Int) h66))) ∧
            ∀ (_ : F) (x67_e : Int) (h68 : H), R46 x67_e h68 →
            SemCall Go.Proofs.Tryd.prog 19 (List.toArray [(Value.pointer x3), (Value.int .i64 x42)]) h68 fun v69 h70 =>
            ∃ x71 : Option (TypeId × Value), v69 = (errV x71) ∧
            SemCall Go.Proofs.Tryd.prog 6 (List.toArray [(errV x71), (Value.int .i64 x67_e)]) h70 fun v72 h73 =>
            ∃ x74 : Bool, v72 = (Value.bool x74) ∧
            VIf (!x74) (
              VRet h73 (Value.bool false) post) (
              (∃ h75, Gh h73 h75 ∧ R40 h75))) (
            ∃ b76 : Addr, x39.a = some b76 ∧ 0 ≤ (1 : Int) ∧ (1 : Int) < ((x39.len : Nat) : Int) ∧
            ∃ x77 : Int, H.rd h36 (Addr.add (Addr.add b76 (((1 : Int)).toNat * 1)) 0) (Value.int .i64 x77) ∧
            VIf (decide (x77 < (0 : Int))) (
              ∃ x78 : SV, H.rd h36 (Addr.add (Addr.mk r22 0 none) 0) (Value.slice x78.a x78.len x78.cap) ∧
              ∃ x79 : Int, H.rd h36 (Addr.add (Addr.mk r22 0 none) 1) (Value.int .i64 x79) ∧
              ∃ x80 : Int, H.rd h36 (Addr.add (Addr.mk r22 0 none) 2) (Value.int .i64 x80) ∧
              ∃ x81 : SV, H.rd h36 (Addr.add (Addr.mk r22 0 none) 3) (Value.slice x81.a x81.len x81.cap) ∧
              ∃ x82 : SV, H.rd h36 (Addr.add (Addr.mk r22 0 none) 4) (Value.slice x82.a x82.len x82.cap) ∧
              ∃ x83 : SV, H.rd h36 (Addr.add (Addr.mk r22 0 none) 5) (Value.slice x83.a x83.len x83.cap) ∧
              ∃ x84 : SV, H.rd h36 (Addr.add (Addr.mk r22 0 none) 6) (Value.slice x84.a x84.len x84.cap) ∧
              SemCall Go.Proofs.Tryd.prog 18 (List.toArray [(Value.agg (List.toArray [(Value.slice x78.a x78.len x78.cap), (Value.int .i64 x79), (Value.int .i64 x80), (Value.slice x81.a x81.len x81.cap), (Value.slice x82.a x82.len x82.cap), (Value.slice x83.a x83.len x83.cap), (Value.slice x84.a x84.len x84.cap)])), (Value.int .i64 (0 : Int)), (Value.int .i64 (4 : Int)), (Value.int .i64 (0 : Int))]) h36 fun v85 h86 =>
              ∃ x87 : SV, ∃ x88 : Int, ∃ x89 : Int, ∃ x90 : SV, ∃ x91 : SV, ∃ x92 : SV, ∃ x93 : SV, ∃ x94 : Int, v85 = (Value.tuple (List.toArray [(Value.agg (List.toArray [(Value.slice x87.a x87.len x87.cap), (Value.int .i64 x88), (Value.int .i64 x89), (Value.slice x90.a x90.len x90.cap), (Value.slice x91.a x91.len x91.cap), (Value.slice x92.a x92.len x92.cap), (Value.slice x93.a x93.len x93.cap)])), (Value.int .i64 x94)])) ∧
              ([(Value.slice x87.a x87.len x87.cap), (Value.int .i64 x88), (Value.int .i64 x89), (Value.slice x90.a x90.len x90.cap), (Value.slice x91.a x91.len x91.cap), (Value.slice x92.a x92.len x92.cap), (Value.slice x93.a x93.len x93.cap)]).length = 7 ∧ (Program.underlying Go.Proofs.Tryd.prog 49).isSome = true ∧
              H.wr h86 (Addr.mk r22 0 none) ([(Value.slice x87.a x87.len x87.cap), (Value.int .i64 x88), (Value.int .i64 x89), (Value.slice x90.a x90.len x90.cap), (Value.slice x91.a x91.len x91.cap), (Value.slice x92.a x92.len x92.cap), (Value.slice x93.a x93.len x93.cap)]) fun h95 =>
              SemCall Go.Proofs.Tryd.prog 20 (List.toArray [(Value.pointer x3)]) h95 fun v96 h97 =>
              ∃ x98 : Option (TypeId × Value), v96 = (errV x98) ∧
              SemCall Go.Proofs.Tryd.prog 6 (List.toArray [(errV x98), (Value.int .i64 x94)]) h97 fun v99 h100 =>
              ∃ x101 : Bool, v99 = (Value.bool x101) ∧
              VIf (!x101) (
                VRet h100 (Value.bool false) post) (
                (∃ h102, Gh h100 h102 ∧ R40 h102))) (
              ∃ b103 : Addr, x39.a = some b103 ∧ 0 ≤ (1 : Int) ∧ (1 : Int) < ((x39.len : Nat) : Int) ∧
              ∃ x104 : Int, H.rd h36 (Addr.add (Addr.add b103 (((1 : Int)).toNat * 1)) 0) (Value.int .i64 x104) ∧
              ∃ R105 : Int → H → Prop, (
                VIf (decide (x104 ≤ (1000 : Int))) (
                ∃ b106 : Addr, x39.a = some b106 ∧ 0 ≤ (1 : Int) ∧ (1 : Int) < ((x39.len : Nat) : Int) ∧
                (
                ∃ x107 : SV, H.rd h36 (Addr.add (Addr.mk r22 0 none) 0) (Value.slice x107.a x107.len x107.cap) ∧
                ∃ x108 : Int, H.rd h36 (Addr.add (Addr.mk r22 0 none) 1) (Value.int .i64 x108) ∧
                ∃ x109 : Int, H.rd h36 (Addr.add (Addr.mk r22 0 none) 2) (Value.int .i64 x109) ∧
                ∃ x110 : SV, H.rd h36 (Addr.add (Addr.mk r22 0 none) 3) (Value.slice x110.a x110.len x110.cap) ∧
                ∃ x111 : SV, H.rd h36 (Addr.add (Addr.mk r22 0 none) 4) (Value.slice x111.a x111.len x111.cap) ∧
                ∃ x112 : SV, H.rd h36 (Addr.add (Addr.mk r22 0 none) 5) (Value.slice x112.a x112.len x112.cap) ∧
                ∃ x113 : SV, H.rd h36 (Addr.add (Addr.mk r22 0 none) 6) (Value.slice x113.a x113.len x113.cap) ∧
                ∃ x114 : Int, H.rd h36 (Addr.add (Addr.add b106 (((1 : Int)).toNat * 1)) 0) (Value.int .i64 x114) ∧
                SemCall Go.Proofs.Tryd.prog 18 (List.toArray [(Value.agg (List.toArray [(Value.slice x107.a x107.len x107.cap), (Value.int .i64 x108), (Value.int .i64 x109), (Value.slice x110.a x110.len x110.cap), (Value.slice x111.a x111.len x111.cap), (Value.slice x112.a x112.len x112.cap), (Value.slice x113.a x113.len x113.cap)])), (Value.int .i64 (0 : Int)), (Value.int .i64 (1 : Int)), (Value.int .i64 x114)]) h36 fun v115 h116 =>
                ∃ x117 : SV, ∃ x118 : Int, ∃ x119 : Int, ∃ x120 : SV, ∃ x121 : SV, ∃ x122 : SV, ∃ x123 : SV, ∃ x124 : Int, v115 = (Value.tuple (List.toArray [(Value.agg (List.toArray [(Value.slice x117.a x117.len x117.cap), (Value.int .i64 x118), (Value.int .i64 x119), (Value.slice x120.a x120.len x120.cap), (Value.slice x121.a x121.len x121.cap), (Value.slice x122.a x122.len x122.cap), (Value.slice x123.a x123.len x123.cap)])), (Value.int .i64 x124)])) ∧
                ([(Value.slice x117.a x117.len x117.cap), (Value.int .i64 x118), (Value.int .i64 x119), (Value.slice x120.a x120.len x120.cap), (Value.slice x121.a x121.len x121.cap), (Value.slice x122.a x122.len x122.cap), (Value.slice x123.a x123.len x123.cap)]).length = 7 ∧ (Program.underlying Go.Proofs.Tryd.prog 49).isSome = true ∧
                H.wr h116 (Addr.mk r22 0 none) ([(Value.slice x117.a x117.len x117.cap), (Value.int .i64 x118), (Value.int .i64 x119), (Value.slice x120.a x120.len x120.cap), (Value.slice x121.a x121.len x121.cap), (Value.slice x122.a x122.len x122.cap), (Value.slice x123.a x123.len x123.cap)]) fun h125 =>
                (∃ h126, Gh h125 h126 ∧ R105 x124 h126)) ∧
                (
                ∃ x127 : Int, H.rd h36 (Addr.add (Addr.add b106 (((1 : Int)).toNat * 1)) 0) (Value.int .i64 x127) ∧
                ∃ x128 : SV, H.rd h36 (Addr.add (Addr.mk r22 0 none) 0) (Value.slice x128.a x128.len x128.cap) ∧
                ∃ x129 : Int, H.rd h36 (Addr.add (Addr.mk r22 0 none) 1) (Value.int .i64 x129) ∧
                ∃ x130 : Int, H.rd h36 (Addr.add (Addr.mk r22 0 none) 2) (Value.int .i64 x130) ∧
                ∃ x131 : SV, H.rd h36 (Addr.add (Addr.mk r22 0 none) 3) (Value.slice x131.a x131.len x131.cap) ∧
                ∃ x132 : SV, H.rd h36 (Addr.add (Addr.mk r22 0 none) 4) (Value.slice x132.a x132.len x132.cap) ∧
                ∃ x133 : SV, H.rd h36 (Addr.add (Addr.mk r22 0 none) 5) (Value.slice x133.a x133.len x133.cap) ∧
                ∃ x134 : SV, H.rd h36 (Addr.add (Addr.mk r22 0 none) 6) (Value.slice x134.a x134.len x134.cap) ∧
                SemCall Go.Proofs.Tryd.prog 18 (List.toArray [(Value.agg (List.toArray [(Value.slice x128.a x128.len x128.cap), (Value.int .i64 x129), (Value.int .i64 x130), (Value.slice x131.a x131.len x131.cap), (Value.slice x132.a x132.len x132.cap), (Value.slice x133.a x133.len x133.cap), (Value.slice x134.a x134.len x134.cap)])), (Value.int .i64 (0 : Int)), (Value.int .i64 (1 : Int)), (Value.int .i64 x127)]) h36 fun v135 h136 =>
                ∃ x137 : SV, ∃ x138 : Int, ∃ x139 : Int, ∃ x140 : SV, ∃ x141 : SV, ∃ x142 : SV, ∃ x143 : SV, ∃ x144 : Int, v135 = (Value.tuple (List.toArray [(Value.agg (List.toArray [(Value.slice x137.a x137.len x137.cap), (Value.int .i64 x138), (Value.int .i64 x139), (Value.slice x140.a x140.len x140.cap), (Value.slice x141.a x141.len x141.cap), (Value.slice x142.a x142.len x142.cap), (Value.slice x143.a x143.len x143.cap)])), (Value.int .i64 x144)])) ∧
                ([(Value.slice x137.a x137.len x137.cap), (Value.int .i64 x138), (Value.int .i64 x139), (Value.slice x140.a x140.len x140.cap), (Value.slice x141.a x141.len x141.cap), (Value.slice x142.a x142.len x142.cap), (Value.slice x143.a x143.len x143.cap)]).length = 7 ∧ (Program.underlying Go.Proofs.Tryd.prog 49).isSome = true ∧
                H.wr h136 (Addr.mk r22 0 none) ([(Value.slice x137.a x137.len x137.cap), (Value.int .i64 x138), (Value.int .i64 x139), (Value.slice x140.a x140.len x140.cap), (Value.slice x141.a x141.len x141.cap), (Value.slice x142.a x142.len x142.cap), (Value.slice x143.a x143.len x143.cap)]) fun h145 =>
                (∃ h146, Gh h145 h146 ∧ R105 x144 h146))) (
                (∃ h147, Gh h36 h147 ∧ R105 (1 : Int) h147))) ∧
              ∀ (_ : F) (x148_e : Int) (h149 : H), R105 x148_e h149 →
              ∃ b150 : Addr, x39.a = some b150 ∧ 0 ≤ (1 : Int) ∧ (1 : Int) < ((x39.len : Nat) : Int) ∧
              ∃ x151 : Int, H.rd h149 (Addr.add (Addr.add b150 (((1 : Int)).toNat * 1)) 0) (Value.int .i64 x151) ∧
              SemCall Go.Proofs.Tryd.prog 21 (List.toArray [(Value.pointer x3), (Value.int .i64 x151)]) h149 fun v152 h153 =>
              ∃ x154 : Option (TypeId × Value), v152 = (errV x154) ∧
              SemCall Go.Proofs.Tryd.prog 6 (List.toArray [(errV x154), (Value.int .i64 x148_e)]) h153 fun v155 h156 =>
              ∃ x157 : Bool, v155 = (Value.bool x157) ∧
              VIf (!x157) (
                VRet h156 (Value.bool false) post) (
                (∃ h158, Gh h156 h158 ∧ R40 h158))))) (
          (∃ h159, Gh h36 h159 ∧ R40 h159))) ∧
      ∀ (_ : F) (h160 : H), R40 h160 →
      f4_J4 p0_n post x3 r22 R37 x39 h160) ∧
    ∀ (_ : F) (h422 : H), R37 h422 →
    In64 (x30_i + (1 : Int)) ∧
    ∃ m28, m28 < n27 ∧ (∃ h423, Gh h422 h423 ∧ I26 m28 (x30_i + (1 : Int)) h423)) (
    (∃ h424, Gh h36 h424 ∧ R25 h424))

def f4_L6 (p0_n : Int) (p1_steps : SV) (post : Value → H → Prop) (x3 : Option Addr) (r22 : Nat) (R25 : H → Prop) (I26 : Nat → Int → H → Prop) (n27 : Nat) (x30_i : Int) (h31 : H) : Prop :=
  ∃ R32 : Bool → H → Prop, (
    VIf (decide (x30_i < ((p1_steps.len : Nat) : Int))) (
      (∃ h33, Gh h31 h33 ∧ R32 (decide (x30_i < (300 : Int))) h33)) (
      (∃ h34, Gh h31 h34 ∧ R32 false h34))) ∧
  ∀ (_ : F) (x35 : Bool) (h36 : H), R32 x35 h36 →
  f4_J5 p0_n p1_steps post x3 r22 R25 I26 n27 x30_i x35 h36

def f4_J7 (p0_n : Int) (post : Value → H → Prop) (x3 : Option Addr) (h425 : H) : Prop :=
  ∃ R426 : Bool → H → Prop, (
    SemCall Go.Proofs.Tryd.prog 26 (List.toArray [(Value.pointer x3), (Value.int .i64 (-1 : Int))]) h425 fun v427 h428 =>
    ∃ x429 : Int, v427 = (Value.int .i64 x429) ∧
    VIf (x429 == (0 : Int)) (
      SemCall Go.Proofs.Tryd.prog 26 (List.toArray [(Value.pointer x3), (Value.int .i64 p0_n)]) h428 fun v430 h431 =>
      ∃ x432 : Int, v430 = (Value.int .i64 x432) ∧
      VIf (x432 == (0 : Int)) (
        SemCall Go.Proofs.Tryd.prog 19 (List.toArray [(Value.pointer x3), (Value.int .i64 (0 : Int))]) h431 fun v433 h434 =>
        ∃ x435 : Option (TypeId × Value), v433 = (errV x435) ∧
        SemCall Go.Proofs.Tryd.prog 6 (List.toArray [(errV x435), (Value.int .i64 (1 : Int))]) h434 fun v436 h437 =>
        ∃ x438 : Bool, v436 = (Value.bool x438) ∧
        (∃ h439, Gh h437 h439 ∧ R426 x438 h439)) (
        (∃ h440, Gh h431 h440 ∧ R426 false h440))) (
      (∃ h441, Gh h428 h441 ∧ R426 false h441))) ∧
  ∀ (_ : F) (x442 : Bool) (h443 : H), R426 x442 h443 →
  VRet h443 (Value.bool x442) post

def f4_J8 (p0_n : Int) (p1_steps : SV) (post : Value → H → Prop) (x3 : Option Addr) (x4 : Option (TypeId × Value)) (x8 : Bool) (h9 : H) : Prop :=
  VIf x8 (
    SemCall Go.Proofs.Tryd.prog 6 (List.toArray [(errV x4), (Value.int .i64 (1 : Int))]) h9 fun v10 h11 =>
    ∃ x12 : Bool, v10 = (Value.bool x12) ∧
    VRet h11 (Value.bool x12) post) (
    isIfaceV (errV x4) = true ∧
    VIf (!(isNilV (errV x4))) (
      VRet h9 (Value.bool false) post) (
      SemCall Go.Proofs.Tryd.prog 17 (List.toArray [(Value.int .i64 p0_n)]) h9 fun v13 h14 =>
      ∃ x15 : SV, ∃ x16 : Int, ∃ x17 : Int, ∃ x18 : SV, ∃ x19 : SV, ∃ x20 : SV, ∃ x21 : SV, v13 = (Value.agg (List.toArray [(Value.slice x15.a x15.len x15.cap), (Value.int .i64 x16), (Value.int .i64 x17), (Value.slice x18.a x18.len x18.cap), (Value.slice x19.a x19.len x19.cap), (Value.slice x20.a x20.len x20.cap), (Value.slice x21.a x21.len x21.cap)])) ∧
      H.new h14 [(Value.slice none 0 0), (Value.int .i64 (0 : Int)), (Value.int .i64 (0 : Int)), (Value.slice none 0 0), (Value.slice none 0 0), (Value.slice none 0 0), (Value.slice none 0 0)] fun r22 h23 =>
      ([(Value.slice x15.a x15.len x15.cap), (Value.int .i64 x16), (Value.int .i64 x17), (Value.slice x18.a x18.len x18.cap), (Value.slice x19.a x19.len x19.cap), (Value.slice x20.a x20.len x20.cap), (Value.slice x21.a x21.len x21.cap)]).length = 7 ∧ (Program.underlying Go.Proofs.Tryd.prog 49).isSome = true ∧
      H.wr h23 (Addr.mk r22 0 none) ([(Value.slice x15.a x15.len x15.cap), (Value.int .i64 x16), (Value.int .i64 x17), (Value.slice x18.a x18.len x18.cap), (Value.slice x19.a x19.len x19.cap), (Value.slice x20.a x20.len x20.cap), (Value.slice x21.a x21.len x21.cap)]) fun h24 =>
      ∃ R25 : H → Prop, (
        ∃ I26 : Nat → Int → H → Prop, (∃ n27, (∃ h29, Gh h24 h29 ∧ I26 n27 (0 : Int) h29)) ∧
        ∀ (n27 : Nat) (_ : F) (x30_i : Int) (h31 : H), I26 n27 x30_i h31 →
        f4_L6 p0_n p1_steps post x3 r22 R25 I26 n27 x30_i h31) ∧
      ∀ (_ : F) (h425 : H), R25 h425 →
      f4_J7 p0_n post x3 h425))

def f4_sem (p0_n : Int) (p1_steps : SV) (h0 : H) (post : Value → H → Prop) : Prop :=
  SemCall Go.Proofs.Tryd.prog 16 (List.toArray [(Value.int .i64 p0_n)]) h0 fun v1 h2 =>
  ∃ x3 : Option Addr, ∃ x4 : Option (TypeId × Value), v1 = (Value.tuple (List.toArray [(Value.pointer x3), (errV x4)])) ∧
  ∃ R5 : Bool → H → Prop, (
    VIf (decide (p0_n < (1 : Int))) (
      (∃ h6, Gh h2 h6 ∧ R5 true h6)) (
      (∃ h7, Gh h2 h7 ∧ R5 (decide (p0_n > (4 : Int))) h7))) ∧
  ∀ (_ : F) (x8 : Bool) (h9 : H), R5 x8 h9 →
  f4_J8 p0_n p1_steps post x3 x4 x8 h9

def f4_hint : Hint := (.node .leaf (.node .leaf (.node (.node (.join [(32, .bool)] .leaf) .leaf) (.node .leaf (.node .leaf (.node (.node .leaf (.join [] (.node (.loop [(8, .int)] (.node (.node (.join [(46, .bool)] .leaf) .leaf) (.node (.join [] (.node (.node .leaf (.node (.node .leaf (.join [] (.node (.node .leaf (.node .leaf (.node .leaf (.node (.node .leaf (.node (.node .leaf (.join [(11, .int)] .leaf)) .leaf)) (.node .leaf (.node .leaf (.node .leaf (.node (.node .leaf (.join [(11, .int)] (.node .any2 .leaf))) .leaf)))))))) .leaf))) (.node (.node .leaf (.join [] (.node (.node (.join [(12, .addr), (13, .bool), (14, .int), (15, .int)] .any2) (.node .leaf (.node .leaf (.node (.join [(147, .bool)] .leaf) .leaf)))) .leaf))) (.node .leaf (.node (.node (.join [(170, .bool)] .any2) .leaf) (.node .leaf (.join [] (.node (.loop [(21, .int)] (.node .leaf (.node (.node (.node (.join [(184, .bool)] .any2) .leaf) .leaf) .leaf))) .leaf)))))))) .leaf)) .leaf))) .leaf))) (.node (.join [(4, .bool)] .leaf) .leaf)))))))

theorem f4_eq (p0_n : Int) (p1_steps : SV) (h0 : H) (post : Value → H → Prop) : exec Tryd.prog (bodyOf Tryd.f4) f4_hint (retQ Tryd.prog Tryd.f4 post) (F0 [(Value.int .i64 p0_n), (Value.slice p1_steps.a p1_steps.len p1_steps.cap)]) h0 = f4_sem p0_n p1_steps h0 post := by kernel_rfl

set_option maxRecDepth 20000 in
theorem f4_call (p0_n : Int) (p1_steps : SV) (h0 : H) (post : Value → H → Prop) (hx : f4_sem p0_n p1_steps h0 post) : SemCall Tryd.prog 4 (List.toArray [(Value.int .i64 p0_n), (Value.slice p1_steps.a p1_steps.len p1_steps.cap)]) h0 post :=
  sem_of_exec (g := f4_hint) mixed Tryd.func4 (bodyOf_eq (by kernel_rfl)) (by kernel_rfl) ((f4_eq p0_n p1_steps h0 post).mpr hx)

/- latchgarth/dine.New -/
def f5_L1 (p0_n : Int) (r6 : Nat) (R8 : H → Prop) (I9 : Nat → Int → H → Prop) (n10 : Nat) (x13 : Int) (h14 : H) : Prop :=
  VIf (decide (x13 < p0_n)) (
    In64 (x13 + (1 : Int)) ∧
    p0_n ≠ 0 ∧
    ∃ a15 : Addr, (some (Addr.mk r6 0 none)) = some a15 ∧
    ∃ x16 : SV, H.rd h14 (Addr.add (Addr.add a15 1) 0) (Value.slice x16.a x16.len x16.cap) ∧
    H.new h14 [(Value.int .i64 (if (Int.tmod (x13 + (1 : Int)) p0_n) < x13 then (Int.tmod (x13 + (1 : Int)) p0_n) else x13)), (Value.int .i64 (if (Int.tmod (x13 + (1 : Int)) p0_n) > x13 then (Int.tmod (x13 + (1 : Int)) p0_n) else x13)), (Value.bool true)] fun r17 h18 =>
    appVC Go.Proofs.Tryd.prog 62 (Value.slice x16.a x16.len x16.cap) (Value.slice (some (Addr.mk r17 0 none)) 1 1) h18 fun x19 h20 =>
    ∃ a21 : Addr, (some (Addr.mk r6 0 none)) = some a21 ∧
    H.wr h20 (Addr.add a21 1) ([(Value.slice x19.a x19.len x19.cap)]) fun h22 =>
    In64 (x13 + (1 : Int)) ∧
    ∃ m11, m11 < n10 ∧ (∃ h23, Gh h22 h23 ∧ I9 m11 (x13 + (1 : Int)) h23)) (
    (∃ h24, Gh h14 h24 ∧ R8 h24))

def f5_sem (p0_n : Int) (h0 : H) (post : Value → H → Prop) : Prop :=
  SemCall Go.Proofs.Tryd.prog 27 (List.toArray [(Value.int .i64 p0_n), (Value.int .i64 (3 : Int)), (Value.int .i64 (6 : Int))]) h0 fun v1 h2 =>
  ∃ x3 : Bool, v1 = (Value.bool x3) ∧
  VIf (!x3) (
    VRet h2 (Value.tuple (List.toArray [(Value.pointer none), (Value.iface 61 (Value.int .i64 (1 : Int)))])) post) (
    0 ≤ p0_n ∧ p0_n ≤ p0_n ∧ ((8 : Nat) : Int) * p0_n ≤ 140737488355328 ∧ p0_n ≤ 1000000000 ∧
    H.new h2 (repl (p0_n).toNat [(Value.int .i64 (0 : Int))]) fun r4 h5 =>
    H.new h5 [(Value.slice (some (Addr.mk r4 0 none)) ((p0_n).toNat) ((p0_n).toNat)), (Value.slice none 0 0)] fun r6 h7 =>
    ∃ R8 : H → Prop, (
      ∃ I9 : Nat → Int → H → Prop, (∃ n10, (∃ h12, Gh h7 h12 ∧ I9 n10 (0 : Int) h12)) ∧
      ∀ (n10 : Nat) (_ : F) (x13 : Int) (h14 : H), I9 n10 x13 h14 →
      f5_L1 p0_n r6 R8 I9 n10 x13 h14) ∧
    ∀ (_ : F) (h25 : H), R8 h25 →
    VRet h25 (Value.tuple (List.toArray [(Value.pointer (some (Addr.mk r6 0 none))), Value.nilIface])) post)

def f5_hint : Hint := (.node .leaf (.node .leaf (.node .leaf (.node (.node .leaf (.join [] (.node (.loop [(16, .int)] .leaf) .leaf))) .leaf))))

theorem f5_eq (p0_n : Int) (h0 : H) (post : Value → H → Prop) : exec Tryd.prog (bodyOf Tryd.f5) f5_hint (retQ Tryd.prog Tryd.f5 post) (F0 [(Value.int .i64 p0_n)]) h0 = f5_sem p0_n h0 post := by kernel_rfl

set_option maxRecDepth 20000 in
theorem f5_call (p0_n : Int) (h0 : H) (post : Value → H → Prop) (hx : f5_sem p0_n h0 post) : SemCall Tryd.prog 5 (List.toArray [(Value.int .i64 p0_n)]) h0 post :=
  sem_of_exec (g := f5_hint) mixed Tryd.func5 (bodyOf_eq (by kernel_rfl)) (by kernel_rfl) ((f5_eq p0_n h0 post).mpr hx)

/- latchgarth/latchgarthsame.Error -/
def f6_sem (p0_err : Option (TypeId × Value)) (p1_e : Int) (h0 : H) (post : Value → H → Prop) : Prop :=
  SemCall Go.Proofs.Tryd.prog 28 (List.toArray [(errV p0_err)]) h0 fun v1 h2 =>
  ∃ x3 : Int, v1 = (Value.int .i64 x3) ∧
  VRet h2 (Value.bool (x3 == p1_e)) post

def f6_hint : Hint := .leaf

theorem f6_eq (p0_err : Option (TypeId × Value)) (p1_e : Int) (h0 : H) (post : Value → H → Prop) : exec Tryd.prog (bodyOf Tryd.f6) f6_hint (retQ Tryd.prog Tryd.f6 post) (F0 [(errV p0_err), (Value.int .i64 p1_e)]) h0 = f6_sem p0_err p1_e h0 post := by kernel_rfl

set_option maxRecDepth 20000 in
theorem f6_call (p0_err : Option (TypeId × Value)) (p1_e : Int) (h0 : H) (post : Value → H → Prop) (hx : f6_sem p0_err p1_e h0 post) : SemCall Tryd.prog 6 (List.toArray [(errV p0_err), (Value.int .i64 p1_e)]) h0 post :=
  sem_of_exec (g := f6_hint) mixed Tryd.func6 (bodyOf_eq (by kernel_rfl)) (by kernel_rfl) ((f6_eq p0_err p1_e h0 post).mpr hx)

/- latchgarth/latchgarthref4.NewTable -/
def f7_L1 (p0_n : Int) (r5 : Nat) (R8 : H → Prop) (I9 : Nat → Int → H → Prop) (n10 : Nat) (x13_i : Int) (h14 : H) : Prop :=
  VIf (decide (x13_i < p0_n)) (
    ∃ x15 : SV, H.rd h14 (Addr.add (Addr.add (Addr.mk r5 0 none) 3) 0) (Value.slice x15.a x15.len x15.cap) ∧
    H.new h14 [(Value.int .i64 (1 : Int))] fun r16 h17 =>
    appVC Go.Proofs.Tryd.prog 29 (Value.slice x15.a x15.len x15.cap) (Value.slice (some (Addr.mk r16 0 none)) 1 1) h17 fun x18 h19 =>
    H.wr h19 (Addr.add (Addr.mk r5 0 none) 3) ([(Value.slice x18.a x18.len x18.cap)]) fun h20 =>
    In64 (p0_n - (1 : Int)) ∧
    VIf (x13_i == (p0_n - (1 : Int))) (
      ∃ x21 : SV, H.rd h20 (Addr.add (Addr.add (Addr.mk r5 0 none) 1) 0) (Value.slice x21.a x21.len x21.cap) ∧
      H.new h20 [(Value.int .i64 (0 : Int))] fun r22 h23 =>
      appVC Go.Proofs.Tryd.prog 29 (Value.slice x21.a x21.len x21.cap) (Value.slice (some (Addr.mk r22 0 none)) 1 1) h23 fun x24 h25 =>
      H.wr h25 (Addr.add (Addr.mk r5 0 none) 1) ([(Value.slice x24.a x24.len x24.cap)]) fun h26 =>
      ∃ x27 : SV, H.rd h26 (Addr.add (Addr.add (Addr.mk r5 0 none) 2) 0) (Value.slice x27.a x27.len x27.cap) ∧
      In64 (p0_n - (1 : Int)) ∧
      H.new h26 [(Value.int .i64 (p0_n - (1 : Int)))] fun r28 h29 =>
      appVC Go.Proofs.Tryd.prog 29 (Value.slice x27.a x27.len x27.cap) (Value.slice (some (Addr.mk r28 0 none)) 1 1) h29 fun x30 h31 =>
      H.wr h31 (Addr.add (Addr.mk r5 0 none) 2) ([(Value.slice x30.a x30.len x30.cap)]) fun h32 =>
      In64 (x13_i + (1 : Int)) ∧
      ∃ m11, m11 < n10 ∧ (∃ h33, Gh h32 h33 ∧ I9 m11 (x13_i + (1 : Int)) h33)) (
      ∃ x34 : SV, H.rd h20 (Addr.add (Addr.add (Addr.mk r5 0 none) 1) 0) (Value.slice x34.a x34.len x34.cap) ∧
      H.new h20 [(Value.int .i64 x13_i)] fun r35 h36 =>
      appVC Go.Proofs.Tryd.prog 29 (Value.slice x34.a x34.len x34.cap) (Value.slice (some (Addr.mk r35 0 none)) 1 1) h36 fun x37 h38 =>
      H.wr h38 (Addr.add (Addr.mk r5 0 none) 1) ([(Value.slice x37.a x37.len x37.cap)]) fun h39 =>
      ∃ x40 : SV, H.rd h39 (Addr.add (Addr.add (Addr.mk r5 0 none) 2) 0) (Value.slice x40.a x40.len x40.cap) ∧
      In64 (x13_i + (1 : Int)) ∧
      H.new h39 [(Value.int .i64 (x13_i + (1 : Int)))] fun r41 h42 =>
      appVC Go.Proofs.Tryd.prog 29 (Value.slice x40.a x40.len x40.cap) (Value.slice (some (Addr.mk r41 0 none)) 1 1) h42 fun x43 h44 =>
      H.wr h44 (Addr.add (Addr.mk r5 0 none) 2) ([(Value.slice x43.a x43.len x43.cap)]) fun h45 =>
      In64 (x13_i + (1 : Int)) ∧
      ∃ m11, m11 < n10 ∧ (∃ h46, Gh h45 h46 ∧ I9 m11 (x13_i + (1 : Int)) h46))) (
    (∃ h47, Gh h14 h47 ∧ R8 h47))

def f7_J2 (post : Value → H → Prop) (r1 : Nat) (r5 : Nat) (h48 : H) : Prop :=
  ∃ x49 : SV, H.rd h48 (Addr.add (Addr.mk r5 0 none) 0) (Value.slice x49.a x49.len x49.cap) ∧
  ∃ x50 : SV, H.rd h48 (Addr.add (Addr.mk r5 0 none) 1) (Value.slice x50.a x50.len x50.cap) ∧
  ∃ x51 : SV, H.rd h48 (Addr.add (Addr.mk r5 0 none) 2) (Value.slice x51.a x51.len x51.cap) ∧
  ∃ x52 : SV, H.rd h48 (Addr.add (Addr.mk r5 0 none) 3) (Value.slice x52.a x52.len x52.cap) ∧
  ([(Value.slice x49.a x49.len x49.cap), (Value.slice x50.a x50.len x50.cap), (Value.slice x51.a x51.len x51.cap), (Value.slice x52.a x52.len x52.cap)]).length = 4 ∧ (Program.underlying Go.Proofs.Tryd.prog 31).isSome = true ∧
  H.wr h48 (Addr.mk r1 0 none) ([(Value.slice x49.a x49.len x49.cap), (Value.slice x50.a x50.len x50.cap), (Value.slice x51.a x51.len x51.cap), (Value.slice x52.a x52.len x52.cap)]) fun h53 =>
  ∃ x54 : SV, H.rd h53 (Addr.add (Addr.mk r1 0 none) 0) (Value.slice x54.a x54.len x54.cap) ∧
  ∃ x55 : SV, H.rd h53 (Addr.add (Addr.mk r1 0 none) 1) (Value.slice x55.a x55.len x55.cap) ∧
  ∃ x56 : SV, H.rd h53 (Addr.add (Addr.mk r1 0 none) 2) (Value.slice x56.a x56.len x56.cap) ∧
  ∃ x57 : SV, H.rd h53 (Addr.add (Addr.mk r1 0 none) 3) (Value.slice x57.a x57.len x57.cap) ∧
  VRet h53 (Value.agg (List.toArray [(Value.slice x54.a x54.len x54.cap), (Value.slice x55.a x55.len x55.cap), (Value.slice x56.a x56.len x56.cap), (Value.slice x57.a x57.len x57.cap)])) post

def f7_sem (p0_n : Int) (h0 : H) (post : Value → H → Prop) : Prop :=
  H.new h0 [(Value.slice none 0 0), (Value.slice none 0 0), (Value.slice none 0 0), (Value.slice none 0 0)] fun r1 h2 =>
  0 ≤ p0_n ∧ p0_n ≤ p0_n ∧ ((8 : Nat) : Int) * p0_n ≤ 140737488355328 ∧ p0_n ≤ 1000000000 ∧
  H.new h2 (repl (p0_n).toNat [(Value.int .i64 (0 : Int))]) fun r3 h4 =>
  H.new h4 [(Value.slice none 0 0), (Value.slice none 0 0), (Value.slice none 0 0), (Value.slice none 0 0)] fun r5 h6 =>
  ([(Value.slice (some (Addr.mk r3 0 none)) ((p0_n).toNat) ((p0_n).toNat)), (Value.slice none 0 0), (Value.slice none 0 0), (Value.slice none 0 0)]).length = 4 ∧ (Program.underlying Go.Proofs.Tryd.prog 31).isSome = true ∧
  H.wr h6 (Addr.mk r5 0 none) ([(Value.slice (some (Addr.mk r3 0 none)) ((p0_n).toNat) ((p0_n).toNat)), (Value.slice none 0 0), (Value.slice none 0 0), (Value.slice none 0 0)]) fun h7 =>
  ∃ R8 : H → Prop, (
    ∃ I9 : Nat → Int → H → Prop, (∃ n10, (∃ h12, Gh h7 h12 ∧ I9 n10 (0 : Int) h12)) ∧
    ∀ (n10 : Nat) (_ : F) (x13_i : Int) (h14 : H), I9 n10 x13_i h14 →
    f7_L1 p0_n r5 R8 I9 n10 x13_i h14) ∧
  ∀ (_ : F) (h48 : H), R8 h48 →
  f7_J2 post r1 r5 h48

def f7_hint : Hint := (.node .leaf (.node .leaf (.node (.node .leaf (.join [] (.node (.loop [(4, .int)] .leaf) .leaf))) .leaf)))

theorem f7_eq (p0_n : Int) (h0 : H) (post : Value → H → Prop) : exec Tryd.prog (bodyOf Tryd.f7) f7_hint (retQ Tryd.prog Tryd.f7 post) (F0 [(Value.int .i64 p0_n)]) h0 = f7_sem p0_n h0 post := by kernel_rfl

set_option maxRecDepth 20000 in
theorem f7_call (p0_n : Int) (h0 : H) (post : Value → H → Prop) (hx : f7_sem p0_n h0 post) : SemCall Tryd.prog 7 (List.toArray [(Value.int .i64 p0_n)]) h0 post :=
  sem_of_exec (g := f7_hint) mixed Tryd.func7 (bodyOf_eq (by kernel_rfl)) (by kernel_rfl) ((f7_eq p0_n h0 post).mpr hx)

/- latchgarth/latchgarthlaw4.in -/
def f8_sem (p0_n : Int) (p1_low : Int) (p2_high : Int) (h0 : H) (post : Value → H → Prop) : Prop :=
  ∃ R1 : Bool → H → Prop, (
    VIf (decide (p0_n ≥ p1_low)) (
      (∃ h2, Gh h0 h2 ∧ R1 (decide (p0_n ≤ p2_high)) h2)) (
      (∃ h3, Gh h0 h3 ∧ R1 false h3))) ∧
  ∀ (_ : F) (x4 : Bool) (h5 : H), R1 x4 h5 →
  VRet h5 (Value.bool x4) post

def f8_hint : Hint := (.node .leaf (.node (.join [(6, .bool)] .leaf) .leaf))

theorem f8_eq (p0_n : Int) (p1_low : Int) (p2_high : Int) (h0 : H) (post : Value → H → Prop) : exec Tryd.prog (bodyOf Tryd.f8) f8_hint (retQ Tryd.prog Tryd.f8 post) (F0 [(Value.int .i64 p0_n), (Value.int .i64 p1_low), (Value.int .i64 p2_high)]) h0 = f8_sem p0_n p1_low p2_high h0 post := by kernel_rfl

set_option maxRecDepth 20000 in
theorem f8_call (p0_n : Int) (p1_low : Int) (p2_high : Int) (h0 : H) (post : Value → H → Prop) (hx : f8_sem p0_n p1_low p2_high h0 post) : SemCall Tryd.prog 8 (List.toArray [(Value.int .i64 p0_n), (Value.int .i64 p1_low), (Value.int .i64 p2_high)]) h0 post :=
  sem_of_exec (g := f8_hint) mixed Tryd.func8 (bodyOf_eq (by kernel_rfl)) (by kernel_rfl) ((f8_eq p0_n p1_low p2_high h0 post).mpr hx)

/- (*latchgarth/dine.Table).Hunger -/
def f9_sem (p0_t : Option Addr) (p1_i : Int) (h0 : H) (post : Value → H → Prop) : Prop :=
  SemCall Go.Proofs.Tryd.prog 29 (List.toArray [(Value.pointer p0_t), (Value.int .i64 p1_i)]) h0 fun v1 h2 =>
  ∃ x3 : Bool, v1 = (Value.bool x3) ∧
  VIf (!x3) (
    VRet h2 (Value.iface 61 (Value.int .i64 (1 : Int))) post) (
    ∃ a4 : Addr, p0_t = some a4 ∧
    ∃ x5 : SV, H.rd h2 (Addr.add (Addr.add a4 0) 0) (Value.slice x5.a x5.len x5.cap) ∧
    ∃ b6 : Addr, x5.a = some b6 ∧ 0 ≤ p1_i ∧ p1_i < ((x5.len : Nat) : Int) ∧
    ∃ x7 : Int, H.rd h2 (Addr.add (Addr.add b6 ((p1_i).toNat * 1)) 0) (Value.int .i64 x7) ∧
    VIf (x7 != (0 : Int)) (
      VRet h2 (Value.iface 61 (Value.int .i64 (7 : Int))) post) (
      ∃ a8 : Addr, p0_t = some a8 ∧
      ∃ x9 : SV, H.rd h2 (Addr.add (Addr.add a8 0) 0) (Value.slice x9.a x9.len x9.cap) ∧
      ∃ b10 : Addr, x9.a = some b10 ∧ 0 ≤ p1_i ∧ p1_i < ((x9.len : Nat) : Int) ∧
      H.wr h2 (Addr.add b10 ((p1_i).toNat * 1)) ([(Value.int .i64 (1 : Int))]) fun h11 =>
      VRet h11 Value.nilIface post))

def f9_hint : Hint := .leaf

theorem f9_eq (p0_t : Option Addr) (p1_i : Int) (h0 : H) (post : Value → H → Prop) : exec Tryd.prog (bodyOf Tryd.f9) f9_hint (retQ Tryd.prog Tryd.f9 post) (F0 [(Value.pointer p0_t), (Value.int .i64 p1_i)]) h0 = f9_sem p0_t p1_i h0 post := by kernel_rfl

set_option maxRecDepth 20000 in
theorem f9_call (p0_t : Option Addr) (p1_i : Int) (h0 : H) (post : Value → H → Prop) (hx : f9_sem p0_t p1_i h0 post) : SemCall Tryd.prog 9 (List.toArray [(Value.pointer p0_t), (Value.int .i64 p1_i)]) h0 post :=
  sem_of_exec (g := f9_hint) mixed Tryd.func9 (bodyOf_eq (by kernel_rfl)) (by kernel_rfl) ((f9_eq p0_t p1_i h0 post).mpr hx)

/- (*latchgarth/dine.Table).Rest -/
def f10_sem (p0_t : Option Addr) (p1_i : Int) (h0 : H) (post : Value → H → Prop) : Prop :=
  SemCall Go.Proofs.Tryd.prog 29 (List.toArray [(Value.pointer p0_t), (Value.int .i64 p1_i)]) h0 fun v1 h2 =>
  ∃ x3 : Bool, v1 = (Value.bool x3) ∧
  VIf (!x3) (
    VRet h2 (Value.iface 61 (Value.int .i64 (1 : Int))) post) (
    ∃ a4 : Addr, p0_t = some a4 ∧
    ∃ x5 : SV, H.rd h2 (Addr.add (Addr.add a4 0) 0) (Value.slice x5.a x5.len x5.cap) ∧
    ∃ b6 : Addr, x5.a = some b6 ∧ 0 ≤ p1_i ∧ p1_i < ((x5.len : Nat) : Int) ∧
    ∃ x7 : Int, H.rd h2 (Addr.add (Addr.add b6 ((p1_i).toNat * 1)) 0) (Value.int .i64 x7) ∧
    VIf (x7 != (2 : Int)) (
      VRet h2 (Value.iface 61 (Value.int .i64 (7 : Int))) post) (
      ∃ a8 : Addr, p0_t = some a8 ∧
      ∃ x9 : SV, H.rd h2 (Addr.add (Addr.add a8 0) 0) (Value.slice x9.a x9.len x9.cap) ∧
      ∃ b10 : Addr, x9.a = some b10 ∧ 0 ≤ p1_i ∧ p1_i < ((x9.len : Nat) : Int) ∧
      H.wr h2 (Addr.add b10 ((p1_i).toNat * 1)) ([(Value.int .i64 (0 : Int))]) fun h11 =>
      VRet h11 Value.nilIface post))

def f10_hint : Hint := .leaf

theorem f10_eq (p0_t : Option Addr) (p1_i : Int) (h0 : H) (post : Value → H → Prop) : exec Tryd.prog (bodyOf Tryd.f10) f10_hint (retQ Tryd.prog Tryd.f10 post) (F0 [(Value.pointer p0_t), (Value.int .i64 p1_i)]) h0 = f10_sem p0_t p1_i h0 post := by kernel_rfl

set_option maxRecDepth 20000 in
theorem f10_call (p0_t : Option Addr) (p1_i : Int) (h0 : H) (post : Value → H → Prop) (hx : f10_sem p0_t p1_i h0 post) : SemCall Tryd.prog 10 (List.toArray [(Value.pointer p0_t), (Value.int .i64 p1_i)]) h0 post :=
  sem_of_exec (g := f10_hint) mixed Tryd.func10 (bodyOf_eq (by kernel_rfl)) (by kernel_rfl) ((f10_eq p0_t p1_i h0 post).mpr hx)

/- latchgarth/latchgarthref4.StepTable -/
def f11_J1 (post : Value → H → Prop) (r1 : Nat) (r3 : Nat) (r20 : Nat) (I23 : Nat → Int → H → Prop) (n24 : Nat) (x27_k : Int) (x30 : Int) (x44 : Bool) (h45 : H) : Prop :=
  VIf x44 (
    ∃ x46 : SV, H.rd h45 (Addr.add (Addr.add (Addr.mk r1 0 none) 1) 0) (Value.slice x46.a x46.len x46.cap) ∧
    ∃ b47 : Addr, (some (Addr.mk r20 0 none)) = some b47 ∧ 0 ≤ x27_k ∧ x27_k < ((2 : Nat) : Int) ∧
    ∃ x48 : Int, H.rd h45 (Addr.add (Addr.add b47 ((x27_k).toNat * 1)) 0) (Value.int .i64 x48) ∧
    SemCall Go.Proofs.Tryd.prog 30 (List.toArray [(Value.slice x46.a x46.len x46.cap), (Value.int .i64 x30), (Value.int .i64 x48)]) h45 fun v49 h50 =>
    ∃ x51 : SV, v49 = (Value.slice x51.a x51.len x51.cap) ∧
    H.wr h50 (Addr.add (Addr.mk r1 0 none) 1) ([(Value.slice x51.a x51.len x51.cap)]) fun h52 =>
    ∃ x53 : SV, H.rd h52 (Addr.add (Addr.add (Addr.mk r1 0 none) 3) 0) (Value.slice x53.a x53.len x53.cap) ∧
    SemCall Go.Proofs.Tryd.prog 30 (List.toArray [(Value.slice x53.a x53.len x53.cap), (Value.int .i64 x30), (Value.int .i64 (0 : Int))]) h52 fun v54 h55 =>
    ∃ x56 : SV, v54 = (Value.slice x56.a x56.len x56.cap) ∧
    H.wr h55 (Addr.add (Addr.mk r1 0 none) 3) ([(Value.slice x56.a x56.len x56.cap)]) fun h57 =>
    ∃ x58 : SV, H.rd h57 (Addr.add (Addr.mk r1 0 none) 0) (Value.slice x58.a x58.len x58.cap) ∧
    ∃ x59 : SV, H.rd h57 (Addr.add (Addr.mk r1 0 none) 1) (Value.slice x59.a x59.len x59.cap) ∧
    ∃ x60 : SV, H.rd h57 (Addr.add (Addr.mk r1 0 none) 2) (Value.slice x60.a x60.len x60.cap) ∧
    ∃ x61 : SV, H.rd h57 (Addr.add (Addr.mk r1 0 none) 3) (Value.slice x61.a x61.len x61.cap) ∧
    ([(Value.slice x58.a x58.len x58.cap), (Value.slice x59.a x59.len x59.cap), (Value.slice x60.a x60.len x60.cap), (Value.slice x61.a x61.len x61.cap)]).length = 4 ∧ (Program.underlying Go.Proofs.Tryd.prog 31).isSome = true ∧
    H.wr h57 (Addr.mk r3 0 none) ([(Value.slice x58.a x58.len x58.cap), (Value.slice x59.a x59.len x59.cap), (Value.slice x60.a x60.len x60.cap), (Value.slice x61.a x61.len x61.cap)]) fun h62 =>
    ∃ x63 : SV, H.rd h62 (Addr.add (Addr.mk r3 0 none) 0) (Value.slice x63.a x63.len x63.cap) ∧
    ∃ x64 : SV, H.rd h62 (Addr.add (Addr.mk r3 0 none) 1) (Value.slice x64.a x64.len x64.cap) ∧
    ∃ x65 : SV, H.rd h62 (Addr.add (Addr.mk r3 0 none) 2) (Value.slice x65.a x65.len x65.cap) ∧
    ∃ x66 : SV, H.rd h62 (Addr.add (Addr.mk r3 0 none) 3) (Value.slice x66.a x66.len x66.cap) ∧
    VRet h62 (Value.tuple (List.toArray [(Value.agg (List.toArray [(Value.slice x63.a x63.len x63.cap), (Value.slice x64.a x64.len x64.cap), (Value.slice x65.a x65.len x65.cap), (Value.slice x66.a x66.len x66.cap)])), (Value.bool true)])) post) (
    In64 (x27_k + (1 : Int)) ∧
    ∃ m25, m25 < n24 ∧ (∃ h67, Gh h45 h67 ∧ I23 m25 (x27_k + (1 : Int)) h67))

def f11_L2 (p1_i : Int) (post : Value → H → Prop) (r1 : Nat) (r3 : Nat) (r18 : Nat) (r20 : Nat) (R22 : H → Prop) (I23 : Nat → Int → H → Prop) (n24 : Nat) (x27_k : Int) (h28 : H) : Prop :=
  VIf (decide (x27_k < (2 : Int))) (
    ∃ b29 : Addr, (some (Addr.mk r18 0 none)) = some b29 ∧ 0 ≤ x27_k ∧ x27_k < ((2 : Nat) : Int) ∧
    ∃ x30 : Int, H.rd h28 (Addr.add (Addr.add b29 ((x27_k).toNat * 1)) 0) (Value.int .i64 x30) ∧
    ∃ R31 : Bool → H → Prop, (
      ∃ x32 : SV, H.rd h28 (Addr.add (Addr.add (Addr.mk r1 0 none) 1) 0) (Value.slice x32.a x32.len x32.cap) ∧
      ∃ b33 : Addr, x32.a = some b33 ∧ 0 ≤ x30 ∧ x30 < ((x32.len : Nat) : Int) ∧
      ∃ x34 : Int, H.rd h28 (Addr.add (Addr.add b33 ((x30).toNat * 1)) 0) (Value.int .i64 x34) ∧
      VIf (x34 == p1_i) (
        ∃ x35 : SV, H.rd h28 (Addr.add (Addr.add (Addr.mk r1 0 none) 3) 0) (Value.slice x35.a x35.len x35.cap) ∧
        ∃ b36 : Addr, x35.a = some b36 ∧ 0 ≤ x30 ∧ x30 < ((x35.len : Nat) : Int) ∧
        ∃ x37 : Int, H.rd h28 (Addr.add (Addr.add b36 ((x30).toNat * 1)) 0) (Value.int .i64 x37) ∧
        VIf (x37 == (1 : Int)) (
          ∃ x38 : SV, H.rd h28 (Addr.add (Addr.add (Addr.mk r1 0 none) 2) 0) (Value.slice x38.a x38.len x38.cap) ∧
          ∃ b39 : Addr, x38.a = some b39 ∧ 0 ≤ x30 ∧ x30 < ((x38.len : Nat) : Int) ∧
          ∃ x40 : Int, H.rd h28 (Addr.add (Addr.add b39 ((x30).toNat * 1)) 0) (Value.int .i64 x40) ∧
          (∃ h41, Gh h28 h41 ∧ R31 (x40 == p1_i) h41)) (
          (∃ h42, Gh h28 h42 ∧ R31 false h42))) (
        (∃ h43, Gh h28 h43 ∧ R31 false h43))) ∧
    ∀ (_ : F) (x44 : Bool) (h45 : H), R31 x44 h45 →
    f11_J1 post r1 r3 r20 I23 n24 x27_k x30 x44 h45) (
    (∃ h68, Gh h28 h68 ∧ R22 h68))

def f11_J3 (post : Value → H → Prop) (r1 : Nat) (r3 : Nat) (h186 : H) : Prop :=
  ∃ x187 : SV, H.rd h186 (Addr.add (Addr.mk r1 0 none) 0) (Value.slice x187.a x187.len x187.cap) ∧
  ∃ x188 : SV, H.rd h186 (Addr.add (Addr.mk r1 0 none) 1) (Value.slice x188.a x188.len x188.cap) ∧
  ∃ x189 : SV, H.rd h186 (Addr.add (Addr.mk r1 0 none) 2) (Value.slice x189.a x189.len x189.cap) ∧
  ∃ x190 : SV, H.rd h186 (Addr.add (Addr.mk r1 0 none) 3) (Value.slice x190.a x190.len x190.cap) ∧
  ([(Value.slice x187.a x187.len x187.cap), (Value.slice x188.a x188.len x188.cap), (Value.slice x189.a x189.len x189.cap), (Value.slice x190.a x190.len x190.cap)]).length = 4 ∧ (Program.underlying Go.Proofs.Tryd.prog 31).isSome = true ∧
  H.wr h186 (Addr.mk r3 0 none) ([(Value.slice x187.a x187.len x187.cap), (Value.slice x188.a x188.len x188.cap), (Value.slice x189.a x189.len x189.cap), (Value.slice x190.a x190.len x190.cap)]) fun h191 =>
  ∃ x192 : SV, H.rd h191 (Addr.add (Addr.mk r3 0 none) 0) (Value.slice x192.a x192.len x192.cap) ∧
  ∃ x193 : SV, H.rd h191 (Addr.add (Addr.mk r3 0 none) 1) (Value.slice x193.a x193.len x193.cap) ∧
  ∃ x194 : SV, H.rd h191 (Addr.add (Addr.mk r3 0 none) 2) (Value.slice x194.a x194.len x194.cap) ∧
  ∃ x195 : SV, H.rd h191 (Addr.add (Addr.mk r3 0 none) 3) (Value.slice x195.a x195.len x195.cap) ∧
  VRet h191 (Value.tuple (List.toArray [(Value.agg (List.toArray [(Value.slice x192.a x192.len x192.cap), (Value.slice x193.a x193.len x193.cap), (Value.slice x194.a x194.len x194.cap), (Value.slice x195.a x195.len x195.cap)])), (Value.bool true)])) post

def f11_J4 (post : Value → H → Prop) (r1 : Nat) (r3 : Nat) (r20 : Nat) (I197 : Nat → Int → H → Prop) (n198 : Nat) (x201_k : Int) (x204 : Int) (x214 : Bool) (h215 : H) : Prop :=
  VIf x214 (
    ∃ x216 : SV, H.rd h215 (Addr.add (Addr.add (Addr.mk r1 0 none) 2) 0) (Value.slice x216.a x216.len x216.cap) ∧
    ∃ b217 : Addr, (some (Addr.mk r20 0 none)) = some b217 ∧ 0 ≤ x201_k ∧ x201_k < ((2 : Nat) : Int) ∧
    ∃ x218 : Int, H.rd h215 (Addr.add (Addr.add b217 ((x201_k).toNat * 1)) 0) (Value.int .i64 x218) ∧
    SemCall Go.Proofs.Tryd.prog 30 (List.toArray [(Value.slice x216.a x216.len x216.cap), (Value.int .i64 x204), (Value.int .i64 x218)]) h215 fun v219 h220 =>
    ∃ x221 : SV, v219 = (Value.slice x221.a x221.len x221.cap) ∧
    H.wr h220 (Addr.add (Addr.mk r1 0 none) 2) ([(Value.slice x221.a x221.len x221.cap)]) fun h222 =>
    ∃ x223 : SV, H.rd h222 (Addr.add (Addr.mk r1 0 none) 0) (Value.slice x223.a x223.len x223.cap) ∧
    ∃ x224 : SV, H.rd h222 (Addr.add (Addr.mk r1 0 none) 1) (Value.slice x224.a x224.len x224.cap) ∧
    ∃ x225 : SV, H.rd h222 (Addr.add (Addr.mk r1 0 none) 2) (Value.slice x225.a x225.len x225.cap) ∧
    ∃ x226 : SV, H.rd h222 (Addr.add (Addr.mk r1 0 none) 3) (Value.slice x226.a x226.len x226.cap) ∧
    ([(Value.slice x223.a x223.len x223.cap), (Value.slice x224.a x224.len x224.cap), (Value.slice x225.a x225.len x225.cap), (Value.slice x226.a x226.len x226.cap)]).length = 4 ∧ (Program.underlying Go.Proofs.Tryd.prog 31).isSome = true ∧
    H.wr h222 (Addr.mk r3 0 none) ([(Value.slice x223.a x223.len x223.cap), (Value.slice x224.a x224.len x224.cap), (Value.slice x225.a x225.len x225.cap), (Value.slice x226.a x226.len x226.cap)]) fun h227 =>
    ∃ x228 : SV, H.rd h227 (Addr.add (Addr.mk r3 0 none) 0) (Value.slice x228.a x228.len x228.cap) ∧
    ∃ x229 : SV, H.rd h227 (Addr.add (Addr.mk r3 0 none) 1) (Value.slice x229.a x229.len x229.cap) ∧
    ∃ x230 : SV, H.rd h227 (Addr.add (Addr.mk r3 0 none) 2) (Value.slice x230.a x230.len x230.cap) ∧
    ∃ x231 : SV, H.rd h227 (Addr.add (Addr.mk r3 0 none) 3) (Value.slice x231.a x231.len x231.cap) ∧
    VRet h227 (Value.tuple (List.toArray [(Value.agg (List.toArray [(Value.slice x228.a x228.len x228.cap), (Value.slice x229.a x229.len x229.cap), (Value.slice x230.a x230.len x230.cap), (Value.slice x231.a x231.len x231.cap)])), (Value.bool true)])) post) (
    In64 (x201_k + (1 : Int)) ∧
    ∃ m199, m199 < n198 ∧ (∃ h232, Gh h215 h232 ∧ I197 m199 (x201_k + (1 : Int)) h232))

def f11_L5 (p1_i : Int) (post : Value → H → Prop) (r1 : Nat) (r3 : Nat) (r18 : Nat) (r20 : Nat) (R196 : H → Prop) (I197 : Nat → Int → H → Prop) (n198 : Nat) (x201_k : Int) (h202 : H) : Prop :=
  VIf (decide (x201_k < (2 : Int))) (
    ∃ b203 : Addr, (some (Addr.mk r18 0 none)) = some b203 ∧ 0 ≤ x201_k ∧ x201_k < ((2 : Nat) : Int) ∧
    ∃ x204 : Int, H.rd h202 (Addr.add (Addr.add b203 ((x201_k).toNat * 1)) 0) (Value.int .i64 x204) ∧
    ∃ R205 : Bool → H → Prop, (
      ∃ x206 : SV, H.rd h202 (Addr.add (Addr.add (Addr.mk r1 0 none) 1) 0) (Value.slice x206.a x206.len x206.cap) ∧
      ∃ b207 : Addr, x206.a = some b207 ∧ 0 ≤ x204 ∧ x204 < ((x206.len : Nat) : Int) ∧
      ∃ x208 : Int, H.rd h202 (Addr.add (Addr.add b207 ((x204).toNat * 1)) 0) (Value.int .i64 x208) ∧
      VIf (x208 != p1_i) (
        ∃ x209 : SV, H.rd h202 (Addr.add (Addr.add (Addr.mk r1 0 none) 2) 0) (Value.slice x209.a x209.len x209.cap) ∧
        ∃ b210 : Addr, x209.a = some b210 ∧ 0 ≤ x204 ∧ x204 < ((x209.len : Nat) : Int) ∧
        ∃ x211 : Int, H.rd h202 (Addr.add (Addr.add b210 ((x204).toNat * 1)) 0) (Value.int .i64 x211) ∧
        (∃ h212, Gh h202 h212 ∧ R205 (x211 == p1_i) h212)) (
        (∃ h213, Gh h202 h213 ∧ R205 false h213))) ∧
    ∀ (_ : F) (x214 : Bool) (h215 : H), R205 x214 h215 →
    f11_J4 post r1 r3 r20 I197 n198 x201_k x204 x214 h215) (
    (∃ h233, Gh h202 h233 ∧ R196 h233))

def f11_J6 (post : Value → H → Prop) (r1 : Nat) (r3 : Nat) (h234 : H) : Prop :=
  ∃ x235 : SV, H.rd h234 (Addr.add (Addr.mk r1 0 none) 0) (Value.slice x235.a x235.len x235.cap) ∧
  ∃ x236 : SV, H.rd h234 (Addr.add (Addr.mk r1 0 none) 1) (Value.slice x236.a x236.len x236.cap) ∧
  ∃ x237 : SV, H.rd h234 (Addr.add (Addr.mk r1 0 none) 2) (Value.slice x237.a x237.len x237.cap) ∧
  ∃ x238 : SV, H.rd h234 (Addr.add (Addr.mk r1 0 none) 3) (Value.slice x238.a x238.len x238.cap) ∧
  ([(Value.slice x235.a x235.len x235.cap), (Value.slice x236.a x236.len x236.cap), (Value.slice x237.a x237.len x237.cap), (Value.slice x238.a x238.len x238.cap)]).length = 4 ∧ (Program.underlying Go.Proofs.Tryd.prog 31).isSome = true ∧
  H.wr h234 (Addr.mk r3 0 none) ([(Value.slice x235.a x235.len x235.cap), (Value.slice x236.a x236.len x236.cap), (Value.slice x237.a x237.len x237.cap), (Value.slice x238.a x238.len x238.cap)]) fun h239 =>
  ∃ x240 : SV, H.rd h239 (Addr.add (Addr.mk r3 0 none) 0) (Value.slice x240.a x240.len x240.cap) ∧
  ∃ x241 : SV, H.rd h239 (Addr.add (Addr.mk r3 0 none) 1) (Value.slice x241.a x241.len x241.cap) ∧
  ∃ x242 : SV, H.rd h239 (Addr.add (Addr.mk r3 0 none) 2) (Value.slice x242.a x242.len x242.cap) ∧
  ∃ x243 : SV, H.rd h239 (Addr.add (Addr.mk r3 0 none) 3) (Value.slice x243.a x243.len x243.cap) ∧
  VRet h239 (Value.tuple (List.toArray [(Value.agg (List.toArray [(Value.slice x240.a x240.len x240.cap), (Value.slice x241.a x241.len x241.cap), (Value.slice x242.a x242.len x242.cap), (Value.slice x243.a x243.len x243.cap)])), (Value.bool false)])) post

def f11_J7 (p1_i : Int) (post : Value → H → Prop) (r1 : Nat) (r3 : Nat) (r18 : Nat) (r20 : Nat) (x95 : Bool) (h96 : H) : Prop :=
  VIf x95 (
    ∃ x97 : SV, H.rd h96 (Addr.add (Addr.add (Addr.mk r1 0 none) 0) 0) (Value.slice x97.a x97.len x97.cap) ∧
    SemCall Go.Proofs.Tryd.prog 30 (List.toArray [(Value.slice x97.a x97.len x97.cap), (Value.int .i64 p1_i), (Value.int .i64 (2 : Int))]) h96 fun v98 h99 =>
    ∃ x100 : SV, v98 = (Value.slice x100.a x100.len x100.cap) ∧
    H.wr h99 (Addr.add (Addr.mk r1 0 none) 0) ([(Value.slice x100.a x100.len x100.cap)]) fun h101 =>
    ∃ R102 : H → Prop, (
      ∃ b103 : Addr, (some (Addr.mk r18 0 none)) = some b103 ∧ 0 ≤ (0 : Int) ∧ (0 : Int) < ((2 : Nat) : Int) ∧
      ∃ b104 : Addr, (some (Addr.mk r18 0 none)) = some b104 ∧ 0 ≤ (1 : Int) ∧ (1 : Int) < ((2 : Nat) : Int) ∧
      (
        ∃ x105 : SV, H.rd h101 (Addr.add (Addr.add (Addr.mk r1 0 none) 3) 0) (Value.slice x105.a x105.len x105.cap) ∧
        (
          ∃ x106 : Int, H.rd h101 (Addr.add (Addr.add b103 (((0 : Int)).toNat * 1)) 0) (Value.int .i64 x106) ∧
          (
            SemCall Go.Proofs.Tryd.prog 30 (List.toArray [(Value.slice x105.a x105.len x105.cap), (Value.int .i64 x106), (Value.int .i64 (1 : Int))]) h101 fun v107 h108 =>
            ∃ x109 : SV, v107 = (Value.slice x109.a x109.len x109.cap) ∧
            ∃ x110 : Int, H.rd h108 (Addr.add (Addr.add b104 (((1 : Int)).toNat * 1)) 0) (Value.int .i64 x110) ∧
            SemCall Go.Proofs.Tryd.prog 30 (List.toArray [(Value.slice x109.a x109.len x109.cap), (Value.int .i64 x110), (Value.int .i64 (1 : Int))]) h108 fun v111 h112 =>
            ∃ x113 : SV, v111 = (Value.slice x113.a x113.len x113.cap) ∧
            H.wr h112 (Addr.add (Addr.mk r1 0 none) 3) ([(Value.slice x113.a x113.len x113.cap)]) fun h114 =>
            (∃ h115, Gh h114 h115 ∧ R102 h115)) ∧
          (
            ∃ x116 : Int, H.rd h101 (Addr.add (Addr.add b104 (((1 : Int)).toNat * 1)) 0) (Value.int .i64 x116) ∧
            SemCall Go.Proofs.Tryd.prog 30 (List.toArray [(Value.slice x105.a x105.len x105.cap), (Value.int .i64 x106), (Value.int .i64 (1 : Int))]) h101 fun v117 h118 =>
            ∃ x119 : SV, v117 = (Value.slice x119.a x119.len x119.cap) ∧
            SemCall Go.Proofs.Tryd.prog 30 (List.toArray [(Value.slice x119.a x119.len x119.cap), (Value.int .i64 x116), (Value.int .i64 (1 : Int))]) h118 fun v120 h121 =>
            ∃ x122 : SV, v120 = (Value.slice x122.a x122.len x122.cap) ∧
            H.wr h121 (Addr.add (Addr.mk r1 0 none) 3) ([(Value.slice x122.a x122.len x122.cap)]) fun h123 =>
            (∃ h124, Gh h123 h124 ∧ R102 h124))) ∧
        (
          ∃ x125 : Int, H.rd h101 (Addr.add (Addr.add b104 (((1 : Int)).toNat * 1)) 0) (Value.int .i64 x125) ∧
          ∃ x126 : Int, H.rd h101 (Addr.add (Addr.add b103 (((0 : Int)).toNat * 1)) 0) (Value.int .i64 x126) ∧
          SemCall Go.Proofs.Tryd.prog 30 (List.toArray [(Value.slice x105.a x105.len x105.cap), (Value.int .i64 x126), (Value.int .i64 (1 : Int))]) h101 fun v127 h128 =>
          ∃ x129 : SV, v127 = (Value.slice x129.a x129.len x129.cap) ∧
          SemCall Go.Proofs.Tryd.prog 30 (List.toArray [(Value.slice x129.a x129.len x129.cap), (Value.int .i64 x125), (Value.int .i64 (1 : Int))]) h128 fun v130 h131 =>
          ∃ x132 : SV, v130 = (Value.slice x132.a x132.len x132.cap) ∧
          H.wr h131 (Addr.add (Addr.mk r1 0 none) 3) ([(Value.slice x132.a x132.len x132.cap)]) fun h133 =>
          (∃ h134, Gh h133 h134 ∧ R102 h134))) ∧
      (
        (
          ∃ x135 : Int, H.rd h101 (Addr.add (Addr.add b103 (((0 : Int)).toNat * 1)) 0) (Value.int .i64 x135) ∧
          (
            ∃ x136 : SV, H.rd h101 (Addr.add (Addr.add (Addr.mk r1 0 none) 3) 0) (Value.slice x136.a x136.len x136.cap) ∧
            (
              SemCall Go.Proofs.Tryd.prog 30 (List.toArray [(Value.slice x136.a x136.len x136.cap), (Value.int .i64 x135), (Value.int .i64 (1 : Int))]) h101 fun v137 h138 =>
              ∃ x139 : SV, v137 = (Value.slice x139.a x139.len x139.cap) ∧
              ∃ x140 : Int, H.rd h138 (Addr.add (Addr.add b104 (((1 : Int)).toNat * 1)) 0) (Value.int .i64 x140) ∧
              SemCall Go.Proofs.Tryd.prog 30 (List.toArray [(Value.slice x139.a x139.len x139.cap), (Value.int .i64 x140), (Value.int .i64 (1 : Int))]) h138 fun v141 h142 =>
              ∃ x143 : SV, v141 = (Value.slice x143.a x143.len x143.cap) ∧
              H.wr h142 (Addr.add (Addr.mk r1 0 none) 3) ([(Value.slice x143.a x143.len x143.cap)]) fun h144 =>
              (∃ h145, Gh h144 h145 ∧ R102 h145)) ∧
            (
              ∃ x146 : Int, H.rd h101 (Addr.add (Addr.add b104 (((1 : Int)).toNat * 1)) 0) (Value.int .i64 x146) ∧
              SemCall Go.Proofs.Tryd.prog 30 (List.toArray [(Value.slice x136.a x136.len x136.cap), (Value.int .i64 x135), (Value.int .i64 (1 : Int))]) h101 fun v147 h148 =>
              ∃ x149 : SV, v147 = (Value.slice x149.a x149.len x149.cap) ∧
              SemCall Go.Proofs.Tryd.prog 30 (List.toArray [(Value.slice x149.a x149.len x149.cap), (Value.int .i64 x146), (Value.int .i64 (1 : Int))]) h148 fun v150 h151 =>
              ∃ x152 : SV, v150 = (Value.slice x152.a x152.len x152.cap) ∧
              H.wr h151 (Addr.add (Addr.mk r1 0 none) 3) ([(Value.slice x152.a x152.len x152.cap)]) fun h153 =>
              (∃ h154, Gh h153 h154 ∧ R102 h154))) ∧
          (
            ∃ x155 : Int, H.rd h101 (Addr.add (Addr.add b104 (((1 : Int)).toNat * 1)) 0) (Value.int .i64 x155) ∧
            ∃ x156 : SV, H.rd h101 (Addr.add (Addr.add (Addr.mk r1 0 none) 3) 0) (Value.slice x156.a x156.len x156.cap) ∧
            SemCall Go.Proofs.Tryd.prog 30 (List.toArray [(Value.slice x156.a x156.len x156.cap), (Value.int .i64 x135), (Value.int .i64 (1 : Int))]) h101 fun v157 h158 =>
            ∃ x159 : SV, v157 = (Value.slice x159.a x159.len x159.cap) ∧
            SemCall Go.Proofs.Tryd.prog 30 (List.toArray [(Value.slice x159.a x159.len x159.cap), (Value.int .i64 x155), (Value.int .i64 (1 : Int))]) h158 fun v160 h161 =>
            ∃ x162 : SV, v160 = (Value.slice x162.a x162.len x162.cap) ∧
            H.wr h161 (Addr.add (Addr.mk r1 0 none) 3) ([(Value.slice x162.a x162.len x162.cap)]) fun h163 =>
            (∃ h164, Gh h163 h164 ∧ R102 h164))) ∧
        (
          ∃ x165 : Int, H.rd h101 (Addr.add (Addr.add b104 (((1 : Int)).toNat * 1)) 0) (Value.int .i64 x165) ∧
          (
            ∃ x166 : SV, H.rd h101 (Addr.add (Addr.add (Addr.mk r1 0 none) 3) 0) (Value.slice x166.a x166.len x166.cap) ∧
            ∃ x167 : Int, H.rd h101 (Addr.add (Addr.add b103 (((0 : Int)).toNat * 1)) 0) (Value.int .i64 x167) ∧
            SemCall Go.Proofs.Tryd.prog 30 (List.toArray [(Value.slice x166.a x166.len x166.cap), (Value.int .i64 x167), (Value.int .i64 (1 : Int))]) h101 fun v168 h169 =>
            ∃ x170 : SV, v168 = (Value.slice x170.a x170.len x170.cap) ∧
            SemCall Go.Proofs.Tryd.prog 30 (List.toArray [(Value.slice x170.a x170.len x170.cap), (Value.int .i64 x165), (Value.int .i64 (1 : Int))]) h169 fun v171 h172 =>
            ∃ x173 : SV, v171 = (Value.slice x173.a x173.len x173.cap) ∧
            H.wr h172 (Addr.add (Addr.mk r1 0 none) 3) ([(Value.slice x173.a x173.len x173.cap)]) fun h174 =>
            (∃ h175, Gh h174 h175 ∧ R102 h175)) ∧
          (
            ∃ x176 : Int, H.rd h101 (Addr.add (Addr.add b103 (((0 : Int)).toNat * 1)) 0) (Value.int .i64 x176) ∧
            ∃ x177 : SV, H.rd h101 (Addr.add (Addr.add (Addr.mk r1 0 none) 3) 0) (Value.slice x177.a x177.len x177.cap) ∧
            SemCall Go.Proofs.Tryd.prog 30 (List.toArray [(Value.slice x177.a x177.len x177.cap), (Value.int .i64 x176), (Value.int .i64 (1 : Int))]) h101 fun v178 h179 =>
            ∃ x180 : SV, v178 = (Value.slice x180.a x180.len x180.cap) ∧
            SemCall Go.Proofs.Tryd.prog 30 (List.toArray [(Value.slice x180.a x180.len x180.cap), (Value.int .i64 x165), (Value.int .i64 (1 : Int))]) h179 fun v181 h182 =>
            ∃ x183 : SV, v181 = (Value.slice x183.a x183.len x183.cap) ∧
            H.wr h182 (Addr.add (Addr.mk r1 0 none) 3) ([(Value.slice x183.a x183.len x183.cap)]) fun h184 =>
            (∃ h185, Gh h184 h185 ∧ R102 h185))))) ∧
    ∀ (_ : F) (h186 : H), R102 h186 →
    f11_J3 post r1 r3 h186) (
    ∃ R196 : H → Prop, (
      ∃ I197 : Nat → Int → H → Prop, (∃ n198, (∃ h200, Gh h96 h200 ∧ I197 n198 (0 : Int) h200)) ∧
      ∀ (n198 : Nat) (_ : F) (x201_k : Int) (h202 : H), I197 n198 x201_k h202 →
      f11_L5 p1_i post r1 r3 r18 r20 R196 I197 n198 x201_k h202) ∧
    ∀ (_ : F) (h234 : H), R196 h234 →
    f11_J6 post r1 r3 h234)

def f11_J8 (p1_i : Int) (post : Value → H → Prop) (r1 : Nat) (r3 : Nat) (r18 : Nat) (r20 : Nat) (h69 : H) : Prop :=
  ∃ x70 : SV, H.rd h69 (Addr.add (Addr.add (Addr.mk r1 0 none) 0) 0) (Value.slice x70.a x70.len x70.cap) ∧
  ∃ b71 : Addr, x70.a = some b71 ∧ 0 ≤ p1_i ∧ p1_i < ((x70.len : Nat) : Int) ∧
  ∃ x72 : Int, H.rd h69 (Addr.add (Addr.add b71 ((p1_i).toNat * 1)) 0) (Value.int .i64 x72) ∧
  VIf (x72 == (0 : Int)) (
    ∃ x73 : SV, H.rd h69 (Addr.add (Addr.mk r1 0 none) 0) (Value.slice x73.a x73.len x73.cap) ∧
    ∃ x74 : SV, H.rd h69 (Addr.add (Addr.mk r1 0 none) 1) (Value.slice x74.a x74.len x74.cap) ∧
    ∃ x75 : SV, H.rd h69 (Addr.add (Addr.mk r1 0 none) 2) (Value.slice x75.a x75.len x75.cap) ∧
    ∃ x76 : SV, H.rd h69 (Addr.add (Addr.mk r1 0 none) 3) (Value.slice x76.a x76.len x76.cap) ∧
    ([(Value.slice x73.a x73.len x73.cap), (Value.slice x74.a x74.len x74.cap), (Value.slice x75.a x75.len x75.cap), (Value.slice x76.a x76.len x76.cap)]).length = 4 ∧ (Program.underlying Go.Proofs.Tryd.prog 31).isSome = true ∧
    H.wr h69 (Addr.mk r3 0 none) ([(Value.slice x73.a x73.len x73.cap), (Value.slice x74.a x74.len x74.cap), (Value.slice x75.a x75.len x75.cap), (Value.slice x76.a x76.len x76.cap)]) fun h77 =>
    ∃ x78 : SV, H.rd h77 (Addr.add (Addr.mk r3 0 none) 0) (Value.slice x78.a x78.len x78.cap) ∧
    ∃ x79 : SV, H.rd h77 (Addr.add (Addr.mk r3 0 none) 1) (Value.slice x79.a x79.len x79.cap) ∧
    ∃ x80 : SV, H.rd h77 (Addr.add (Addr.mk r3 0 none) 2) (Value.slice x80.a x80.len x80.cap) ∧
    ∃ x81 : SV, H.rd h77 (Addr.add (Addr.mk r3 0 none) 3) (Value.slice x81.a x81.len x81.cap) ∧
    VRet h77 (Value.tuple (List.toArray [(Value.agg (List.toArray [(Value.slice x78.a x78.len x78.cap), (Value.slice x79.a x79.len x79.cap), (Value.slice x80.a x80.len x80.cap), (Value.slice x81.a x81.len x81.cap)])), (Value.bool false)])) post) (
    ∃ R82 : Bool → H → Prop, (
      ∃ x83 : SV, H.rd h69 (Addr.add (Addr.add (Addr.mk r1 0 none) 1) 0) (Value.slice x83.a x83.len x83.cap) ∧
      ∃ b84 : Addr, (some (Addr.mk r18 0 none)) = some b84 ∧ 0 ≤ (0 : Int) ∧ (0 : Int) < ((2 : Nat) : Int) ∧
      ∃ x85 : Int, H.rd h69 (Addr.add (Addr.add b84 (((0 : Int)).toNat * 1)) 0) (Value.int .i64 x85) ∧
      ∃ b86 : Addr, x83.a = some b86 ∧ 0 ≤ x85 ∧ x85 < ((x83.len : Nat) : Int) ∧
      ∃ x87 : Int, H.rd h69 (Addr.add (Addr.add b86 ((x85).toNat * 1)) 0) (Value.int .i64 x87) ∧
      VIf (x87 == p1_i) (
        ∃ x88 : SV, H.rd h69 (Addr.add (Addr.add (Addr.mk r1 0 none) 1) 0) (Value.slice x88.a x88.len x88.cap) ∧
        ∃ b89 : Addr, (some (Addr.mk r18 0 none)) = some b89 ∧ 0 ≤ (1 : Int) ∧ (1 : Int) < ((2 : Nat) : Int) ∧
        ∃ x90 : Int, H.rd h69 (Addr.add (Addr.add b89 (((1 : Int)).toNat * 1)) 0) (Value.int .i64 x90) ∧
        ∃ b91 : Addr, x88.a = some b91 ∧ 0 ≤ x90 ∧ x90 < ((x88.len : Nat) : Int) ∧
        ∃ x92 : Int, H.rd h69 (Addr.add (Addr.add b91 ((x90).toNat * 1)) 0) (Value.int .i64 x92) ∧
        (∃ h93, Gh h69 h93 ∧ R82 (x92 == p1_i) h93)) (
        (∃ h94, Gh h69 h94 ∧ R82 false h94))) ∧
    ∀ (_ : F) (x95 : Bool) (h96 : H), R82 x95 h96 →
    f11_J7 p1_i post r1 r3 r18 r20 x95 h96)

def f11_sem (p0_0_t : SV) (p0_1_t : SV) (p0_2_t : SV) (p0_3_t : SV) (p1_i : Int) (h0 : H) (post : Value → H → Prop) : Prop :=
  H.new h0 [(Value.slice p0_0_t.a p0_0_t.len p0_0_t.cap), (Value.slice p0_1_t.a p0_1_t.len p0_1_t.cap), (Value.slice p0_2_t.a p0_2_t.len p0_2_t.cap), (Value.slice p0_3_t.a p0_3_t.len p0_3_t.cap)] fun r1 h2 =>
  H.new h2 [(Value.slice none 0 0), (Value.slice none 0 0), (Value.slice none 0 0), (Value.slice none 0 0)] fun r3 h4 =>
  ∃ x5 : SV, H.rd h4 (Addr.add (Addr.add (Addr.mk r1 0 none) 0) 0) (Value.slice x5.a x5.len x5.cap) ∧
  ∃ x6 : SV, H.rd h4 (Addr.add (Addr.add (Addr.mk r1 0 none) 0) 0) (Value.slice x6.a x6.len x6.cap) ∧
  ∃ b7 : Addr, x6.a = some b7 ∧ 0 ≤ p1_i ∧ p1_i < ((x6.len : Nat) : Int) ∧
  ∃ x8 : Int, H.rd h4 (Addr.add (Addr.add b7 ((p1_i).toNat * 1)) 0) (Value.int .i64 x8) ∧
  VIf (x8 == (2 : Int)) (
    ∃ x9 : SV, H.rd h4 (Addr.add (Addr.mk r1 0 none) 0) (Value.slice x9.a x9.len x9.cap) ∧
    ∃ x10 : SV, H.rd h4 (Addr.add (Addr.mk r1 0 none) 1) (Value.slice x10.a x10.len x10.cap) ∧
    ∃ x11 : SV, H.rd h4 (Addr.add (Addr.mk r1 0 none) 2) (Value.slice x11.a x11.len x11.cap) ∧
    ∃ x12 : SV, H.rd h4 (Addr.add (Addr.mk r1 0 none) 3) (Value.slice x12.a x12.len x12.cap) ∧
    ([(Value.slice x9.a x9.len x9.cap), (Value.slice x10.a x10.len x10.cap), (Value.slice x11.a x11.len x11.cap), (Value.slice x12.a x12.len x12.cap)]).length = 4 ∧ (Program.underlying Go.Proofs.Tryd.prog 31).isSome = true ∧
    H.wr h4 (Addr.mk r3 0 none) ([(Value.slice x9.a x9.len x9.cap), (Value.slice x10.a x10.len x10.cap), (Value.slice x11.a x11.len x11.cap), (Value.slice x12.a x12.len x12.cap)]) fun h13 =>
    ∃ x14 : SV, H.rd h13 (Addr.add (Addr.mk r3 0 none) 0) (Value.slice x14.a x14.len x14.cap) ∧
    ∃ x15 : SV, H.rd h13 (Addr.add (Addr.mk r3 0 none) 1) (Value.slice x15.a x15.len x15.cap) ∧
    ∃ x16 : SV, H.rd h13 (Addr.add (Addr.mk r3 0 none) 2) (Value.slice x16.a x16.len x16.cap) ∧
    ∃ x17 : SV, H.rd h13 (Addr.add (Addr.mk r3 0 none) 3) (Value.slice x17.a x17.len x17.cap) ∧
    VRet h13 (Value.tuple (List.toArray [(Value.agg (List.toArray [(Value.slice x14.a x14.len x14.cap), (Value.slice x15.a x15.len x15.cap), (Value.slice x16.a x16.len x16.cap), (Value.slice x17.a x17.len x17.cap)])), (Value.bool false)])) post) (
    In64 (p1_i + ((x5.len : Nat) : Int)) ∧
    In64 ((p1_i + ((x5.len : Nat) : Int)) - (1 : Int)) ∧
    ((x5.len : Nat) : Int) ≠ 0 ∧
    H.new h4 [(Value.int .i64 (Int.tmod ((p1_i + ((x5.len : Nat) : Int)) - (1 : Int)) ((x5.len : Nat) : Int))), (Value.int .i64 p1_i)] fun r18 h19 =>
    In64 (p1_i + ((x5.len : Nat) : Int)) ∧
    In64 ((p1_i + ((x5.len : Nat) : Int)) - (1 : Int)) ∧
    ((x5.len : Nat) : Int) ≠ 0 ∧
    In64 (p1_i + (1 : Int)) ∧
    ((x5.len : Nat) : Int) ≠ 0 ∧
    H.new h19 [(Value.int .i64 (Int.tmod ((p1_i + ((x5.len : Nat) : Int)) - (1 : Int)) ((x5.len : Nat) : Int))), (Value.int .i64 (Int.tmod (p1_i + (1 : Int)) ((x5.len : Nat) : Int)))] fun r20 h21 =>
    ∃ R22 : H → Prop, (
      ∃ I23 : Nat → Int → H → Prop, (∃ n24, (∃ h26, Gh h21 h26 ∧ I23 n24 (0 : Int) h26)) ∧
      ∀ (n24 : Nat) (_ : F) (x27_k : Int) (h28 : H), I23 n24 x27_k h28 →
      f11_L2 p1_i post r1 r3 r18 r20 R22 I23 n24 x27_k h28) ∧
    ∀ (_ : F) (h69 : H), R22 h69 →
    f11_J8 p1_i post r1 r3 r18 r20 h69)

def f11_hint : Hint := (.node .leaf (.node .leaf (.node .leaf (.node .leaf (.node (.tail 10) (.node (.node .leaf (.join [] (.node (.loop [(9, .int)] (.node .leaf (.node (.node (.node .leaf (.node (.join [(73, .bool)] .leaf) (.node (.node (.tail 7) .leaf) .leaf))) .leaf) .leaf))) .leaf))) (.node .leaf (.node (.node (.join [(115, .bool)] .leaf) (.node (.node .leaf (.node (.join [] .any) .leaf)) .leaf)) (.node (.node .leaf (.join [] (.node (.loop [(11, .int)] (.node .leaf (.node (.node (.node .leaf (.node (.join [(156, .bool)] .leaf) (.node (.node (.tail 7) .leaf) .leaf))) .leaf) .leaf))) .leaf))) .leaf)))))))))

theorem f11_eq (p0_0_t : SV) (p0_1_t : SV) (p0_2_t : SV) (p0_3_t : SV) (p1_i : Int) (h0 : H) (post : Value → H → Prop) : exec Tryd.prog (bodyOf Tryd.f11) f11_hint (retQ Tryd.prog Tryd.f11 post) (F0 [(Value.agg (List.toArray [(Value.slice p0_0_t.a p0_0_t.len p0_0_t.cap), (Value.slice p0_1_t.a p0_1_t.len p0_1_t.cap), (Value.slice p0_2_t.a p0_2_t.len p0_2_t.cap), (Value.slice p0_3_t.a p0_3_t.len p0_3_t.cap)])), (Value.int .i64 p1_i)]) h0 = f11_sem p0_0_t p0_1_t p0_2_t p0_3_t p1_i h0 post := by kernel_rfl

set_option maxRecDepth 20000 in
theorem f11_call (p0_0_t : SV) (p0_1_t : SV) (p0_2_t : SV) (p0_3_t : SV) (p1_i : Int) (h0 : H) (post : Value → H → Prop) (hx : f11_sem p0_0_t p0_1_t p0_2_t p0_3_t p1_i h0 post) : SemCall Tryd.prog 11 (List.toArray [(Value.agg (List.toArray [(Value.slice p0_0_t.a p0_0_t.len p0_0_t.cap), (Value.slice p0_1_t.a p0_1_t.len p0_1_t.cap), (Value.slice p0_2_t.a p0_2_t.len p0_2_t.cap), (Value.slice p0_3_t.a p0_3_t.len p0_3_t.cap)])), (Value.int .i64 p1_i)]) h0 post :=
  sem_of_exec (g := f11_hint) mixed Tryd.func11 (bodyOf_eq (by kernel_rfl)) (by kernel_rfl) ((f11_eq p0_0_t p0_1_t p0_2_t p0_3_t p1_i h0 post).mpr hx)

/- (*latchgarth/dine.Table).Step -/
def f12_J1 (p0_t : Option Addr) (p1_i : Int) (post : Value → H → Prop) (I13 : Nat → Bool → Int → H → Prop) (n14 : Nat) (x17_both : Bool) (x18 : Int) (x20 : Option Addr) (x31 : Bool) (h32 : H) : Prop :=
  VIf x31 (
    SemCall Go.Proofs.Tryd.prog 32 (List.toArray [(Value.pointer p0_t), (Value.int .i64 p1_i), (Value.int .i64 x18)]) h32 fun v33 h34 =>
    ∃ x35 : Int, v33 = (Value.int .i64 x35) ∧
    ∃ a36 : Addr, x20 = some a36 ∧
    H.wr h34 (Addr.add a36 0) ([(Value.int .i64 x35)]) fun h37 =>
    ∃ a38 : Addr, x20 = some a38 ∧
    H.wr h37 (Addr.add a38 2) ([(Value.bool false)]) fun h39 =>
    VRet h39 (Value.tuple (List.toArray [(Value.bool true), Value.nilIface])) post) (
    ∃ R40 : Bool → H → Prop, (
      VIf x17_both (
        ∃ a41 : Addr, x20 = some a41 ∧
        ∃ x42 : Int, H.rd h32 (Addr.add (Addr.add a41 0) 0) (Value.int .i64 x42) ∧
        (∃ h43, Gh h32 h43 ∧ R40 (x42 == p1_i) h43)) (
        (∃ h44, Gh h32 h44 ∧ R40 false h44))) ∧
    ∀ (_ : F) (x45_both : Bool) (h46 : H), R40 x45_both h46 →
    In64 (x18 + (1 : Int)) ∧
    ∃ m15, m15 < n14 ∧ (∃ h47, Gh h46 h47 ∧ I13 m15 x45_both (x18 + (1 : Int)) h47))

def f12_L2 (p0_t : Option Addr) (p1_i : Int) (post : Value → H → Prop) (x10 : Option Addr) (x11 : Option Addr) (R12 : Bool → H → Prop) (I13 : Nat → Bool → Int → H → Prop) (n14 : Nat) (x17_both : Bool) (x18 : Int) (h19 : H) : Prop :=
  VIf (decide (x18 < (2 : Int))) (
    0 ≤ x18 ∧ x18 < ((2 : Nat) : Int) ∧
    ∃ x20 : Option Addr, ([(Value.pointer x10), (Value.pointer x11)])[(x18).toNat * 1 + 0]? = some (Value.pointer x20) ∧
    ∃ R21 : Bool → H → Prop, (
      ∃ a22 : Addr, x20 = some a22 ∧
      ∃ x23 : Int, H.rd h19 (Addr.add (Addr.add a22 0) 0) (Value.int .i64 x23) ∧
      VIf (x23 == p1_i) (
        ∃ a24 : Addr, x20 = some a24 ∧
        ∃ x25 : Bool, H.rd h19 (Addr.add (Addr.add a24 2) 0) (Value.bool x25) ∧
        VIf x25 (
          ∃ a26 : Addr, x20 = some a26 ∧
          ∃ x27 : Int, H.rd h19 (Addr.add (Addr.add a26 1) 0) (Value.int .i64 x27) ∧
          (∃ h28, Gh h19 h28 ∧ R21 (x27 == p1_i) h28)) (
          (∃ h29, Gh h19 h29 ∧ R21 false h29))) (
        (∃ h30, Gh h19 h30 ∧ R21 false h30))) ∧
    ∀ (_ : F) (x31 : Bool) (h32 : H), R21 x31 h32 →
    f12_J1 p0_t p1_i post I13 n14 x17_both x18 x20 x31 h32) (
    (∃ h48, Gh h19 h48 ∧ R12 x17_both h48))

def f12_L3 (x61 : Option Addr) (x62 : Option Addr) (R63 : H → Prop) (I64 : Nat → Int → H → Prop) (n65 : Nat) (x68 : Int) (h69 : H) : Prop :=
  VIf (decide (x68 < (2 : Int))) (
    0 ≤ x68 ∧ x68 < ((2 : Nat) : Int) ∧
    ∃ x70 : Option Addr, ([(Value.pointer x61), (Value.pointer x62)])[(x68).toNat * 1 + 0]? = some (Value.pointer x70) ∧
    ∃ a71 : Addr, x70 = some a71 ∧
    H.wr h69 (Addr.add a71 2) ([(Value.bool true)]) fun h72 =>
    In64 (x68 + (1 : Int)) ∧
    ∃ m66, m66 < n65 ∧ (∃ h73, Gh h72 h73 ∧ I64 m66 (x68 + (1 : Int)) h73)) (
    (∃ h74, Gh h69 h74 ∧ R63 h74))

def f12_L4 (p0_t : Option Addr) (p1_i : Int) (post : Value → H → Prop) (x78 : Option Addr) (x79 : Option Addr) (R80 : H → Prop) (I81 : Nat → Int → H → Prop) (n82 : Nat) (x85 : Int) (h86 : H) : Prop :=
  VIf (decide (x85 < (2 : Int))) (
    0 ≤ x85 ∧ x85 < ((2 : Nat) : Int) ∧
    ∃ x87 : Option Addr, ([(Value.pointer x78), (Value.pointer x79)])[(x85).toNat * 1 + 0]? = some (Value.pointer x87) ∧
    ∃ R88 : Bool → H → Prop, (
      ∃ a89 : Addr, x87 = some a89 ∧
      ∃ x90 : Int, H.rd h86 (Addr.add (Addr.add a89 0) 0) (Value.int .i64 x90) ∧
      VIf (x90 != p1_i) (
        ∃ a91 : Addr, x87 = some a91 ∧
        ∃ x92 : Int, H.rd h86 (Addr.add (Addr.add a91 1) 0) (Value.int .i64 x92) ∧
        (∃ h93, Gh h86 h93 ∧ R88 (x92 == p1_i) h93)) (
        (∃ h94, Gh h86 h94 ∧ R88 false h94))) ∧
    ∀ (_ : F) (x95 : Bool) (h96 : H), R88 x95 h96 →
    VIf x95 (
      SemCall Go.Proofs.Tryd.prog 32 (List.toArray [(Value.pointer p0_t), (Value.int .i64 p1_i), (Value.int .i64 x85)]) h96 fun v97 h98 =>
      ∃ x99 : Int, v97 = (Value.int .i64 x99) ∧
      ∃ a100 : Addr, x87 = some a100 ∧
      H.wr h98 (Addr.add a100 1) ([(Value.int .i64 x99)]) fun h101 =>
      VRet h101 (Value.tuple (List.toArray [(Value.bool true), Value.nilIface])) post) (
      In64 (x85 + (1 : Int)) ∧
      ∃ m83, m83 < n82 ∧ (∃ h102, Gh h96 h102 ∧ I81 m83 (x85 + (1 : Int)) h102))) (
    (∃ h103, Gh h86 h103 ∧ R80 h103))

def f12_J5 (p0_t : Option Addr) (p1_i : Int) (post : Value → H → Prop) (x49_both : Bool) (h50 : H) : Prop :=
  ∃ a51 : Addr, p0_t = some a51 ∧
  ∃ x52 : SV, H.rd h50 (Addr.add (Addr.add a51 0) 0) (Value.slice x52.a x52.len x52.cap) ∧
  ∃ b53 : Addr, x52.a = some b53 ∧ 0 ≤ p1_i ∧ p1_i < ((x52.len : Nat) : Int) ∧
  ∃ x54 : Int, H.rd h50 (Addr.add (Addr.add b53 ((p1_i).toNat * 1)) 0) (Value.int .i64 x54) ∧
  VIf (x54 == (0 : Int)) (
    VRet h50 (Value.tuple (List.toArray [(Value.bool false), Value.nilIface])) post) (
    VIf x49_both (
      ∃ a55 : Addr, p0_t = some a55 ∧
      ∃ x56 : SV, H.rd h50 (Addr.add (Addr.add a55 0) 0) (Value.slice x56.a x56.len x56.cap) ∧
      ∃ b57 : Addr, x56.a = some b57 ∧ 0 ≤ p1_i ∧ p1_i < ((x56.len : Nat) : Int) ∧
      H.wr h50 (Addr.add b57 ((p1_i).toNat * 1)) ([(Value.int .i64 (2 : Int))]) fun h58 =>
      SemCall Go.Proofs.Tryd.prog 31 (List.toArray [(Value.pointer p0_t), (Value.int .i64 p1_i)]) h58 fun v59 h60 =>
      ∃ x61 : Option Addr, ∃ x62 : Option Addr, v59 = (Value.agg (List.toArray [(Value.pointer x61), (Value.pointer x62)])) ∧
      ∃ R63 : H → Prop, (
        ∃ I64 : Nat → Int → H → Prop, (∃ n65, (∃ h67, Gh h60 h67 ∧ I64 n65 (0 : Int) h67)) ∧
        ∀ (n65 : Nat) (_ : F) (x68 : Int) (h69 : H), I64 n65 x68 h69 →
        f12_L3 x61 x62 R63 I64 n65 x68 h69) ∧
      ∀ (_ : F) (h75 : H), R63 h75 →
      VRet h75 (Value.tuple (List.toArray [(Value.bool true), Value.nilIface])) post) (
      SemCall Go.Proofs.Tryd.prog 31 (List.toArray [(Value.pointer p0_t), (Value.int .i64 p1_i)]) h50 fun v76 h77 =>
      ∃ x78 : Option Addr, ∃ x79 : Option Addr, v76 = (Value.agg (List.toArray [(Value.pointer x78), (Value.pointer x79)])) ∧
      ∃ R80 : H → Prop, (
        ∃ I81 : Nat → Int → H → Prop, (∃ n82, (∃ h84, Gh h77 h84 ∧ I81 n82 (0 : Int) h84)) ∧
        ∀ (n82 : Nat) (_ : F) (x85 : Int) (h86 : H), I81 n82 x85 h86 →
        f12_L4 p0_t p1_i post x78 x79 R80 I81 n82 x85 h86) ∧
      ∀ (_ : F) (h104 : H), R80 h104 →
      VRet h104 (Value.tuple (List.toArray [(Value.bool false), Value.nilIface])) post))

def f12_sem (p0_t : Option Addr) (p1_i : Int) (h0 : H) (post : Value → H → Prop) : Prop :=
  SemCall Go.Proofs.Tryd.prog 29 (List.toArray [(Value.pointer p0_t), (Value.int .i64 p1_i)]) h0 fun v1 h2 =>
  ∃ x3 : Bool, v1 = (Value.bool x3) ∧
  VIf (!x3) (
    VRet h2 (Value.tuple (List.toArray [(Value.bool false), (Value.iface 61 (Value.int .i64 (1 : Int)))])) post) (
    ∃ a4 : Addr, p0_t = some a4 ∧
    ∃ x5 : SV, H.rd h2 (Addr.add (Addr.add a4 0) 0) (Value.slice x5.a x5.len x5.cap) ∧
    ∃ b6 : Addr, x5.a = some b6 ∧ 0 ≤ p1_i ∧ p1_i < ((x5.len : Nat) : Int) ∧
    ∃ x7 : Int, H.rd h2 (Addr.add (Addr.add b6 ((p1_i).toNat * 1)) 0) (Value.int .i64 x7) ∧
    VIf (x7 == (2 : Int)) (
      VRet h2 (Value.tuple (List.toArray [(Value.bool false), Value.nilIface])) post) (
      SemCall Go.Proofs.Tryd.prog 31 (List.toArray [(Value.pointer p0_t), (Value.int .i64 p1_i)]) h2 fun v8 h9 =>
      ∃ x10 : Option Addr, ∃ x11 : Option Addr, v8 = (Value.agg (List.toArray [(Value.pointer x10), (Value.pointer x11)])) ∧
      ∃ R12 : Bool → H → Prop, (
        ∃ I13 : Nat → Bool → Int → H → Prop, (∃ n14, (∃ h16, Gh h9 h16 ∧ I13 n14 true (0 : Int) h16)) ∧
        ∀ (n14 : Nat) (_ : F) (x17_both : Bool) (x18 : Int) (h19 : H), I13 n14 x17_both x18 h19 →
        f12_L2 p0_t p1_i post x10 x11 R12 I13 n14 x17_both x18 h19) ∧
      ∀ (_ : F) (x49_both : Bool) (h50 : H), R12 x49_both h50 →
      f12_J5 p0_t p1_i post x49_both h50))

def f12_hint : Hint := (.node .leaf (.node .leaf (.node .leaf (.node .leaf (.node (.node .leaf (.join [(6, .bool)] (.node (.loop [(6, .bool), (29, .int)] (.node .leaf (.node .leaf (.node (.node (.node .leaf (.node (.node (.join [(52, .bool)] .leaf) .leaf) (.join [(6, .bool)] .leaf))) .leaf) .leaf)))) .leaf))) (.node .leaf (.node (.node .leaf (.node (.node .leaf (.node (.node .leaf (.join [] (.node (.loop [(91, .int)] .leaf) .leaf))) .leaf)) .leaf)) (.node (.node .leaf (.join [] (.node (.loop [(101, .int)] (.node .leaf (.node .leaf (.node (.node (.node .leaf (.node (.join [(118, .bool)] .leaf) .leaf)) .leaf) .leaf)))) .leaf))) .leaf))))))))

theorem f12_eq (p0_t : Option Addr) (p1_i : Int) (h0 : H) (post : Value → H → Prop) : exec Tryd.prog (bodyOf Tryd.f12) f12_hint (retQ Tryd.prog Tryd.f12 post) (F0 [(Value.pointer p0_t), (Value.int .i64 p1_i)]) h0 = f12_sem p0_t p1_i h0 post := by kernel_rfl

set_option maxRecDepth 20000 in
theorem f12_call (p0_t : Option Addr) (p1_i : Int) (h0 : H) (post : Value → H → Prop) (hx : f12_sem p0_t p1_i h0 post) : SemCall Tryd.prog 12 (List.toArray [(Value.pointer p0_t), (Value.int .i64 p1_i)]) h0 post :=
  sem_of_exec (g := f12_hint) mixed Tryd.func12 (bodyOf_eq (by kernel_rfl)) (by kernel_rfl) ((f12_eq p0_t p1_i h0 post).mpr hx)

/- (*latchgarth/dine.Table).Forks -/
def f13_L1 (x2 : SV) (R3 : SV → SV → H → Prop) (I4 : Nat → SV → SV → Int → H → Prop) (n5 : Nat) (x8_who : SV) (x9_dirty : SV) (x10 : Int) (h11 : H) : Prop :=
  VIf (decide (x10 < ((x2.len : Nat) : Int))) (
    ∃ b12 : Addr, x2.a = some b12 ∧ 0 ≤ x10 ∧ x10 < ((x2.len : Nat) : Int) ∧
    ∃ x13 : Int, H.rd h11 (Addr.add (Addr.add b12 ((x10).toNat * 3)) 0) (Value.int .i64 x13) ∧
    ∃ x14 : Int, H.rd h11 (Addr.add (Addr.add b12 ((x10).toNat * 3)) 1) (Value.int .i64 x14) ∧
    ∃ x15 : Bool, H.rd h11 (Addr.add (Addr.add b12 ((x10).toNat * 3)) 2) (Value.bool x15) ∧
    H.new h11 [(Value.int .i64 (0 : Int)), (Value.int .i64 (0 : Int)), (Value.bool false)] fun r16 h17 =>
    ([(Value.int .i64 x13), (Value.int .i64 x14), (Value.bool x15)]).length = 3 ∧ (Program.underlying Go.Proofs.Tryd.prog 66).isSome = true ∧
    H.wr h17 (Addr.mk r16 0 none) ([(Value.int .i64 x13), (Value.int .i64 x14), (Value.bool x15)]) fun h18 =>
    ∃ R19 : SV → SV → H → Prop, (
      (
        ∃ x20 : Int, H.rd h18 (Addr.add (Addr.add (Addr.mk r16 0 none) 0) 0) (Value.int .i64 x20) ∧
        (
          H.new h18 [(Value.int .i64 x20)] fun r21 h22 =>
          (
            appVC Go.Proofs.Tryd.prog 29 (Value.slice x8_who.a x8_who.len x8_who.cap) (Value.slice (some (Addr.mk r21 0 none)) 1 1) h22 fun x23 h24 =>
            ∃ x25 : Bool, H.rd h24 (Addr.add (Addr.add (Addr.mk r16 0 none) 2) 0) (Value.bool x25) ∧
            H.new h24 [(Value.bool x25)] fun r26 h27 =>
            appVC Go.Proofs.Tryd.prog 39 (Value.slice x9_dirty.a x9_dirty.len x9_dirty.cap) (Value.slice (some (Addr.mk r26 0 none)) 1 1) h27 fun x28 h29 =>
            (∃ h30, Gh h29 h30 ∧ R19 x23 x28 h30)) ∧
          (
            ∃ x31 : Bool, H.rd h22 (Addr.add (Addr.add (Addr.mk r16 0 none) 2) 0) (Value.bool x31) ∧
            (
              appVC Go.Proofs.Tryd.prog 29 (Value.slice x8_who.a x8_who.len x8_who.cap) (Value.slice (some (Addr.mk r21 0 none)) 1 1) h22 fun x32 h33 =>
              H.new h33 [(Value.bool x31)] fun r34 h35 =>
              appVC Go.Proofs.Tryd.prog 39 (Value.slice x9_dirty.a x9_dirty.len x9_dirty.cap) (Value.slice (some (Addr.mk r34 0 none)) 1 1) h35 fun x36 h37 =>
              (∃ h38, Gh h37 h38 ∧ R19 x32 x36 h38)) ∧
            (
              H.new h22 [(Value.bool x31)] fun r39 h40 =>
              appVC Go.Proofs.Tryd.prog 29 (Value.slice x8_who.a x8_who.len x8_who.cap) (Value.slice (some (Addr.mk r21 0 none)) 1 1) h40 fun x41 h42 =>
              appVC Go.Proofs.Tryd.prog 39 (Value.slice x9_dirty.a x9_dirty.len x9_dirty.cap) (Value.slice (some (Addr.mk r39 0 none)) 1 1) h42 fun x43 h44 =>
              (∃ h45, Gh h44 h45 ∧ R19 x41 x43 h45)))) ∧
        (
          ∃ x46 : Bool, H.rd h18 (Addr.add (Addr.add (Addr.mk r16 0 none) 2) 0) (Value.bool x46) ∧
          (
            H.new h18 [(Value.int .i64 x20)] fun r47 h48 =>
            (
              appVC Go.Proofs.Tryd.prog 29 (Value.slice x8_who.a x8_who.len x8_who.cap) (Value.slice (some (Addr.mk r47 0 none)) 1 1) h48 fun x49 h50 =>
              H.new h50 [(Value.bool x46)] fun r51 h52 =>
              appVC Go.Proofs.Tryd.prog 39 (Value.slice x9_dirty.a x9_dirty.len x9_dirty.cap) (Value.slice (some (Addr.mk r51 0 none)) 1 1) h52 fun x53 h54 =>
              (∃ h55, Gh h54 h55 ∧ R19 x49 x53 h55)) ∧
            (
              H.new h48 [(Value.bool x46)] fun r56 h57 =>
              appVC Go.Proofs.Tryd.prog 29 (Value.slice x8_who.a x8_who.len x8_who.cap) (Value.slice (some (Addr.mk r47 0 none)) 1 1) h57 fun x58 h59 =>
              appVC Go.Proofs.Tryd.prog 39 (Value.slice x9_dirty.a x9_dirty.len x9_dirty.cap) (Value.slice (some (Addr.mk r56 0 none)) 1 1) h59 fun x60 h61 =>
              (∃ h62, Gh h61 h62 ∧ R19 x58 x60 h62))) ∧
          (
            H.new h18 [(Value.bool x46)] fun r63 h64 =>
            H.new h64 [(Value.int .i64 x20)] fun r65 h66 =>
            appVC Go.Proofs.Tryd.prog 29 (Value.slice x8_who.a x8_who.len x8_who.cap) (Value.slice (some (Addr.mk r65 0 none)) 1 1) h66 fun x67 h68 =>
            appVC Go.Proofs.Tryd.prog 39 (Value.slice x9_dirty.a x9_dirty.len x9_dirty.cap) (Value.slice (some (Addr.mk r63 0 none)) 1 1) h68 fun x69 h70 =>
            (∃ h71, Gh h70 h71 ∧ R19 x67 x69 h71)))) ∧
      (
        ∃ x72 : Bool, H.rd h18 (Addr.add (Addr.add (Addr.mk r16 0 none) 2) 0) (Value.bool x72) ∧
        (
          ∃ x73 : Int, H.rd h18 (Addr.add (Addr.add (Addr.mk r16 0 none) 0) 0) (Value.int .i64 x73) ∧
          (
            H.new h18 [(Value.int .i64 x73)] fun r74 h75 =>
            (
              appVC Go.Proofs.Tryd.prog 29 (Value.slice x8_who.a x8_who.len x8_who.cap) (Value.slice (some (Addr.mk r74 0 none)) 1 1) h75 fun x76 h77 =>
              H.new h77 [(Value.bool x72)] fun r78 h79 =>
              appVC Go.Proofs.Tryd.prog 39 (Value.slice x9_dirty.a x9_dirty.len x9_dirty.cap) (Value.slice (some (Addr.mk r78 0 none)) 1 1) h79 fun x80 h81 =>
              (∃ h82, Gh h81 h82 ∧ R19 x76 x80 h82)) ∧
            (
              H.new h75 [(Value.bool x72)] fun r83 h84 =>
              appVC Go.Proofs.Tryd.prog 29 (Value.slice x8_who.a x8_who.len x8_who.cap) (Value.slice (some (Addr.mk r74 0 none)) 1 1) h84 fun x85 h86 =>
              appVC Go.Proofs.Tryd.prog 39 (Value.slice x9_dirty.a x9_dirty.len x9_dirty.cap) (Value.slice (some (Addr.mk r83 0 none)) 1 1) h86 fun x87 h88 =>
              (∃ h89, Gh h88 h89 ∧ R19 x85 x87 h89))) ∧
          (
            H.new h18 [(Value.bool x72)] fun r90 h91 =>
            H.new h91 [(Value.int .i64 x73)] fun r92 h93 =>
            appVC Go.Proofs.Tryd.prog 29 (Value.slice x8_who.a x8_who.len x8_who.cap) (Value.slice (some (Addr.mk r92 0 none)) 1 1) h93 fun x94 h95 =>
            appVC Go.Proofs.Tryd.prog 39 (Value.slice x9_dirty.a x9_dirty.len x9_dirty.cap) (Value.slice (some (Addr.mk r90 0 none)) 1 1) h95 fun x96 h97 =>
            (∃ h98, Gh h97 h98 ∧ R19 x94 x96 h98))) ∧
        (
          H.new h18 [(Value.bool x72)] fun r99 h100 =>
          ∃ x101 : Int, H.rd h100 (Addr.add (Addr.add (Addr.mk r16 0 none) 0) 0) (Value.int .i64 x101) ∧
          H.new h100 [(Value.int .i64 x101)] fun r102 h103 =>
          appVC Go.Proofs.Tryd.prog 29 (Value.slice x8_who.a x8_who.len x8_who.cap) (Value.slice (some (Addr.mk r102 0 none)) 1 1) h103 fun x104 h105 =>
          appVC Go.Proofs.Tryd.prog 39 (Value.slice x9_dirty.a x9_dirty.len x9_dirty.cap) (Value.slice (some (Addr.mk r99 0 none)) 1 1) h105 fun x106 h107 =>
          (∃ h108, Gh h107 h108 ∧ R19 x104 x106 h108)))) ∧
    ∀ (_ : F) (x109_who : SV) (x110_dirty : SV) (h111 : H), R19 x109_who x110_dirty h111 →
    In64 (x10 + (1 : Int)) ∧
    ∃ m6, m6 < n5 ∧ (∃ h112, Gh h111 h112 ∧ I4 m6 x109_who x110_dirty (x10 + (1 : Int)) h112)) (
    (∃ h113, Gh h11 h113 ∧ R3 x8_who x9_dirty h113))

def f13_sem (p0_t : Option Addr) (h0 : H) (post : Value → H → Prop) : Prop :=
  ∃ a1 : Addr, p0_t = some a1 ∧
  ∃ x2 : SV, H.rd h0 (Addr.add (Addr.add a1 1) 0) (Value.slice x2.a x2.len x2.cap) ∧
  ∃ R3 : SV → SV → H → Prop, (
    ∃ I4 : Nat → SV → SV → Int → H → Prop, (∃ n5, (∃ h7, Gh h0 h7 ∧ I4 n5 (SV.mk none 0 0) (SV.mk none 0 0) (0 : Int) h7)) ∧
    ∀ (n5 : Nat) (_ : F) (x8_who : SV) (x9_dirty : SV) (x10 : Int) (h11 : H), I4 n5 x8_who x9_dirty x10 h11 →
    f13_L1 x2 R3 I4 n5 x8_who x9_dirty x10 h11) ∧
  ∀ (_ : F) (x114_who : SV) (x115_dirty : SV) (h116 : H), R3 x114_who x115_dirty h116 →
  VRet h116 (Value.tuple (List.toArray [(Value.slice x114_who.a x114_who.len x114_who.cap), (Value.slice x115_dirty.a x115_dirty.len x115_dirty.cap)])) post

def f13_hint : Hint := (.node .leaf (.node .leaf (.node .leaf (.node (.node .leaf (.join [(4, .sl), (5, .sl)] (.node (.loop [(4, .sl), (5, .sl), (13, .int)] (.node .leaf (.node .leaf (.node (.node (.node .leaf (.join [(4, .sl), (5, .sl)] .any)) .leaf) .leaf)))) .leaf))) .leaf))))

theorem f13_eq (p0_t : Option Addr) (h0 : H) (post : Value → H → Prop) : exec Tryd.prog (bodyOf Tryd.f13) f13_hint (retQ Tryd.prog Tryd.f13 post) (F0 [(Value.pointer p0_t)]) h0 = f13_sem p0_t h0 post := by kernel_rfl

set_option maxRecDepth 20000 in
theorem f13_call (p0_t : Option Addr) (h0 : H) (post : Value → H → Prop) (hx : f13_sem p0_t h0 post) : SemCall Tryd.prog 13 (List.toArray [(Value.pointer p0_t)]) h0 post :=
  sem_of_exec (g := f13_hint) mixed Tryd.func13 (bodyOf_eq (by kernel_rfl)) (by kernel_rfl) ((f13_eq p0_t h0 post).mpr hx)

/- latchgarth/latchgarthsame.Ints -/
def f14_L1 (p0_a : SV) (p1_b : SV) (post : Value → H → Prop) (R1 : H → Prop) (I2 : Nat → Int → H → Prop) (n3 : Nat) (x6_i : Int) (h7 : H) : Prop :=
  VIf (decide (x6_i < ((p0_a.len : Nat) : Int))) (
    ∃ b8 : Addr, p0_a.a = some b8 ∧ 0 ≤ x6_i ∧ x6_i < ((p0_a.len : Nat) : Int) ∧
    ∃ x9 : Int, H.rd h7 (Addr.add (Addr.add b8 ((x6_i).toNat * 1)) 0) (Value.int .i64 x9) ∧
    ∃ b10 : Addr, p1_b.a = some b10 ∧ 0 ≤ x6_i ∧ x6_i < ((p1_b.len : Nat) : Int) ∧
    ∃ x11 : Int, H.rd h7 (Addr.add (Addr.add b10 ((x6_i).toNat * 1)) 0) (Value.int .i64 x11) ∧
    VIf (x9 != x11) (
      VRet h7 (Value.bool false) post) (
      In64 (x6_i + (1 : Int)) ∧
      ∃ m4, m4 < n3 ∧ (∃ h12, Gh h7 h12 ∧ I2 m4 (x6_i + (1 : Int)) h12))) (
    (∃ h13, Gh h7 h13 ∧ R1 h13))

def f14_sem (p0_a : SV) (p1_b : SV) (h0 : H) (post : Value → H → Prop) : Prop :=
  VIf (((p0_a.len : Nat) : Int) != ((p1_b.len : Nat) : Int)) (
    VRet h0 (Value.bool false) post) (
    ∃ R1 : H → Prop, (
      ∃ I2 : Nat → Int → H → Prop, (∃ n3, (∃ h5, Gh h0 h5 ∧ I2 n3 (0 : Int) h5)) ∧
      ∀ (n3 : Nat) (_ : F) (x6_i : Int) (h7 : H), I2 n3 x6_i h7 →
      f14_L1 p0_a p1_b post R1 I2 n3 x6_i h7) ∧
    ∀ (_ : F) (h14 : H), R1 h14 →
    VRet h14 (Value.bool true) post)

def f14_hint : Hint := (.node .leaf (.node .leaf (.node (.node .leaf (.join [] (.node (.loop [(5, .int)] .leaf) .leaf))) .leaf)))

theorem f14_eq (p0_a : SV) (p1_b : SV) (h0 : H) (post : Value → H → Prop) : exec Tryd.prog (bodyOf Tryd.f14) f14_hint (retQ Tryd.prog Tryd.f14 post) (F0 [(Value.slice p0_a.a p0_a.len p0_a.cap), (Value.slice p1_b.a p1_b.len p1_b.cap)]) h0 = f14_sem p0_a p1_b h0 post := by kernel_rfl

set_option maxRecDepth 20000 in
theorem f14_call (p0_a : SV) (p1_b : SV) (h0 : H) (post : Value → H → Prop) (hx : f14_sem p0_a p1_b h0 post) : SemCall Tryd.prog 14 (List.toArray [(Value.slice p0_a.a p0_a.len p0_a.cap), (Value.slice p1_b.a p1_b.len p1_b.cap)]) h0 post :=
  sem_of_exec (g := f14_hint) mixed Tryd.func14 (bodyOf_eq (by kernel_rfl)) (by kernel_rfl) ((f14_eq p0_a p1_b h0 post).mpr hx)

/- (*latchgarth/dine.Table).Guest -/
def f15_sem (p0_t : Option Addr) (p1_i : Int) (h0 : H) (post : Value → H → Prop) : Prop :=
  SemCall Go.Proofs.Tryd.prog 29 (List.toArray [(Value.pointer p0_t), (Value.int .i64 p1_i)]) h0 fun v1 h2 =>
  ∃ x3 : Bool, v1 = (Value.bool x3) ∧
  VIf (!x3) (
    VRet h2 (Value.int .i64 (-1 : Int)) post) (
    ∃ a4 : Addr, p0_t = some a4 ∧
    ∃ x5 : SV, H.rd h2 (Addr.add (Addr.add a4 0) 0) (Value.slice x5.a x5.len x5.cap) ∧
    ∃ b6 : Addr, x5.a = some b6 ∧ 0 ≤ p1_i ∧ p1_i < ((x5.len : Nat) : Int) ∧
    ∃ x7 : Int, H.rd h2 (Addr.add (Addr.add b6 ((p1_i).toNat * 1)) 0) (Value.int .i64 x7) ∧
    VRet h2 (Value.int .i64 x7) post)

def f15_hint : Hint := .leaf

theorem f15_eq (p0_t : Option Addr) (p1_i : Int) (h0 : H) (post : Value → H → Prop) : exec Tryd.prog (bodyOf Tryd.f15) f15_hint (retQ Tryd.prog Tryd.f15 post) (F0 [(Value.pointer p0_t), (Value.int .i64 p1_i)]) h0 = f15_sem p0_t p1_i h0 post := by kernel_rfl

set_option maxRecDepth 20000 in
theorem f15_call (p0_t : Option Addr) (p1_i : Int) (h0 : H) (post : Value → H → Prop) (hx : f15_sem p0_t p1_i h0 post) : SemCall Tryd.prog 15 (List.toArray [(Value.pointer p0_t), (Value.int .i64 p1_i)]) h0 post :=
  sem_of_exec (g := f15_hint) mixed Tryd.func15 (bodyOf_eq (by kernel_rfl)) (by kernel_rfl) ((f15_eq p0_t p1_i h0 post).mpr hx)

/- latchgarth/deque.New -/
def f16_sem (p0_n : Int) (h0 : H) (post : Value → H → Prop) : Prop :=
  SemCall Go.Proofs.Tryd.prog 33 (List.toArray [(Value.int .i64 p0_n)]) h0 fun v1 h2 =>
  ∃ x3 : Option (TypeId × Value), v1 = (errV x3) ∧
  isIfaceV (errV x3) = true ∧
  VIf (!(isNilV (errV x3))) (
    VRet h2 (Value.tuple (List.toArray [(Value.pointer none), (errV x3)])) post) (
    0 ≤ p0_n ∧ p0_n ≤ p0_n ∧ ((32 : Nat) : Int) * p0_n ≤ 140737488355328 ∧ p0_n ≤ 1000000000 ∧
    H.new h2 (repl (p0_n).toNat [(Value.int .i64 (0 : Int)), (Value.int .i64 (0 : Int)), (Value.int .i64 (0 : Int)), (Value.int .i64 (0 : Int))]) fun r4 h5 =>
    H.new h5 [(Value.int .i64 (0 : Int)), (Value.int .i64 (0 : Int)), (Value.int .i64 (0 : Int)), (Value.int .i64 (0 : Int)), (Value.int .i64 (0 : Int)), (Value.int .i64 (0 : Int)), (Value.int .i64 (0 : Int)), (Value.int .i64 (0 : Int)), (Value.int .i64 (0 : Int)), (Value.int .i64 (0 : Int)), (Value.slice (some (Addr.mk r4 0 none)) ((p0_n).toNat) ((p0_n).toNat))] fun r6 h7 =>
    VRet h7 (Value.tuple (List.toArray [(Value.pointer (some (Addr.mk r6 0 none))), Value.nilIface])) post)

def f16_hint : Hint := .leaf

theorem f16_eq (p0_n : Int) (h0 : H) (post : Value → H → Prop) : exec Tryd.prog (bodyOf Tryd.f16) f16_hint (retQ Tryd.prog Tryd.f16 post) (F0 [(Value.int .i64 p0_n)]) h0 = f16_sem p0_n h0 post := by kernel_rfl

set_option maxRecDepth 20000 in
theorem f16_call (p0_n : Int) (h0 : H) (post : Value → H → Prop) (hx : f16_sem p0_n h0 post) : SemCall Tryd.prog 16 (List.toArray [(Value.int .i64 p0_n)]) h0 post :=
  sem_of_exec (g := f16_hint) mixed Tryd.func16 (bodyOf_eq (by kernel_rfl)) (by kernel_rfl) ((f16_eq p0_n h0 post).mpr hx)

/- latchgarth/latchgarthref6.BeginDeque -/
def f18_sem (p0_0_d : SV) (p0_1_d : Int) (p0_2_d : Int) (p0_3_d : SV) (p0_4_d : SV) (p0_5_d : SV) (p0_6_d : SV) (p1_p : Int) (p2_line : Int) (p3_value : Int) (h0 : H) (post : Value → H → Prop) : Prop :=
  H.new h0 [(Value.slice p0_0_d.a p0_0_d.len p0_0_d.cap), (Value.int .i64 p0_1_d), (Value.int .i64 p0_2_d), (Value.slice p0_3_d.a p0_3_d.len p0_3_d.cap), (Value.slice p0_4_d.a p0_4_d.len p0_4_d.cap), (Value.slice p0_5_d.a p0_5_d.len p0_5_d.cap), (Value.slice p0_6_d.a p0_6_d.len p0_6_d.cap)] fun r1 h2 =>
  H.new h2 [(Value.slice none 0 0), (Value.int .i64 (0 : Int)), (Value.int .i64 (0 : Int)), (Value.slice none 0 0), (Value.slice none 0 0), (Value.slice none 0 0), (Value.slice none 0 0)] fun r3 h4 =>
  ∃ x5 : SV, H.rd h4 (Addr.add (Addr.add (Addr.mk r1 0 none) 3) 0) (Value.slice x5.a x5.len x5.cap) ∧
  ∃ b6 : Addr, x5.a = some b6 ∧ 0 ≤ p1_p ∧ p1_p < ((x5.len : Nat) : Int) ∧
  ∃ x7 : Int, H.rd h4 (Addr.add (Addr.add b6 ((p1_p).toNat * 1)) 0) (Value.int .i64 x7) ∧
  VIf (x7 != (0 : Int)) (
    ∃ x8 : SV, H.rd h4 (Addr.add (Addr.mk r1 0 none) 0) (Value.slice x8.a x8.len x8.cap) ∧
    ∃ x9 : Int, H.rd h4 (Addr.add (Addr.mk r1 0 none) 1) (Value.int .i64 x9) ∧
    ∃ x10 : Int, H.rd h4 (Addr.add (Addr.mk r1 0 none) 2) (Value.int .i64 x10) ∧
    ∃ x11 : SV, H.rd h4 (Addr.add (Addr.mk r1 0 none) 3) (Value.slice x11.a x11.len x11.cap) ∧
    ∃ x12 : SV, H.rd h4 (Addr.add (Addr.mk r1 0 none) 4) (Value.slice x12.a x12.len x12.cap) ∧
    ∃ x13 : SV, H.rd h4 (Addr.add (Addr.mk r1 0 none) 5) (Value.slice x13.a x13.len x13.cap) ∧
    ∃ x14 : SV, H.rd h4 (Addr.add (Addr.mk r1 0 none) 6) (Value.slice x14.a x14.len x14.cap) ∧
    ([(Value.slice x8.a x8.len x8.cap), (Value.int .i64 x9), (Value.int .i64 x10), (Value.slice x11.a x11.len x11.cap), (Value.slice x12.a x12.len x12.cap), (Value.slice x13.a x13.len x13.cap), (Value.slice x14.a x14.len x14.cap)]).length = 7 ∧ (Program.underlying Go.Proofs.Tryd.prog 49).isSome = true ∧
    H.wr h4 (Addr.mk r3 0 none) ([(Value.slice x8.a x8.len x8.cap), (Value.int .i64 x9), (Value.int .i64 x10), (Value.slice x11.a x11.len x11.cap), (Value.slice x12.a x12.len x12.cap), (Value.slice x13.a x13.len x13.cap), (Value.slice x14.a x14.len x14.cap)]) fun h15 =>
    ∃ x16 : SV, H.rd h15 (Addr.add (Addr.mk r3 0 none) 0) (Value.slice x16.a x16.len x16.cap) ∧
    ∃ x17 : Int, H.rd h15 (Addr.add (Addr.mk r3 0 none) 1) (Value.int .i64 x17) ∧
    ∃ x18 : Int, H.rd h15 (Addr.add (Addr.mk r3 0 none) 2) (Value.int .i64 x18) ∧
    ∃ x19 : SV, H.rd h15 (Addr.add (Addr.mk r3 0 none) 3) (Value.slice x19.a x19.len x19.cap) ∧
    ∃ x20 : SV, H.rd h15 (Addr.add (Addr.mk r3 0 none) 4) (Value.slice x20.a x20.len x20.cap) ∧
    ∃ x21 : SV, H.rd h15 (Addr.add (Addr.mk r3 0 none) 5) (Value.slice x21.a x21.len x21.cap) ∧
    ∃ x22 : SV, H.rd h15 (Addr.add (Addr.mk r3 0 none) 6) (Value.slice x22.a x22.len x22.cap) ∧
    VRet h15 (Value.tuple (List.toArray [(Value.agg (List.toArray [(Value.slice x16.a x16.len x16.cap), (Value.int .i64 x17), (Value.int .i64 x18), (Value.slice x19.a x19.len x19.cap), (Value.slice x20.a x20.len x20.cap), (Value.slice x21.a x21.len x21.cap), (Value.slice x22.a x22.len x22.cap)])), (Value.int .i64 (7 : Int))])) post) (
    ∃ x23 : SV, H.rd h4 (Addr.add (Addr.add (Addr.mk r1 0 none) 3) 0) (Value.slice x23.a x23.len x23.cap) ∧
    SemCall Go.Proofs.Tryd.prog 34 (List.toArray [(Value.slice x23.a x23.len x23.cap), (Value.int .i64 p1_p), (Value.int .i64 p2_line)]) h4 fun v24 h25 =>
    ∃ x26 : SV, v24 = (Value.slice x26.a x26.len x26.cap) ∧
    H.wr h25 (Addr.add (Addr.mk r1 0 none) 3) ([(Value.slice x26.a x26.len x26.cap)]) fun h27 =>
    ∃ x28 : SV, H.rd h27 (Addr.add (Addr.add (Addr.mk r1 0 none) 6) 0) (Value.slice x28.a x28.len x28.cap) ∧
    SemCall Go.Proofs.Tryd.prog 34 (List.toArray [(Value.slice x28.a x28.len x28.cap), (Value.int .i64 p1_p), (Value.int .i64 p3_value)]) h27 fun v29 h30 =>
    ∃ x31 : SV, v29 = (Value.slice x31.a x31.len x31.cap) ∧
    H.wr h30 (Addr.add (Addr.mk r1 0 none) 6) ([(Value.slice x31.a x31.len x31.cap)]) fun h32 =>
    ∃ x33 : SV, H.rd h32 (Addr.add (Addr.mk r1 0 none) 0) (Value.slice x33.a x33.len x33.cap) ∧
    ∃ x34 : Int, H.rd h32 (Addr.add (Addr.mk r1 0 none) 1) (Value.int .i64 x34) ∧
    ∃ x35 : Int, H.rd h32 (Addr.add (Addr.mk r1 0 none) 2) (Value.int .i64 x35) ∧
    ∃ x36 : SV, H.rd h32 (Addr.add (Addr.mk r1 0 none) 3) (Value.slice x36.a x36.len x36.cap) ∧
    ∃ x37 : SV, H.rd h32 (Addr.add (Addr.mk r1 0 none) 4) (Value.slice x37.a x37.len x37.cap) ∧
    ∃ x38 : SV, H.rd h32 (Addr.add (Addr.mk r1 0 none) 5) (Value.slice x38.a x38.len x38.cap) ∧
    ∃ x39 : SV, H.rd h32 (Addr.add (Addr.mk r1 0 none) 6) (Value.slice x39.a x39.len x39.cap) ∧
    ([(Value.slice x33.a x33.len x33.cap), (Value.int .i64 x34), (Value.int .i64 x35), (Value.slice x36.a x36.len x36.cap), (Value.slice x37.a x37.len x37.cap), (Value.slice x38.a x38.len x38.cap), (Value.slice x39.a x39.len x39.cap)]).length = 7 ∧ (Program.underlying Go.Proofs.Tryd.prog 49).isSome = true ∧
    H.wr h32 (Addr.mk r3 0 none) ([(Value.slice x33.a x33.len x33.cap), (Value.int .i64 x34), (Value.int .i64 x35), (Value.slice x36.a x36.len x36.cap), (Value.slice x37.a x37.len x37.cap), (Value.slice x38.a x38.len x38.cap), (Value.slice x39.a x39.len x39.cap)]) fun h40 =>
    ∃ x41 : SV, H.rd h40 (Addr.add (Addr.mk r3 0 none) 0) (Value.slice x41.a x41.len x41.cap) ∧
    ∃ x42 : Int, H.rd h40 (Addr.add (Addr.mk r3 0 none) 1) (Value.int .i64 x42) ∧
    ∃ x43 : Int, H.rd h40 (Addr.add (Addr.mk r3 0 none) 2) (Value.int .i64 x43) ∧
    ∃ x44 : SV, H.rd h40 (Addr.add (Addr.mk r3 0 none) 3) (Value.slice x44.a x44.len x44.cap) ∧
    ∃ x45 : SV, H.rd h40 (Addr.add (Addr.mk r3 0 none) 4) (Value.slice x45.a x45.len x45.cap) ∧
    ∃ x46 : SV, H.rd h40 (Addr.add (Addr.mk r3 0 none) 5) (Value.slice x46.a x46.len x46.cap) ∧
    ∃ x47 : SV, H.rd h40 (Addr.add (Addr.mk r3 0 none) 6) (Value.slice x47.a x47.len x47.cap) ∧
    VRet h40 (Value.tuple (List.toArray [(Value.agg (List.toArray [(Value.slice x41.a x41.len x41.cap), (Value.int .i64 x42), (Value.int .i64 x43), (Value.slice x44.a x44.len x44.cap), (Value.slice x45.a x45.len x45.cap), (Value.slice x46.a x46.len x46.cap), (Value.slice x47.a x47.len x47.cap)])), (Value.int .i64 (0 : Int))])) post)

def f18_hint : Hint := .leaf

theorem f18_eq (p0_0_d : SV) (p0_1_d : Int) (p0_2_d : Int) (p0_3_d : SV) (p0_4_d : SV) (p0_5_d : SV) (p0_6_d : SV) (p1_p : Int) (p2_line : Int) (p3_value : Int) (h0 : H) (post : Value → H → Prop) : exec Tryd.prog (bodyOf Tryd.f18) f18_hint (retQ Tryd.prog Tryd.f18 post) (F0 [(Value.agg (List.toArray [(Value.slice p0_0_d.a p0_0_d.len p0_0_d.cap), (Value.int .i64 p0_1_d), (Value.int .i64 p0_2_d), (Value.slice p0_3_d.a p0_3_d.len p0_3_d.cap), (Value.slice p0_4_d.a p0_4_d.len p0_4_d.cap), (Value.slice p0_5_d.a p0_5_d.len p0_5_d.cap), (Value.slice p0_6_d.a p0_6_d.len p0_6_d.cap)])), (Value.int .i64 p1_p), (Value.int .i64 p2_line), (Value.int .i64 p3_value)]) h0 = f18_sem p0_0_d p0_1_d p0_2_d p0_3_d p0_4_d p0_5_d p0_6_d p1_p p2_line p3_value h0 post := by kernel_rfl

set_option maxRecDepth 20000 in
theorem f18_call (p0_0_d : SV) (p0_1_d : Int) (p0_2_d : Int) (p0_3_d : SV) (p0_4_d : SV) (p0_5_d : SV) (p0_6_d : SV) (p1_p : Int) (p2_line : Int) (p3_value : Int) (h0 : H) (post : Value → H → Prop) (hx : f18_sem p0_0_d p0_1_d p0_2_d p0_3_d p0_4_d p0_5_d p0_6_d p1_p p2_line p3_value h0 post) : SemCall Tryd.prog 18 (List.toArray [(Value.agg (List.toArray [(Value.slice p0_0_d.a p0_0_d.len p0_0_d.cap), (Value.int .i64 p0_1_d), (Value.int .i64 p0_2_d), (Value.slice p0_3_d.a p0_3_d.len p0_3_d.cap), (Value.slice p0_4_d.a p0_4_d.len p0_4_d.cap), (Value.slice p0_5_d.a p0_5_d.len p0_5_d.cap), (Value.slice p0_6_d.a p0_6_d.len p0_6_d.cap)])), (Value.int .i64 p1_p), (Value.int .i64 p2_line), (Value.int .i64 p3_value)]) h0 post :=
  sem_of_exec (g := f18_hint) mixed Tryd.func18 (bodyOf_eq (by kernel_rfl)) (by kernel_rfl) ((f18_eq p0_0_d p0_1_d p0_2_d p0_3_d p0_4_d p0_5_d p0_6_d p1_p p2_line p3_value h0 post).mpr hx)

/- (*latchgarth/deque.Deque).Steal -/
def f19_sem (p0_d : Option Addr) (p1_p : Int) (h0 : H) (post : Value → H → Prop) : Prop :=
  ∃ a1 : Addr, p0_d = some a1 ∧
  ∃ x2 : SV, H.rd h0 (Addr.add (Addr.add a1 10) 0) (Value.slice x2.a x2.len x2.cap) ∧
  In64 (((x2.len : Nat) : Int) - (1 : Int)) ∧
  SemCall Go.Proofs.Tryd.prog 27 (List.toArray [(Value.int .i64 p1_p), (Value.int .i64 (1 : Int)), (Value.int .i64 (((x2.len : Nat) : Int) - (1 : Int)))]) h0 fun v3 h4 =>
  ∃ x5 : Bool, v3 = (Value.bool x5) ∧
  VIf (!x5) (
    VRet h4 (Value.iface 61 (Value.int .i64 (1 : Int))) post) (
    SemCall Go.Proofs.Tryd.prog 35 (List.toArray [(Value.pointer p0_d), (Value.int .i64 p1_p), (Value.int .i64 (9 : Int)), (Value.int .i64 (0 : Int))]) h4 fun v6 h7 =>
    ∃ x8 : Option (TypeId × Value), v6 = (errV x8) ∧
    VRet h7 (errV x8) post)

def f19_hint : Hint := .leaf

theorem f19_eq (p0_d : Option Addr) (p1_p : Int) (h0 : H) (post : Value → H → Prop) : exec Tryd.prog (bodyOf Tryd.f19) f19_hint (retQ Tryd.prog Tryd.f19 post) (F0 [(Value.pointer p0_d), (Value.int .i64 p1_p)]) h0 = f19_sem p0_d p1_p h0 post := by kernel_rfl

set_option maxRecDepth 20000 in
theorem f19_call (p0_d : Option Addr) (p1_p : Int) (h0 : H) (post : Value → H → Prop) (hx : f19_sem p0_d p1_p h0 post) : SemCall Tryd.prog 19 (List.toArray [(Value.pointer p0_d), (Value.int .i64 p1_p)]) h0 post :=
  sem_of_exec (g := f19_hint) mixed Tryd.func19 (bodyOf_eq (by kernel_rfl)) (by kernel_rfl) ((f19_eq p0_d p1_p h0 post).mpr hx)

/- (*latchgarth/deque.Deque).Pop -/
def f20_sem (p0_d : Option Addr) (h0 : H) (post : Value → H → Prop) : Prop :=
  SemCall Go.Proofs.Tryd.prog 35 (List.toArray [(Value.pointer p0_d), (Value.int .i64 (0 : Int)), (Value.int .i64 (4 : Int)), (Value.int .i64 (0 : Int))]) h0 fun v1 h2 =>
  ∃ x3 : Option (TypeId × Value), v1 = (errV x3) ∧
  VRet h2 (errV x3) post

def f20_hint : Hint := .leaf

theorem f20_eq (p0_d : Option Addr) (h0 : H) (post : Value → H → Prop) : exec Tryd.prog (bodyOf Tryd.f20) f20_hint (retQ Tryd.prog Tryd.f20 post) (F0 [(Value.pointer p0_d)]) h0 = f20_sem p0_d h0 post := by kernel_rfl

set_option maxRecDepth 20000 in
theorem f20_call (p0_d : Option Addr) (h0 : H) (post : Value → H → Prop) (hx : f20_sem p0_d h0 post) : SemCall Tryd.prog 20 (List.toArray [(Value.pointer p0_d)]) h0 post :=
  sem_of_exec (g := f20_hint) mixed Tryd.func20 (bodyOf_eq (by kernel_rfl)) (by kernel_rfl) ((f20_eq p0_d h0 post).mpr hx)

/- (*latchgarth/deque.Deque).Push -/
def f21_sem (p0_d : Option Addr) (p1_value : Int) (h0 : H) (post : Value → H → Prop) : Prop :=
  SemCall Go.Proofs.Tryd.prog 27 (List.toArray [(Value.int .i64 p1_value), (Value.int .i64 (0 : Int)), (Value.int .i64 (1000 : Int))]) h0 fun v1 h2 =>
  ∃ x3 : Bool, v1 = (Value.bool x3) ∧
  VIf (!x3) (
    VRet h2 (Value.iface 61 (Value.int .i64 (1 : Int))) post) (
    SemCall Go.Proofs.Tryd.prog 35 (List.toArray [(Value.pointer p0_d), (Value.int .i64 (0 : Int)), (Value.int .i64 (1 : Int)), (Value.int .i64 p1_value)]) h2 fun v4 h5 =>
    ∃ x6 : Option (TypeId × Value), v4 = (errV x6) ∧
    VRet h5 (errV x6) post)

def f21_hint : Hint := .leaf

theorem f21_eq (p0_d : Option Addr) (p1_value : Int) (h0 : H) (post : Value → H → Prop) : exec Tryd.prog (bodyOf Tryd.f21) f21_hint (retQ Tryd.prog Tryd.f21 post) (F0 [(Value.pointer p0_d), (Value.int .i64 p1_value)]) h0 = f21_sem p0_d p1_value h0 post := by kernel_rfl

set_option maxRecDepth 20000 in
theorem f21_call (p0_d : Option Addr) (p1_value : Int) (h0 : H) (post : Value → H → Prop) (hx : f21_sem p0_d p1_value h0 post) : SemCall Tryd.prog 21 (List.toArray [(Value.pointer p0_d), (Value.int .i64 p1_value)]) h0 post :=
  sem_of_exec (g := f21_hint) mixed Tryd.func21 (bodyOf_eq (by kernel_rfl)) (by kernel_rfl) ((f21_eq p0_d p1_value h0 post).mpr hx)

/- latchgarth/latchgarthref6.StepDeque -/
def f22_J1 (p1_p : Int) (post : Value → H → Prop) (r1 : Nat) (r3 : Nat) (x422_next : Int) (h423 : H) : Prop :=
  ∃ x424 : SV, H.rd h423 (Addr.add (Addr.add (Addr.mk r1 0 none) 3) 0) (Value.slice x424.a x424.len x424.cap) ∧
  SemCall Go.Proofs.Tryd.prog 34 (List.toArray [(Value.slice x424.a x424.len x424.cap), (Value.int .i64 p1_p), (Value.int .i64 x422_next)]) h423 fun v425 h426 =>
  ∃ x427 : SV, v425 = (Value.slice x427.a x427.len x427.cap) ∧
  H.wr h426 (Addr.add (Addr.mk r1 0 none) 3) ([(Value.slice x427.a x427.len x427.cap)]) fun h428 =>
  ∃ x429 : SV, H.rd h428 (Addr.add (Addr.mk r1 0 none) 0) (Value.slice x429.a x429.len x429.cap) ∧
  ∃ x430 : Int, H.rd h428 (Addr.add (Addr.mk r1 0 none) 1) (Value.int .i64 x430) ∧
  ∃ x431 : Int, H.rd h428 (Addr.add (Addr.mk r1 0 none) 2) (Value.int .i64 x431) ∧
  ∃ x432 : SV, H.rd h428 (Addr.add (Addr.mk r1 0 none) 3) (Value.slice x432.a x432.len x432.cap) ∧
  ∃ x433 : SV, H.rd h428 (Addr.add (Addr.mk r1 0 none) 4) (Value.slice x433.a x433.len x433.cap) ∧
  ∃ x434 : SV, H.rd h428 (Addr.add (Addr.mk r1 0 none) 5) (Value.slice x434.a x434.len x434.cap) ∧
  ∃ x435 : SV, H.rd h428 (Addr.add (Addr.mk r1 0 none) 6) (Value.slice x435.a x435.len x435.cap) ∧
  ([(Value.slice x429.a x429.len x429.cap), (Value.int .i64 x430), (Value.int .i64 x431), (Value.slice x432.a x432.len x432.cap), (Value.slice x433.a x433.len x433.cap), (Value.slice x434.a x434.len x434.cap), (Value.slice x435.a x435.len x435.cap)]).length = 7 ∧ (Program.underlying Go.Proofs.Tryd.prog 49).isSome = true ∧
  H.wr h428 (Addr.mk r3 0 none) ([(Value.slice x429.a x429.len x429.cap), (Value.int .i64 x430), (Value.int .i64 x431), (Value.slice x432.a x432.len x432.cap), (Value.slice x433.a x433.len x433.cap), (Value.slice x434.a x434.len x434.cap), (Value.slice x435.a x435.len x435.cap)]) fun h436 =>
  ∃ x437 : SV, H.rd h436 (Addr.add (Addr.mk r3 0 none) 0) (Value.slice x437.a x437.len x437.cap) ∧
  ∃ x438 : Int, H.rd h436 (Addr.add (Addr.mk r3 0 none) 1) (Value.int .i64 x438) ∧
  ∃ x439 : Int, H.rd h436 (Addr.add (Addr.mk r3 0 none) 2) (Value.int .i64 x439) ∧
  ∃ x440 : SV, H.rd h436 (Addr.add (Addr.mk r3 0 none) 3) (Value.slice x440.a x440.len x440.cap) ∧
  ∃ x441 : SV, H.rd h436 (Addr.add (Addr.mk r3 0 none) 4) (Value.slice x441.a x441.len x441.cap) ∧
  ∃ x442 : SV, H.rd h436 (Addr.add (Addr.mk r3 0 none) 5) (Value.slice x442.a x442.len x442.cap) ∧
  ∃ x443 : SV, H.rd h436 (Addr.add (Addr.mk r3 0 none) 6) (Value.slice x443.a x443.len x443.cap) ∧
  VRet h436 (Value.tuple (List.toArray [(Value.agg (List.toArray [(Value.slice x437.a x437.len x437.cap), (Value.int .i64 x438), (Value.int .i64 x439), (Value.slice x440.a x440.len x440.cap), (Value.slice x441.a x441.len x441.cap), (Value.slice x442.a x442.len x442.cap), (Value.slice x443.a x443.len x443.cap)])), (Value.bool false), (Value.int .i64 (0 : Int)), (Value.int .i64 (0 : Int))])) post

def f22_sem (p0_0_d : SV) (p0_1_d : Int) (p0_2_d : Int) (p0_3_d : SV) (p0_4_d : SV) (p0_5_d : SV) (p0_6_d : SV) (p1_p : Int) (h0 : H) (post : Value → H → Prop) : Prop :=
  H.new h0 [(Value.slice p0_0_d.a p0_0_d.len p0_0_d.cap), (Value.int .i64 p0_1_d), (Value.int .i64 p0_2_d), (Value.slice p0_3_d.a p0_3_d.len p0_3_d.cap), (Value.slice p0_4_d.a p0_4_d.len p0_4_d.cap), (Value.slice p0_5_d.a p0_5_d.len p0_5_d.cap), (Value.slice p0_6_d.a p0_6_d.len p0_6_d.cap)] fun r1 h2 =>
  H.new h2 [(Value.slice none 0 0), (Value.int .i64 (0 : Int)), (Value.int .i64 (0 : Int)), (Value.slice none 0 0), (Value.slice none 0 0), (Value.slice none 0 0), (Value.slice none 0 0)] fun r3 h4 =>
  ∃ x5 : SV, H.rd h4 (Addr.add (Addr.add (Addr.mk r1 0 none) 3) 0) (Value.slice x5.a x5.len x5.cap) ∧
  In64 (((x5.len : Nat) : Int) - (1 : Int)) ∧
  SemCall Go.Proofs.Tryd.prog 36 (List.toArray [(Value.int .i64 p1_p), (Value.int .i64 (0 : Int)), (Value.int .i64 (((x5.len : Nat) : Int) - (1 : Int)))]) h4 fun v6 h7 =>
  ∃ x8 : Bool, v6 = (Value.bool x8) ∧
  VIf (!x8) (
    ∃ x9 : SV, H.rd h7 (Addr.add (Addr.mk r1 0 none) 0) (Value.slice x9.a x9.len x9.cap) ∧
    ∃ x10 : Int, H.rd h7 (Addr.add (Addr.mk r1 0 none) 1) (Value.int .i64 x10) ∧
    ∃ x11 : Int, H.rd h7 (Addr.add (Addr.mk r1 0 none) 2) (Value.int .i64 x11) ∧
    ∃ x12 : SV, H.rd h7 (Addr.add (Addr.mk r1 0 none) 3) (Value.slice x12.a x12.len x12.cap) ∧
    ∃ x13 : SV, H.rd h7 (Addr.add (Addr.mk r1 0 none) 4) (Value.slice x13.a x13.len x13.cap) ∧
    ∃ x14 : SV, H.rd h7 (Addr.add (Addr.mk r1 0 none) 5) (Value.slice x14.a x14.len x14.cap) ∧
    ∃ x15 : SV, H.rd h7 (Addr.add (Addr.mk r1 0 none) 6) (Value.slice x15.a x15.len x15.cap) ∧
    ([(Value.slice x9.a x9.len x9.cap), (Value.int .i64 x10), (Value.int .i64 x11), (Value.slice x12.a x12.len x12.cap), (Value.slice x13.a x13.len x13.cap), (Value.slice x14.a x14.len x14.cap), (Value.slice x15.a x15.len x15.cap)]).length = 7 ∧ (Program.underlying Go.Proofs.Tryd.prog 49).isSome = true ∧
    H.wr h7 (Addr.mk r3 0 none) ([(Value.slice x9.a x9.len x9.cap), (Value.int .i64 x10), (Value.int .i64 x11), (Value.slice x12.a x12.len x12.cap), (Value.slice x13.a x13.len x13.cap), (Value.slice x14.a x14.len x14.cap), (Value.slice x15.a x15.len x15.cap)]) fun h16 =>
    ∃ x17 : SV, H.rd h16 (Addr.add (Addr.mk r3 0 none) 0) (Value.slice x17.a x17.len x17.cap) ∧
    ∃ x18 : Int, H.rd h16 (Addr.add (Addr.mk r3 0 none) 1) (Value.int .i64 x18) ∧
    ∃ x19 : Int, H.rd h16 (Addr.add (Addr.mk r3 0 none) 2) (Value.int .i64 x19) ∧
    ∃ x20 : SV, H.rd h16 (Addr.add (Addr.mk r3 0 none) 3) (Value.slice x20.a x20.len x20.cap) ∧
    ∃ x21 : SV, H.rd h16 (Addr.add (Addr.mk r3 0 none) 4) (Value.slice x21.a x21.len x21.cap) ∧
    ∃ x22 : SV, H.rd h16 (Addr.add (Addr.mk r3 0 none) 5) (Value.slice x22.a x22.len x22.cap) ∧
    ∃ x23 : SV, H.rd h16 (Addr.add (Addr.mk r3 0 none) 6) (Value.slice x23.a x23.len x23.cap) ∧
    VRet h16 (Value.tuple (List.toArray [(Value.agg (List.toArray [(Value.slice x17.a x17.len x17.cap), (Value.int .i64 x18), (Value.int .i64 x19), (Value.slice x20.a x20.len x20.cap), (Value.slice x21.a x21.len x21.cap), (Value.slice x22.a x22.len x22.cap), (Value.slice x23.a x23.len x23.cap)])), (Value.bool false), (Value.int .i64 (0 : Int)), (Value.int .i64 (1 : Int))])) post) (
    ∃ x24 : SV, H.rd h7 (Addr.add (Addr.add (Addr.mk r1 0 none) 3) 0) (Value.slice x24.a x24.len x24.cap) ∧
    ∃ b25 : Addr, x24.a = some b25 ∧ 0 ≤ p1_p ∧ p1_p < ((x24.len : Nat) : Int) ∧
    ∃ x26 : Int, H.rd h7 (Addr.add (Addr.add b25 ((p1_p).toNat * 1)) 0) (Value.int .i64 x26) ∧
    VIf (x26 == (0 : Int)) (
      ∃ x27 : SV, H.rd h7 (Addr.add (Addr.mk r1 0 none) 0) (Value.slice x27.a x27.len x27.cap) ∧
      ∃ x28 : Int, H.rd h7 (Addr.add (Addr.mk r1 0 none) 1) (Value.int .i64 x28) ∧
      ∃ x29 : Int, H.rd h7 (Addr.add (Addr.mk r1 0 none) 2) (Value.int .i64 x29) ∧
      ∃ x30 : SV, H.rd h7 (Addr.add (Addr.mk r1 0 none) 3) (Value.slice x30.a x30.len x30.cap) ∧
      ∃ x31 : SV, H.rd h7 (Addr.add (Addr.mk r1 0 none) 4) (Value.slice x31.a x31.len x31.cap) ∧
      ∃ x32 : SV, H.rd h7 (Addr.add (Addr.mk r1 0 none) 5) (Value.slice x32.a x32.len x32.cap) ∧
      ∃ x33 : SV, H.rd h7 (Addr.add (Addr.mk r1 0 none) 6) (Value.slice x33.a x33.len x33.cap) ∧
      ([(Value.slice x27.a x27.len x27.cap), (Value.int .i64 x28), (Value.int .i64 x29), (Value.slice x30.a x30.len x30.cap), (Value.slice x31.a x31.len x31.cap), (Value.slice x32.a x32.len x32.cap), (Value.slice x33.a x33.len x33.cap)]).length = 7 ∧ (Program.underlying Go.Proofs.Tryd.prog 49).isSome = true ∧
      H.wr h7 (Addr.mk r3 0 none) ([(Value.slice x27.a x27.len x27.cap), (Value.int .i64 x28), (Value.int .i64 x29), (Value.slice x30.a x30.len x30.cap), (Value.slice x31.a x31.len x31.cap), (Value.slice x32.a x32.len x32.cap), (Value.slice x33.a x33.len x33.cap)]) fun h34 =>
      ∃ x35 : SV, H.rd h34 (Addr.add (Addr.mk r3 0 none) 0) (Value.slice x35.a x35.len x35.cap) ∧
      ∃ x36 : Int, H.rd h34 (Addr.add (Addr.mk r3 0 none) 1) (Value.int .i64 x36) ∧
      ∃ x37 : Int, H.rd h34 (Addr.add (Addr.mk r3 0 none) 2) (Value.int .i64 x37) ∧
      ∃ x38 : SV, H.rd h34 (Addr.add (Addr.mk r3 0 none) 3) (Value.slice x38.a x38.len x38.cap) ∧
      ∃ x39 : SV, H.rd h34 (Addr.add (Addr.mk r3 0 none) 4) (Value.slice x39.a x39.len x39.cap) ∧
      ∃ x40 : SV, H.rd h34 (Addr.add (Addr.mk r3 0 none) 5) (Value.slice x40.a x40.len x40.cap) ∧
      ∃ x41 : SV, H.rd h34 (Addr.add (Addr.mk r3 0 none) 6) (Value.slice x41.a x41.len x41.cap) ∧
      VRet h34 (Value.tuple (List.toArray [(Value.agg (List.toArray [(Value.slice x35.a x35.len x35.cap), (Value.int .i64 x36), (Value.int .i64 x37), (Value.slice x38.a x38.len x38.cap), (Value.slice x39.a x39.len x39.cap), (Value.slice x40.a x40.len x40.cap), (Value.slice x41.a x41.len x41.cap)])), (Value.bool false), (Value.int .i64 (0 : Int)), (Value.int .i64 (7 : Int))])) post) (
      ∃ x42 : SV, H.rd h7 (Addr.add (Addr.add (Addr.mk r1 0 none) 3) 0) (Value.slice x42.a x42.len x42.cap) ∧
      SemCall Go.Proofs.Tryd.prog 34 (List.toArray [(Value.slice x42.a x42.len x42.cap), (Value.int .i64 p1_p), (Value.int .i64 (0 : Int))]) h7 fun v43 h44 =>
      ∃ x45 : SV, v43 = (Value.slice x45.a x45.len x45.cap) ∧
      H.wr h44 (Addr.add (Addr.mk r1 0 none) 3) ([(Value.slice x45.a x45.len x45.cap)]) fun h46 =>
      ∃ x47 : SV, H.rd h46 (Addr.add (Addr.add (Addr.mk r1 0 none) 4) 0) (Value.slice x47.a x47.len x47.cap) ∧
      ∃ b48 : Addr, x47.a = some b48 ∧ 0 ≤ p1_p ∧ p1_p < ((x47.len : Nat) : Int) ∧
      ∃ x49 : Int, H.rd h46 (Addr.add (Addr.add b48 ((p1_p).toNat * 1)) 0) (Value.int .i64 x49) ∧
      ∃ x50 : SV, H.rd h46 (Addr.add (Addr.add (Addr.mk r1 0 none) 5) 0) (Value.slice x50.a x50.len x50.cap) ∧
      ∃ b51 : Addr, x50.a = some b51 ∧ 0 ≤ p1_p ∧ p1_p < ((x50.len : Nat) : Int) ∧
      ∃ x52 : Int, H.rd h46 (Addr.add (Addr.add b51 ((p1_p).toNat * 1)) 0) (Value.int .i64 x52) ∧
      In64 (x26 + (1 : Int)) ∧
      ∃ R53 : Int → H → Prop, (
        VIf (x26 == (1 : Int)) (
          ∃ x54 : Int, H.rd h46 (Addr.add (Addr.add (Addr.mk r1 0 none) 2) 0) (Value.int .i64 x54) ∧
          ∃ x55 : Int, H.rd h46 (Addr.add (Addr.add (Addr.mk r1 0 none) 1) 0) (Value.int .i64 x55) ∧
          In64 (x54 - x55) ∧
          VIf (decide ((x54 - x55) ≥ (8 : Int))) (
            ∃ x56 : SV, H.rd h46 (Addr.add (Addr.mk r1 0 none) 0) (Value.slice x56.a x56.len x56.cap) ∧
            ∃ x57 : Int, H.rd h46 (Addr.add (Addr.mk r1 0 none) 1) (Value.int .i64 x57) ∧
            ∃ x58 : Int, H.rd h46 (Addr.add (Addr.mk r1 0 none) 2) (Value.int .i64 x58) ∧
            ∃ x59 : SV, H.rd h46 (Addr.add (Addr.mk r1 0 none) 3) (Value.slice x59.a x59.len x59.cap) ∧
            ∃ x60 : SV, H.rd h46 (Addr.add (Addr.mk r1 0 none) 4) (Value.slice x60.a x60.len x60.cap) ∧
            ∃ x61 : SV, H.rd h46 (Addr.add (Addr.mk r1 0 none) 5) (Value.slice x61.a x61.len x61.cap) ∧
            ∃ x62 : SV, H.rd h46 (Addr.add (Addr.mk r1 0 none) 6) (Value.slice x62.a x62.len x62.cap) ∧
            ([(Value.slice x56.a x56.len x56.cap), (Value.int .i64 x57), (Value.int .i64 x58), (Value.slice x59.a x59.len x59.cap), (Value.slice x60.a x60.len x60.cap), (Value.slice x61.a x61.len x61.cap), (Value.slice x62.a x62.len x62.cap)]).length = 7 ∧ (Program.underlying Go.Proofs.Tryd.prog 49).isSome = true ∧
            H.wr h46 (Addr.mk r3 0 none) ([(Value.slice x56.a x56.len x56.cap), (Value.int .i64 x57), (Value.int .i64 x58), (Value.slice x59.a x59.len x59.cap), (Value.slice x60.a x60.len x60.cap), (Value.slice x61.a x61.len x61.cap), (Value.slice x62.a x62.len x62.cap)]) fun h63 =>
            ∃ x64 : SV, H.rd h63 (Addr.add (Addr.mk r3 0 none) 0) (Value.slice x64.a x64.len x64.cap) ∧
            ∃ x65 : Int, H.rd h63 (Addr.add (Addr.mk r3 0 none) 1) (Value.int .i64 x65) ∧
            ∃ x66 : Int, H.rd h63 (Addr.add (Addr.mk r3 0 none) 2) (Value.int .i64 x66) ∧
            ∃ x67 : SV, H.rd h63 (Addr.add (Addr.mk r3 0 none) 3) (Value.slice x67.a x67.len x67.cap) ∧
            ∃ x68 : SV, H.rd h63 (Addr.add (Addr.mk r3 0 none) 4) (Value.slice x68.a x68.len x68.cap) ∧
            ∃ x69 : SV, H.rd h63 (Addr.add (Addr.mk r3 0 none) 5) (Value.slice x69.a x69.len x69.cap) ∧
            ∃ x70 : SV, H.rd h63 (Addr.add (Addr.mk r3 0 none) 6) (Value.slice x70.a x70.len x70.cap) ∧
            VRet h63 (Value.tuple (List.toArray [(Value.agg (List.toArray [(Value.slice x64.a x64.len x64.cap), (Value.int .i64 x65), (Value.int .i64 x66), (Value.slice x67.a x67.len x67.cap), (Value.slice x68.a x68.len x68.cap), (Value.slice x69.a x69.len x69.cap), (Value.slice x70.a x70.len x70.cap)])), (Value.bool true), (Value.int .i64 (-2 : Int)), (Value.int .i64 (0 : Int))])) post) (
            (∃ h71, Gh h46 h71 ∧ R53 (x26 + (1 : Int)) h71))) (
          VIf (x26 == (2 : Int)) (
            ∃ x72 : SV, H.rd h46 (Addr.add (Addr.add (Addr.mk r1 0 none) 0) 0) (Value.slice x72.a x72.len x72.cap) ∧
            ∃ x73 : Int, H.rd h46 (Addr.add (Addr.add (Addr.mk r1 0 none) 2) 0) (Value.int .i64 x73) ∧
            (8 : Int) ≠ 0 ∧
            ∃ x74 : SV, H.rd h46 (Addr.add (Addr.add (Addr.mk r1 0 none) 6) 0) (Value.slice x74.a x74.len x74.cap) ∧
            ∃ b75 : Addr, x74.a = some b75 ∧ 0 ≤ p1_p ∧ p1_p < ((x74.len : Nat) : Int) ∧
            ∃ x76 : Int, H.rd h46 (Addr.add (Addr.add b75 ((p1_p).toNat * 1)) 0) (Value.int .i64 x76) ∧
            SemCall Go.Proofs.Tryd.prog 34 (List.toArray [(Value.slice x72.a x72.len x72.cap), (Value.int .i64 (Int.tmod x73 (8 : Int))), (Value.int .i64 x76)]) h46 fun v77 h78 =>
            ∃ x79 : SV, v77 = (Value.slice x79.a x79.len x79.cap) ∧
            H.wr h78 (Addr.add (Addr.mk r1 0 none) 0) ([(Value.slice x79.a x79.len x79.cap)]) fun h80 =>
            (∃ h81, Gh h80 h81 ∧ R53 (x26 + (1 : Int)) h81)) (
            VIf (x26 == (3 : Int)) (
              ∃ x82 : Int, H.rd h46 (Addr.add (Addr.add (Addr.mk r1 0 none) 2) 0) (Value.int .i64 x82) ∧
              In64 (x82 + (1 : Int)) ∧
              H.wr h46 (Addr.add (Addr.mk r1 0 none) 2) ([(Value.int .i64 (x82 + (1 : Int)))]) fun h83 =>
              ∃ x84 : SV, H.rd h83 (Addr.add (Addr.mk r1 0 none) 0) (Value.slice x84.a x84.len x84.cap) ∧
              ∃ x85 : Int, H.rd h83 (Addr.add (Addr.mk r1 0 none) 1) (Value.int .i64 x85) ∧
              ∃ x86 : Int, H.rd h83 (Addr.add (Addr.mk r1 0 none) 2) (Value.int .i64 x86) ∧
              ∃ x87 : SV, H.rd h83 (Addr.add (Addr.mk r1 0 none) 3) (Value.slice x87.a x87.len x87.cap) ∧
              ∃ x88 : SV, H.rd h83 (Addr.add (Addr.mk r1 0 none) 4) (Value.slice x88.a x88.len x88.cap) ∧
              ∃ x89 : SV, H.rd h83 (Addr.add (Addr.mk r1 0 none) 5) (Value.slice x89.a x89.len x89.cap) ∧
              ∃ x90 : SV, H.rd h83 (Addr.add (Addr.mk r1 0 none) 6) (Value.slice x90.a x90.len x90.cap) ∧
              ([(Value.slice x84.a x84.len x84.cap), (Value.int .i64 x85), (Value.int .i64 x86), (Value.slice x87.a x87.len x87.cap), (Value.slice x88.a x88.len x88.cap), (Value.slice x89.a x89.len x89.cap), (Value.slice x90.a x90.len x90.cap)]).length = 7 ∧ (Program.underlying Go.Proofs.Tryd.prog 49).isSome = true ∧
              H.wr h83 (Addr.mk r3 0 none) ([(Value.slice x84.a x84.len x84.cap), (Value.int .i64 x85), (Value.int .i64 x86), (Value.slice x87.a x87.len x87.cap), (Value.slice x88.a x88.len x88.cap), (Value.slice x89.a x89.len x89.cap), (Value.slice x90.a x90.len x90.cap)]) fun h91 =>
              ∃ x92 : SV, H.rd h91 (Addr.add (Addr.mk r3 0 none) 0) (Value.slice x92.a x92.len x92.cap) ∧
              ∃ x93 : Int, H.rd h91 (Addr.add (Addr.mk r3 0 none) 1) (Value.int .i64 x93) ∧
              ∃ x94 : Int, H.rd h91 (Addr.add (Addr.mk r3 0 none) 2) (Value.int .i64 x94) ∧
              ∃ x95 : SV, H.rd h91 (Addr.add (Addr.mk r3 0 none) 3) (Value.slice x95.a x95.len x95.cap) ∧
              ∃ x96 : SV, H.rd h91 (Addr.add (Addr.mk r3 0 none) 4) (Value.slice x96.a x96.len x96.cap) ∧
              ∃ x97 : SV, H.rd h91 (Addr.add (Addr.mk r3 0 none) 5) (Value.slice x97.a x97.len x97.cap) ∧
              ∃ x98 : SV, H.rd h91 (Addr.add (Addr.mk r3 0 none) 6) (Value.slice x98.a x98.len x98.cap) ∧
              VRet h91 (Value.tuple (List.toArray [(Value.agg (List.toArray [(Value.slice x92.a x92.len x92.cap), (Value.int .i64 x93), (Value.int .i64 x94), (Value.slice x95.a x95.len x95.cap), (Value.slice x96.a x96.len x96.cap), (Value.slice x97.a x97.len x97.cap), (Value.slice x98.a x98.len x98.cap)])), (Value.bool true), (Value.int .i64 (-1 : Int)), (Value.int .i64 (0 : Int))])) post) (
              VIf (x26 == (4 : Int)) (
                ∃ x99 : Int, H.rd h46 (Addr.add (Addr.add (Addr.mk r1 0 none) 2) 0) (Value.int .i64 x99) ∧
                In64 (x99 - (1 : Int)) ∧
                H.wr h46 (Addr.add (Addr.mk r1 0 none) 2) ([(Value.int .i64 (x99 - (1 : Int)))]) fun h100 =>
                ∃ x101 : SV, H.rd h100 (Addr.add (Addr.add (Addr.mk r1 0 none) 5) 0) (Value.slice x101.a x101.len x101.cap) ∧
                ∃ x102 : Int, H.rd h100 (Addr.add (Addr.add (Addr.mk r1 0 none) 2) 0) (Value.int .i64 x102) ∧
                SemCall Go.Proofs.Tryd.prog 34 (List.toArray [(Value.slice x101.a x101.len x101.cap), (Value.int .i64 p1_p), (Value.int .i64 x102)]) h100 fun v103 h104 =>
                ∃ x105 : SV, v103 = (Value.slice x105.a x105.len x105.cap) ∧
                H.wr h104 (Addr.add (Addr.mk r1 0 none) 5) ([(Value.slice x105.a x105.len x105.cap)]) fun h106 =>
                (∃ h107, Gh h106 h107 ∧ R53 (x26 + (1 : Int)) h107)) (
                VIf (x26 == (5 : Int)) (
                ∃ x108 : SV, H.rd h46 (Addr.add (Addr.add (Addr.mk r1 0 none) 4) 0) (Value.slice x108.a x108.len x108.cap) ∧
                ∃ x109 : Int, H.rd h46 (Addr.add (Addr.add (Addr.mk r1 0 none) 1) 0) (Value.int .i64 x109) ∧
                SemCall Go.Proofs.Tryd.prog 34 (List.toArray [(Value.slice x108.a x108.len x108.cap), (Value.int .i64 p1_p), (Value.int .i64 x109)]) h46 fun v110 h111 =>
                ∃ x112 : SV, v110 = (Value.slice x112.a x112.len x112.cap) ∧
                H.wr h111 (Addr.add (Addr.mk r1 0 none) 4) ([(Value.slice x112.a x112.len x112.cap)]) fun h113 =>
                ∃ x114 : Int, H.rd h113 (Addr.add (Addr.add (Addr.mk r1 0 none) 1) 0) (Value.int .i64 x114) ∧
                VIf (decide (x52 > x114)) (
                ∃ R115 : Bool → Int → Int → H → Prop, (
                (8 : Int) ≠ 0 ∧
                (
                ∃ x116 : SV, H.rd h113 (Addr.add (Addr.mk r1 0 none) 0) (Value.slice x116.a x116.len x116.cap) ∧
                ∃ x117 : Int, H.rd h113 (Addr.add (Addr.mk r1 0 none) 1) (Value.int .i64 x117) ∧
                ∃ x118 : Int, H.rd h113 (Addr.add (Addr.mk r1 0 none) 2) (Value.int .i64 x118) ∧
                ∃ x119 : SV, H.rd h113 (Addr.add (Addr.mk r1 0 none) 3) (Value.slice x119.a x119.len x119.cap) ∧
                ∃ x120 : SV, H.rd h113 (Addr.add (Addr.mk r1 0 none) 4) (Value.slice x120.a x120.len x120.cap) ∧
                ∃ x121 : SV, H.rd h113 (Addr.add (Addr.mk r1 0 none) 5) (Value.slice x121.a x121.len x121.cap) ∧
                ∃ x122 : SV, H.rd h113 (Addr.add (Addr.mk r1 0 none) 6) (Value.slice x122.a x122.len x122.cap) ∧
                (
                ∃ x123 : SV, H.rd h113 (Addr.add (Addr.add (Addr.mk r1 0 none) 0) 0) (Value.slice x123.a x123.len x123.cap) ∧
                ∃ b124 : Addr, x123.a = some b124 ∧ 0 ≤ (Int.tmod x52 (8 : Int)) ∧ (Int.tmod x52 (8 : Int)) < ((x123.len : Nat) : Int) ∧
                (
                ∃ x125 : Int, H.rd h113 (Addr.add (Addr.add b124 (((Int.tmod x52 (8 : Int))).toNat * 1)) 0) (Value.int .i64 x125) ∧
                ([(Value.slice x116.a x116.len x116.cap), (Value.int .i64 x117), (Value.int .i64 x118), (Value.slice x119.a x119.len x119.cap), (Value.slice x120.a x120.len x120.cap), (Value.slice x121.a x121.len x121.cap), (Value.slice x122.a x122.len x122.cap)]).length = 7 ∧ (Program.underlying Go.Proofs.Tryd.prog 49).isSome = true ∧
                H.wr h113 (Addr.mk r3 0 none) ([(Value.slice x116.a x116.len x116.cap), (Value.int .i64 x117), (Value.int .i64 x118), (Value.slice x119.a x119.len x119.cap), (Value.slice x120.a x120.len x120.cap), (Value.slice x121.a x121.len x121.cap), (Value.slice x122.a x122.len x122.cap)]) fun h126 =>
                (∃ h127, Gh h126 h127 ∧ R115 true x125 (0 : Int) h127)) ∧
                (
                ([(Value.slice x116.a x116.len x116.cap), (Value.int .i64 x117), (Value.int .i64 x118), (Value.slice x119.a x119.len x119.cap), (Value.slice x120.a x120.len x120.cap), (Value.slice x121.a x121.len x121.cap), (Value.slice x122.a x122.len x122.cap)]).length = 7 ∧ (Program.underlying Go.Proofs.Tryd.prog 49).isSome = true ∧
                H.wr h113 (Addr.mk r3 0 none) ([(Value.slice x116.a x116.len x116.cap), (Value.int .i64 x117), (Value.int .i64 x118), (Value.slice x119.a x119.len x119.cap), (Value.slice x120.a x120.len x120.cap), (Value.slice x121.a x121.len x121.cap), (Value.slice x122.a x122.len x122.cap)]) fun h128 =>
                ∃ x129 : Int, H.rd h128 (Addr.add (Addr.add b124 (((Int.tmod x52 (8 : Int))).toNat * 1)) 0) (Value.int .i64 x129) ∧
                (∃ h130, Gh h128 h130 ∧ R115 true x129 (0 : Int) h130))) ∧
                (
                ([(Value.slice x116.a x116.len x116.cap), (Value.int .i64 x117), (Value.int .i64 x118), (Value.slice x119.a x119.len x119.cap), (Value.slice x120.a x120.len x120.cap), (Value.slice x121.a x121.len x121.cap), (Value.slice x122.a x122.len x122.cap)]).length = 7 ∧ (Program.underlying Go.Proofs.Tryd.prog 49).isSome = true ∧
                H.wr h113 (Addr.mk r3 0 none) ([(Value.slice x116.a x116.len x116.cap), (Value.int .i64 x117), (Value.int .i64 x118), (Value.slice x119.a x119.len x119.cap), (Value.slice x120.a x120.len x120.cap), (Value.slice x121.a x121.len x121.cap), (Value.slice x122.a x122.len x122.cap)]) fun h131 =>
                ∃ x132 : SV, H.rd h131 (Addr.add (Addr.add (Addr.mk r1 0 none) 0) 0) (Value.slice x132.a x132.len x132.cap) ∧
                ∃ b133 : Addr, x132.a = some b133 ∧ 0 ≤ (Int.tmod x52 (8 : Int)) ∧ (Int.tmod x52 (8 : Int)) < ((x132.len : Nat) : Int) ∧
                ∃ x134 : Int, H.rd h131 (Addr.add (Addr.add b133 (((Int.tmod x52 (8 : Int))).toNat * 1)) 0) (Value.int .i64 x134) ∧
                (∃ h135, Gh h131 h135 ∧ R115 true x134 (0 : Int) h135))) ∧
                (
                ∃ x136 : SV, H.rd h113 (Addr.add (Addr.add (Addr.mk r1 0 none) 0) 0) (Value.slice x136.a x136.len x136.cap) ∧
                ∃ b137 : Addr, x136.a = some b137 ∧ 0 ≤ (Int.tmod x52 (8 : Int)) ∧ (Int.tmod x52 (8 : Int)) < ((x136.len : Nat) : Int) ∧
                (
                ∃ x138 : SV, H.rd h113 (Addr.add (Addr.mk r1 0 none) 0) (Value.slice x138.a x138.len x138.cap) ∧
                ∃ x139 : Int, H.rd h113 (Addr.add (Addr.mk r1 0 none) 1) (Value.int .i64 x139) ∧
                ∃ x140 : Int, H.rd h113 (Addr.add (Addr.mk r1 0 none) 2) (Value.int .i64 x140) ∧
                ∃ x141 : SV, H.rd h113 (Addr.add (Addr.mk r1 0 none) 3) (Value.slice x141.a x141.len x141.cap) ∧
                ∃ x142 : SV, H.rd h113 (Addr.add (Addr.mk r1 0 none) 4) (Value.slice x142.a x142.len x142.cap) ∧
                ∃ x143 : SV, H.rd h113 (Addr.add (Addr.mk r1 0 none) 5) (Value.slice x143.a x143.len x143.cap) ∧
                ∃ x144 : SV, H.rd h113 (Addr.add (Addr.mk r1 0 none) 6) (Value.slice x144.a x144.len x144.cap) ∧
                (
                ∃ x145 : Int, H.rd h113 (Addr.add (Addr.add b137 (((Int.tmod x52 (8 : Int))).toNat * 1)) 0) (Value.int .i64 x145) ∧
                ([(Value.slice x138.a x138.len x138.cap), (Value.int .i64 x139), (Value.int .i64 x140), (Value.slice x141.a x141.len x141.cap), (Value.slice x142.a x142.len x142.cap), (Value.slice x143.a x143.len x143.cap), (Value.slice x144.a x144.len x144.cap)]).length = 7 ∧ (Program.underlying Go.Proofs.Tryd.prog 49).isSome = true ∧
                H.wr h113 (Addr.mk r3 0 none) ([(Value.slice x138.a x138.len x138.cap), (Value.int .i64 x139), (Value.int .i64 x140), (Value.slice x141.a x141.len x141.cap), (Value.slice x142.a x142.len x142.cap), (Value.slice x143.a x143.len x143.cap), (Value.slice x144.a x144.len x144.cap)]) fun h146 =>
                (∃ h147, Gh h146 h147 ∧ R115 true x145 (0 : Int) h147)) ∧
                (
                ([(Value.slice x138.a x138.len x138.cap), (Value.int .i64 x139), (Value.int .i64 x140), (Value.slice x141.a x141.len x141.cap), (Value.slice x142.a x142.len x142.cap), (Value.slice x143.a x143.len x143.cap), (Value.slice x144.a x144.len x144.cap)]).length = 7 ∧ (Program.underlying Go.Proofs.Tryd.prog 49).isSome = true ∧
                H.wr h113 (Addr.mk r3 0 none) ([(Value.slice x138.a x138.len x138.cap), (Value.int .i64 x139), (Value.int .i64 x140), (Value.slice x141.a x141.len x141.cap), (Value.slice x142.a x142.len x142.cap), (Value.slice x143.a x143.len x143.cap), (Value.slice x144.a x144.len x144.cap)]) fun h148 =>
                ∃ x149 : Int, H.rd h148 (Addr.add (Addr.add b137 (((Int.tmod x52 (8 : Int))).toNat * 1)) 0) (Value.int .i64 x149) ∧
                (∃ h150, Gh h148 h150 ∧ R115 true x149 (0 : Int) h150))) ∧
                (
                ∃ x151 : Int, H.rd h113 (Addr.add (Addr.add b137 (((Int.tmod x52 (8 : Int))).toNat * 1)) 0) (Value.int .i64 x151) ∧
                ∃ x152 : SV, H.rd h113 (Addr.add (Addr.mk r1 0 none) 0) (Value.slice x152.a x152.len x152.cap) ∧
                ∃ x153 : Int, H.rd h113 (Addr.add (Addr.mk r1 0 none) 1) (Value.int .i64 x153) ∧
                ∃ x154 : Int, H.rd h113 (Addr.add (Addr.mk r1 0 none) 2) (Value.int .i64 x154) ∧
                ∃ x155 : SV, H.rd h113 (Addr.add (Addr.mk r1 0 none) 3) (Value.slice x155.a x155.len x155.cap) ∧
                ∃ x156 : SV, H.rd h113 (Addr.add (Addr.mk r1 0 none) 4) (Value.slice x156.a x156.len x156.cap) ∧
                ∃ x157 : SV, H.rd h113 (Addr.add (Addr.mk r1 0 none) 5) (Value.slice x157.a x157.len x157.cap) ∧
                ∃ x158 : SV, H.rd h113 (Addr.add (Addr.mk r1 0 none) 6) (Value.slice x158.a x158.len x158.cap) ∧
                ([(Value.slice x152.a x152.len x152.cap), (Value.int .i64 x153), (Value.int .i64 x154), (Value.slice x155.a x155.len x155.cap), (Value.slice x156.a x156.len x156.cap), (Value.slice x157.a x157.len x157.cap), (Value.slice x158.a x158.len x158.cap)]).length = 7 ∧ (Program.underlying Go.Proofs.Tryd.prog 49).isSome = true ∧
                H.wr h113 (Addr.mk r3 0 none) ([(Value.slice x152.a x152.len x152.cap), (Value.int .i64 x153), (Value.int .i64 x154), (Value.slice x155.a x155.len x155.cap), (Value.slice x156.a x156.len x156.cap), (Value.slice x157.a x157.len x157.cap), (Value.slice x158.a x158.len x158.cap)]) fun h159 =>
                (∃ h160, Gh h159 h160 ∧ R115 true x151 (0 : Int) h160)))) ∧
                ∀ (_ : F) (x161 : Bool) (x162 : Int) (x163 : Int) (h164 : H), R115 x161 x162 x163 h164 →
                ∃ x165 : SV, H.rd h164 (Addr.add (Addr.mk r3 0 none) 0) (Value.slice x165.a x165.len x165.cap) ∧
                ∃ x166 : Int, H.rd h164 (Addr.add (Addr.mk r3 0 none) 1) (Value.int .i64 x166) ∧
                ∃ x167 : Int, H.rd h164 (Addr.add (Addr.mk r3 0 none) 2) (Value.int .i64 x167) ∧
                ∃ x168 : SV, H.rd h164 (Addr.add (Addr.mk r3 0 none) 3) (Value.slice x168.a x168.len x168.cap) ∧
                ∃ x169 : SV, H.rd h164 (Addr.add (Addr.mk r3 0 none) 4) (Value.slice x169.a x169.len x169.cap) ∧
                ∃ x170 : SV, H.rd h164 (Addr.add (Addr.mk r3 0 none) 5) (Value.slice x170.a x170.len x170.cap) ∧
                ∃ x171 : SV, H.rd h164 (Addr.add (Addr.mk r3 0 none) 6) (Value.slice x171.a x171.len x171.cap) ∧
                VRet h164 (Value.tuple (List.toArray [(Value.agg (List.toArray [(Value.slice x165.a x165.len x165.cap), (Value.int .i64 x166), (Value.int .i64 x167), (Value.slice x168.a x168.len x168.cap), (Value.slice x169.a x169.len x169.cap), (Value.slice x170.a x170.len x170.cap), (Value.slice x171.a x171.len x171.cap)])), (Value.bool x161), (Value.int .i64 x162), (Value.int .i64 x163)])) post) (
                ∃ x172 : Int, H.rd h113 (Addr.add (Addr.add (Addr.mk r1 0 none) 1) 0) (Value.int .i64 x172) ∧
                VIf (x52 == x172) (
                (∃ h173, Gh h113 h173 ∧ R53 (7 : Int) h173)) (
                (∃ h174, Gh h113 h174 ∧ R53 (x26 + (1 : Int)) h174)))) (
                VIf (x26 == (6 : Int)) (
                H.wr h46 (Addr.add (Addr.mk r1 0 none) 2) ([(Value.int .i64 x49)]) fun h175 =>
                ∃ x176 : SV, H.rd h175 (Addr.add (Addr.mk r1 0 none) 0) (Value.slice x176.a x176.len x176.cap) ∧
                ∃ x177 : Int, H.rd h175 (Addr.add (Addr.mk r1 0 none) 1) (Value.int .i64 x177) ∧
                ∃ x178 : Int, H.rd h175 (Addr.add (Addr.mk r1 0 none) 2) (Value.int .i64 x178) ∧
                ∃ x179 : SV, H.rd h175 (Addr.add (Addr.mk r1 0 none) 3) (Value.slice x179.a x179.len x179.cap) ∧
                ∃ x180 : SV, H.rd h175 (Addr.add (Addr.mk r1 0 none) 4) (Value.slice x180.a x180.len x180.cap) ∧
                ∃ x181 : SV, H.rd h175 (Addr.add (Addr.mk r1 0 none) 5) (Value.slice x181.a x181.len x181.cap) ∧
                ∃ x182 : SV, H.rd h175 (Addr.add (Addr.mk r1 0 none) 6) (Value.slice x182.a x182.len x182.cap) ∧
                ([(Value.slice x176.a x176.len x176.cap), (Value.int .i64 x177), (Value.int .i64 x178), (Value.slice x179.a x179.len x179.cap), (Value.slice x180.a x180.len x180.cap), (Value.slice x181.a x181.len x181.cap), (Value.slice x182.a x182.len x182.cap)]).length = 7 ∧ (Program.underlying Go.Proofs.Tryd.prog 49).isSome = true ∧
                H.wr h175 (Addr.mk r3 0 none) ([(Value.slice x176.a x176.len x176.cap), (Value.int .i64 x177), (Value.int .i64 x178), (Value.slice x179.a x179.len x179.cap), (Value.slice x180.a x180.len x180.cap), (Value.slice x181.a x181.len x181.cap), (Value.slice x182.a x182.len x182.cap)]) fun h183 =>
                ∃ x184 : SV, H.rd h183 (Addr.add (Addr.mk r3 0 none) 0) (Value.slice x184.a x184.len x184.cap) ∧
                ∃ x185 : Int, H.rd h183 (Addr.add (Addr.mk r3 0 none) 1) (Value.int .i64 x185) ∧
                ∃ x186 : Int, H.rd h183 (Addr.add (Addr.mk r3 0 none) 2) (Value.int .i64 x186) ∧
                ∃ x187 : SV, H.rd h183 (Addr.add (Addr.mk r3 0 none) 3) (Value.slice x187.a x187.len x187.cap) ∧
                ∃ x188 : SV, H.rd h183 (Addr.add (Addr.mk r3 0 none) 4) (Value.slice x188.a x188.len x188.cap) ∧
                ∃ x189 : SV, H.rd h183 (Addr.add (Addr.mk r3 0 none) 5) (Value.slice x189.a x189.len x189.cap) ∧
                ∃ x190 : SV, H.rd h183 (Addr.add (Addr.mk r3 0 none) 6) (Value.slice x190.a x190.len x190.cap) ∧
                VRet h183 (Value.tuple (List.toArray [(Value.agg (List.toArray [(Value.slice x184.a x184.len x184.cap), (Value.int .i64 x185), (Value.int .i64 x186), (Value.slice x187.a x187.len x187.cap), (Value.slice x188.a x188.len x188.cap), (Value.slice x189.a x189.len x189.cap), (Value.slice x190.a x190.len x190.cap)])), (Value.bool true), (Value.int .i64 (-1 : Int)), (Value.int .i64 (0 : Int))])) post) (
                VIf (x26 == (7 : Int)) (
                ∃ x191 : SV, H.rd h46 (Addr.add (Addr.add (Addr.mk r1 0 none) 6) 0) (Value.slice x191.a x191.len x191.cap) ∧
                SemCall Go.Proofs.Tryd.prog 34 (List.toArray [(Value.slice x191.a x191.len x191.cap), (Value.int .i64 p1_p), (Value.int .i64 (-1 : Int))]) h46 fun v192 h193 =>
                ∃ x194 : SV, v192 = (Value.slice x194.a x194.len x194.cap) ∧
                H.wr h193 (Addr.add (Addr.mk r1 0 none) 6) ([(Value.slice x194.a x194.len x194.cap)]) fun h195 =>
                ∃ x196 : Int, H.rd h195 (Addr.add (Addr.add (Addr.mk r1 0 none) 1) 0) (Value.int .i64 x196) ∧
                VIf (x196 == x49) (
                In64 (x49 + (1 : Int)) ∧
                H.wr h195 (Addr.add (Addr.mk r1 0 none) 1) ([(Value.int .i64 (x49 + (1 : Int)))]) fun h197 =>
                ∃ x198 : SV, H.rd h197 (Addr.add (Addr.add (Addr.mk r1 0 none) 6) 0) (Value.slice x198.a x198.len x198.cap) ∧
                ∃ x199 : SV, H.rd h197 (Addr.add (Addr.add (Addr.mk r1 0 none) 0) 0) (Value.slice x199.a x199.len x199.cap) ∧
                (8 : Int) ≠ 0 ∧
                ∃ b200 : Addr, x199.a = some b200 ∧ 0 ≤ (Int.tmod x52 (8 : Int)) ∧ (Int.tmod x52 (8 : Int)) < ((x199.len : Nat) : Int) ∧
                ∃ x201 : Int, H.rd h197 (Addr.add (Addr.add b200 (((Int.tmod x52 (8 : Int))).toNat * 1)) 0) (Value.int .i64 x201) ∧
                SemCall Go.Proofs.Tryd.prog 34 (List.toArray [(Value.slice x198.a x198.len x198.cap), (Value.int .i64 p1_p), (Value.int .i64 x201)]) h197 fun v202 h203 =>
                ∃ x204 : SV, v202 = (Value.slice x204.a x204.len x204.cap) ∧
                H.wr h203 (Addr.add (Addr.mk r1 0 none) 6) ([(Value.slice x204.a x204.len x204.cap)]) fun h205 =>
                (∃ h206, Gh h205 h206 ∧ R53 (x26 + (1 : Int)) h206)) (
                (∃ h207, Gh h195 h207 ∧ R53 (x26 + (1 : Int)) h207))) (
                VIf (x26 == (8 : Int)) (
                In64 (x49 + (1 : Int)) ∧
                H.wr h46 (Addr.add (Addr.mk r1 0 none) 2) ([(Value.int .i64 (x49 + (1 : Int)))]) fun h208 =>
                (
                ∃ x209 : SV, H.rd h208 (Addr.add (Addr.mk r1 0 none) 0) (Value.slice x209.a x209.len x209.cap) ∧
                ∃ x210 : Int, H.rd h208 (Addr.add (Addr.mk r1 0 none) 1) (Value.int .i64 x210) ∧
                ∃ x211 : Int, H.rd h208 (Addr.add (Addr.mk r1 0 none) 2) (Value.int .i64 x211) ∧
                ∃ x212 : SV, H.rd h208 (Addr.add (Addr.mk r1 0 none) 3) (Value.slice x212.a x212.len x212.cap) ∧
                ∃ x213 : SV, H.rd h208 (Addr.add (Addr.mk r1 0 none) 4) (Value.slice x213.a x213.len x213.cap) ∧
                ∃ x214 : SV, H.rd h208 (Addr.add (Addr.mk r1 0 none) 5) (Value.slice x214.a x214.len x214.cap) ∧
                ∃ x215 : SV, H.rd h208 (Addr.add (Addr.mk r1 0 none) 6) (Value.slice x215.a x215.len x215.cap) ∧
                (
                ∃ x216 : SV, H.rd h208 (Addr.add (Addr.add (Addr.mk r1 0 none) 6) 0) (Value.slice x216.a x216.len x216.cap) ∧
                ∃ b217 : Addr, x216.a = some b217 ∧ 0 ≤ p1_p ∧ p1_p < ((x216.len : Nat) : Int) ∧
                (
                ∃ x218 : Int, H.rd h208 (Addr.add (Addr.add b217 ((p1_p).toNat * 1)) 0) (Value.int .i64 x218) ∧
                ([(Value.slice x209.a x209.len x209.cap), (Value.int .i64 x210), (Value.int .i64 x211), (Value.slice x212.a x212.len x212.cap), (Value.slice x213.a x213.len x213.cap), (Value.slice x214.a x214.len x214.cap), (Value.slice x215.a x215.len x215.cap)]).length = 7 ∧ (Program.underlying Go.Proofs.Tryd.prog 49).isSome = true ∧
                H.wr h208 (Addr.mk r3 0 none) ([(Value.slice x209.a x209.len x209.cap), (Value.int .i64 x210), (Value.int .i64 x211), (Value.slice x212.a x212.len x212.cap), (Value.slice x213.a x213.len x213.cap), (Value.slice x214.a x214.len x214.cap), (Value.slice x215.a x215.len x215.cap)]) fun h219 =>
                ∃ x220 : SV, H.rd h219 (Addr.add (Addr.mk r3 0 none) 0) (Value.slice x220.a x220.len x220.cap) ∧
                ∃ x221 : Int, H.rd h219 (Addr.add (Addr.mk r3 0 none) 1) (Value.int .i64 x221) ∧
                ∃ x222 : Int, H.rd h219 (Addr.add (Addr.mk r3 0 none) 2) (Value.int .i64 x222) ∧
                ∃ x223 : SV, H.rd h219 (Addr.add (Addr.mk r3 0 none) 3) (Value.slice x223.a x223.len x223.cap) ∧
                ∃ x224 : SV, H.rd h219 (Addr.add (Addr.mk r3 0 none) 4) (Value.slice x224.a x224.len x224.cap) ∧
                ∃ x225 : SV, H.rd h219 (Addr.add (Addr.mk r3 0 none) 5) (Value.slice x225.a x225.len x225.cap) ∧
                ∃ x226 : SV, H.rd h219 (Addr.add (Addr.mk r3 0 none) 6) (Value.slice x226.a x226.len x226.cap) ∧
                VRet h219 (Value.tuple (List.toArray [(Value.agg (List.toArray [(Value.slice x220.a x220.len x220.cap), (Value.int .i64 x221), (Value.int .i64 x222), (Value.slice x223.a x223.len x223.cap), (Value.slice x224.a x224.len x224.cap), (Value.slice x225.a x225.len x225.cap), (Value.slice x226.a x226.len x226.cap)])), (Value.bool true), (Value.int .i64 x218), (Value.int .i64 (0 : Int))])) post) ∧
                (
                ([(Value.slice x209.a x209.len x209.cap), (Value.int .i64 x210), (Value.int .i64 x211), (Value.slice x212.a x212.len x212.cap), (Value.slice x213.a x213.len x213.cap), (Value.slice x214.a x214.len x214.cap), (Value.slice x215.a x215.len x215.cap)]).length = 7 ∧ (Program.underlying Go.Proofs.Tryd.prog 49).isSome = true ∧
                H.wr h208 (Addr.mk r3 0 none) ([(Value.slice x209.a x209.len x209.cap), (Value.int .i64 x210), (Value.int .i64 x211), (Value.slice x212.a x212.len x212.cap), (Value.slice x213.a x213.len x213.cap), (Value.slice x214.a x214.len x214.cap), (Value.slice x215.a x215.len x215.cap)]) fun h227 =>
                ∃ x228 : Int, H.rd h227 (Addr.add (Addr.add b217 ((p1_p).toNat * 1)) 0) (Value.int .i64 x228) ∧
                ∃ x229 : SV, H.rd h227 (Addr.add (Addr.mk r3 0 none) 0) (Value.slice x229.a x229.len x229.cap) ∧
                ∃ x230 : Int, H.rd h227 (Addr.add (Addr.mk r3 0 none) 1) (Value.int .i64 x230) ∧
                ∃ x231 : Int, H.rd h227 (Addr.add (Addr.mk r3 0 none) 2) (Value.int .i64 x231) ∧
                ∃ x232 : SV, H.rd h227 (Addr.add (Addr.mk r3 0 none) 3) (Value.slice x232.a x232.len x232.cap) ∧
                ∃ x233 : SV, H.rd h227 (Addr.add (Addr.mk r3 0 none) 4) (Value.slice x233.a x233.len x233.cap) ∧
                ∃ x234 : SV, H.rd h227 (Addr.add (Addr.mk r3 0 none) 5) (Value.slice x234.a x234.len x234.cap) ∧
                ∃ x235 : SV, H.rd h227 (Addr.add (Addr.mk r3 0 none) 6) (Value.slice x235.a x235.len x235.cap) ∧
                VRet h227 (Value.tuple (List.toArray [(Value.agg (List.toArray [(Value.slice x229.a x229.len x229.cap), (Value.int .i64 x230), (Value.int .i64 x231), (Value.slice x232.a x232.len x232.cap), (Value.slice x233.a x233.len x233.cap), (Value.slice x234.a x234.len x234.cap), (Value.slice x235.a x235.len x235.cap)])), (Value.bool true), (Value.int .i64 x228), (Value.int .i64 (0 : Int))])) post)) ∧
                (
                ([(Value.slice x209.a x209.len x209.cap), (Value.int .i64 x210), (Value.int .i64 x211), (Value.slice x212.a x212.len x212.cap), (Value.slice x213.a x213.len x213.cap), (Value.slice x214.a x214.len x214.cap), (Value.slice x215.a x215.len x215.cap)]).length = 7 ∧ (Program.underlying Go.Proofs.Tryd.prog 49).isSome = true ∧
                H.wr h208 (Addr.mk r3 0 none) ([(Value.slice x209.a x209.len x209.cap), (Value.int .i64 x210), (Value.int .i64 x211), (Value.slice x212.a x212.len x212.cap), (Value.slice x213.a x213.len x213.cap), (Value.slice x214.a x214.len x214.cap), (Value.slice x215.a x215.len x215.cap)]) fun h236 =>
                ∃ x237 : SV, H.rd h236 (Addr.add (Addr.add (Addr.mk r1 0 none) 6) 0) (Value.slice x237.a x237.len x237.cap) ∧
                ∃ b238 : Addr, x237.a = some b238 ∧ 0 ≤ p1_p ∧ p1_p < ((x237.len : Nat) : Int) ∧
                ∃ x239 : Int, H.rd h236 (Addr.add (Addr.add b238 ((p1_p).toNat * 1)) 0) (Value.int .i64 x239) ∧
                ∃ x240 : SV, H.rd h236 (Addr.add (Addr.mk r3 0 none) 0) (Value.slice x240.a x240.len x240.cap) ∧
                ∃ x241 : Int, H.rd h236 (Addr.add (Addr.mk r3 0 none) 1) (Value.int .i64 x241) ∧
                ∃ x242 : Int, H.rd h236 (Addr.add (Addr.mk r3 0 none) 2) (Value.int .i64 x242) ∧
                ∃ x243 : SV, H.rd h236 (Addr.add (Addr.mk r3 0 none) 3) (Value.slice x243.a x243.len x243.cap) ∧
                ∃ x244 : SV, H.rd h236 (Addr.add (Addr.mk r3 0 none) 4) (Value.slice x244.a x244.len x244.cap) ∧
                ∃ x245 : SV, H.rd h236 (Addr.add (Addr.mk r3 0 none) 5) (Value.slice x245.a x245.len x245.cap) ∧
                ∃ x246 : SV, H.rd h236 (Addr.add (Addr.mk r3 0 none) 6) (Value.slice x246.a x246.len x246.cap) ∧
                VRet h236 (Value.tuple (List.toArray [(Value.agg (List.toArray [(Value.slice x240.a x240.len x240.cap), (Value.int .i64 x241), (Value.int .i64 x242), (Value.slice x243.a x243.len x243.cap), (Value.slice x244.a x244.len x244.cap), (Value.slice x245.a x245.len x245.cap), (Value.slice x246.a x246.len x246.cap)])), (Value.bool true), (Value.int .i64 x239), (Value.int .i64 (0 : Int))])) post)) ∧
                (
                ∃ x247 : SV, H.rd h208 (Addr.add (Addr.add (Addr.mk r1 0 none) 6) 0) (Value.slice x247.a x247.len x247.cap) ∧
                ∃ b248 : Addr, x247.a = some b248 ∧ 0 ≤ p1_p ∧ p1_p < ((x247.len : Nat) : Int) ∧
                (
                ∃ x249 : SV, H.rd h208 (Addr.add (Addr.mk r1 0 none) 0) (Value.slice x249.a x249.len x249.cap) ∧
                ∃ x250 : Int, H.rd h208 (Addr.add (Addr.mk r1 0 none) 1) (Value.int .i64 x250) ∧
                ∃ x251 : Int, H.rd h208 (Addr.add (Addr.mk r1 0 none) 2) (Value.int .i64 x251) ∧
                ∃ x252 : SV, H.rd h208 (Addr.add (Addr.mk r1 0 none) 3) (Value.slice x252.a x252.len x252.cap) ∧
                ∃ x253 : SV, H.rd h208 (Addr.add (Addr.mk r1 0 none) 4) (Value.slice x253.a x253.len x253.cap) ∧
                ∃ x254 : SV, H.rd h208 (Addr.add (Addr.mk r1 0 none) 5) (Value.slice x254.a x254.len x254.cap) ∧
                ∃ x255 : SV, H.rd h208 (Addr.add (Addr.mk r1 0 none) 6) (Value.slice x255.a x255.len x255.cap) ∧
                (
                ∃ x256 : Int, H.rd h208 (Addr.add (Addr.add b248 ((p1_p).toNat * 1)) 0) (Value.int .i64 x256) ∧
                ([(Value.slice x249.a x249.len x249.cap), (Value.int .i64 x250), (Value.int .i64 x251), (Value.slice x252.a x252.len x252.cap), (Value.slice x253.a x253.len x253.cap), (Value.slice x254.a x254.len x254.cap), (Value.slice x255.a x255.len x255.cap)]).length = 7 ∧ (Program.underlying Go.Proofs.Tryd.prog 49).isSome = true ∧
                H.wr h208 (Addr.mk r3 0 none) ([(Value.slice x249.a x249.len x249.cap), (Value.int .i64 x250), (Value.int .i64 x251), (Value.slice x252.a x252.len x252.cap), (Value.slice x253.a x253.len x253.cap), (Value.slice x254.a x254.len x254.cap), (Value.slice x255.a x255.len x255.cap)]) fun h257 =>
                ∃ x258 : SV, H.rd h257 (Addr.add (Addr.mk r3 0 none) 0) (Value.slice x258.a x258.len x258.cap) ∧
                ∃ x259 : Int, H.rd h257 (Addr.add (Addr.mk r3 0 none) 1) (Value.int .i64 x259) ∧
                ∃ x260 : Int, H.rd h257 (Addr.add (Addr.mk r3 0 none) 2) (Value.int .i64 x260) ∧
                ∃ x261 : SV, H.rd h257 (Addr.add (Addr.mk r3 0 none) 3) (Value.slice x261.a x261.len x261.cap) ∧
                ∃ x262 : SV, H.rd h257 (Addr.add (Addr.mk r3 0 none) 4) (Value.slice x262.a x262.len x262.cap) ∧
                ∃ x263 : SV, H.rd h257 (Addr.add (Addr.mk r3 0 none) 5) (Value.slice x263.a x263.len x263.cap) ∧
                ∃ x264 : SV, H.rd h257 (Addr.add (Addr.mk r3 0 none) 6) (Value.slice x264.a x264.len x264.cap) ∧
                VRet h257 (Value.tuple (List.toArray [(Value.agg (List.toArray [(Value.slice x258.a x258.len x258.cap), (Value.int .i64 x259), (Value.int .i64 x260), (Value.slice x261.a x261.len x261.cap), (Value.slice x262.a x262.len x262.cap), (Value.slice x263.a x263.len x263.cap), (Value.slice x264.a x264.len x264.cap)])), (Value.bool true), (Value.int .i64 x256), (Value.int .i64 (0 : Int))])) post) ∧
                (
                ([(Value.slice x249.a x249.len x249.cap), (Value.int .i64 x250), (Value.int .i64 x251), (Value.slice x252.a x252.len x252.cap), (Value.slice x253.a x253.len x253.cap), (Value.slice x254.a x254.len x254.cap), (Value.slice x255.a x255.len x255.cap)]).length = 7 ∧ (Program.underlying Go.Proofs.Tryd.prog 49).isSome = true ∧
                H.wr h208 (Addr.mk r3 0 none) ([(Value.slice x249.a x249.len x249.cap), (Value.int .i64 x250), (Value.int .i64 x251), (Value.slice x252.a x252.len x252.cap), (Value.slice x253.a x253.len x253.cap), (Value.slice x254.a x254.len x254.cap), (Value.slice x255.a x255.len x255.cap)]) fun h265 =>
                ∃ x266 : Int, H.rd h265 (Addr.add (Addr.add b248 ((p1_p).toNat * 1)) 0) (Value.int .i64 x266) ∧
                ∃ x267 : SV, H.rd h265 (Addr.add (Addr.mk r3 0 none) 0) (Value.slice x267.a x267.len x267.cap) ∧
                ∃ x268 : Int, H.rd h265 (Addr.add (Addr.mk r3 0 none) 1) (Value.int .i64 x268) ∧
                ∃ x269 : Int, H.rd h265 (Addr.add (Addr.mk r3 0 none) 2) (Value.int .i64 x269) ∧
                ∃ x270 : SV, H.rd h265 (Addr.add (Addr.mk r3 0 none) 3) (Value.slice x270.a x270.len x270.cap) ∧
                ∃ x271 : SV, H.rd h265 (Addr.add (Addr.mk r3 0 none) 4) (Value.slice x271.a x271.len x271.cap) ∧
                ∃ x272 : SV, H.rd h265 (Addr.add (Addr.mk r3 0 none) 5) (Value.slice x272.a x272.len x272.cap) ∧
                ∃ x273 : SV, H.rd h265 (Addr.add (Addr.mk r3 0 none) 6) (Value.slice x273.a x273.len x273.cap) ∧
                VRet h265 (Value.tuple (List.toArray [(Value.agg (List.toArray [(Value.slice x267.a x267.len x267.cap), (Value.int .i64 x268), (Value.int .i64 x269), (Value.slice x270.a x270.len x270.cap), (Value.slice x271.a x271.len x271.cap), (Value.slice x272.a x272.len x272.cap), (Value.slice x273.a x273.len x273.cap)])), (Value.bool true), (Value.int .i64 x266), (Value.int .i64 (0 : Int))])) post)) ∧
                (
                ∃ x274 : Int, H.rd h208 (Addr.add (Addr.add b248 ((p1_p).toNat * 1)) 0) (Value.int .i64 x274) ∧
                ∃ x275 : SV, H.rd h208 (Addr.add (Addr.mk r1 0 none) 0) (Value.slice x275.a x275.len x275.cap) ∧
                ∃ x276 : Int, H.rd h208 (Addr.add (Addr.mk r1 0 none) 1) (Value.int .i64 x276) ∧
                ∃ x277 : Int, H.rd h208 (Addr.add (Addr.mk r1 0 none) 2) (Value.int .i64 x277) ∧
                ∃ x278 : SV, H.rd h208 (Addr.add (Addr.mk r1 0 none) 3) (Value.slice x278.a x278.len x278.cap) ∧
                ∃ x279 : SV, H.rd h208 (Addr.add (Addr.mk r1 0 none) 4) (Value.slice x279.a x279.len x279.cap) ∧
                ∃ x280 : SV, H.rd h208 (Addr.add (Addr.mk r1 0 none) 5) (Value.slice x280.a x280.len x280.cap) ∧
                ∃ x281 : SV, H.rd h208 (Addr.add (Addr.mk r1 0 none) 6) (Value.slice x281.a x281.len x281.cap) ∧
                ([(Value.slice x275.a x275.len x275.cap), (Value.int .i64 x276), (Value.int .i64 x277), (Value.slice x278.a x278.len x278.cap), (Value.slice x279.a x279.len x279.cap), (Value.slice x280.a x280.len x280.cap), (Value.slice x281.a x281.len x281.cap)]).length = 7 ∧ (Program.underlying Go.Proofs.Tryd.prog 49).isSome = true ∧
                H.wr h208 (Addr.mk r3 0 none) ([(Value.slice x275.a x275.len x275.cap), (Value.int .i64 x276), (Value.int .i64 x277), (Value.slice x278.a x278.len x278.cap), (Value.slice x279.a x279.len x279.cap), (Value.slice x280.a x280.len x280.cap), (Value.slice x281.a x281.len x281.cap)]) fun h282 =>
                ∃ x283 : SV, H.rd h282 (Addr.add (Addr.mk r3 0 none) 0) (Value.slice x283.a x283.len x283.cap) ∧
                ∃ x284 : Int, H.rd h282 (Addr.add (Addr.mk r3 0 none) 1) (Value.int .i64 x284) ∧
                ∃ x285 : Int, H.rd h282 (Addr.add (Addr.mk r3 0 none) 2) (Value.int .i64 x285) ∧
                ∃ x286 : SV, H.rd h282 (Addr.add (Addr.mk r3 0 none) 3) (Value.slice x286.a x286.len x286.cap) ∧
                ∃ x287 : SV, H.rd h282 (Addr.add (Addr.mk r3 0 none) 4) (Value.slice x287.a x287.len x287.cap) ∧
                ∃ x288 : SV, H.rd h282 (Addr.add (Addr.mk r3 0 none) 5) (Value.slice x288.a x288.len x288.cap) ∧
                ∃ x289 : SV, H.rd h282 (Addr.add (Addr.mk r3 0 none) 6) (Value.slice x289.a x289.len x289.cap) ∧
                VRet h282 (Value.tuple (List.toArray [(Value.agg (List.toArray [(Value.slice x283.a x283.len x283.cap), (Value.int .i64 x284), (Value.int .i64 x285), (Value.slice x286.a x286.len x286.cap), (Value.slice x287.a x287.len x287.cap), (Value.slice x288.a x288.len x288.cap), (Value.slice x289.a x289.len x289.cap)])), (Value.bool true), (Value.int .i64 x274), (Value.int .i64 (0 : Int))])) post))) (
                VIf (x26 == (9 : Int)) (
                ∃ x290 : SV, H.rd h46 (Addr.add (Addr.add (Addr.mk r1 0 none) 4) 0) (Value.slice x290.a x290.len x290.cap) ∧
                ∃ x291 : Int, H.rd h46 (Addr.add (Addr.add (Addr.mk r1 0 none) 1) 0) (Value.int .i64 x291) ∧
                SemCall Go.Proofs.Tryd.prog 34 (List.toArray [(Value.slice x290.a x290.len x290.cap), (Value.int .i64 p1_p), (Value.int .i64 x291)]) h46 fun v292 h293 =>
                ∃ x294 : SV, v292 = (Value.slice x294.a x294.len x294.cap) ∧
                H.wr h293 (Addr.add (Addr.mk r1 0 none) 4) ([(Value.slice x294.a x294.len x294.cap)]) fun h295 =>
                (∃ h296, Gh h295 h296 ∧ R53 (x26 + (1 : Int)) h296)) (
                VIf (x26 == (10 : Int)) (
                ∃ x297 : Int, H.rd h46 (Addr.add (Addr.add (Addr.mk r1 0 none) 2) 0) (Value.int .i64 x297) ∧
                VIf (decide (x297 ≤ x49)) (
                ∃ x298 : SV, H.rd h46 (Addr.add (Addr.mk r1 0 none) 0) (Value.slice x298.a x298.len x298.cap) ∧
                ∃ x299 : Int, H.rd h46 (Addr.add (Addr.mk r1 0 none) 1) (Value.int .i64 x299) ∧
                ∃ x300 : Int, H.rd h46 (Addr.add (Addr.mk r1 0 none) 2) (Value.int .i64 x300) ∧
                ∃ x301 : SV, H.rd h46 (Addr.add (Addr.mk r1 0 none) 3) (Value.slice x301.a x301.len x301.cap) ∧
                ∃ x302 : SV, H.rd h46 (Addr.add (Addr.mk r1 0 none) 4) (Value.slice x302.a x302.len x302.cap) ∧
                ∃ x303 : SV, H.rd h46 (Addr.add (Addr.mk r1 0 none) 5) (Value.slice x303.a x303.len x303.cap) ∧
                ∃ x304 : SV, H.rd h46 (Addr.add (Addr.mk r1 0 none) 6) (Value.slice x304.a x304.len x304.cap) ∧
                ([(Value.slice x298.a x298.len x298.cap), (Value.int .i64 x299), (Value.int .i64 x300), (Value.slice x301.a x301.len x301.cap), (Value.slice x302.a x302.len x302.cap), (Value.slice x303.a x303.len x303.cap), (Value.slice x304.a x304.len x304.cap)]).length = 7 ∧ (Program.underlying Go.Proofs.Tryd.prog 49).isSome = true ∧
                H.wr h46 (Addr.mk r3 0 none) ([(Value.slice x298.a x298.len x298.cap), (Value.int .i64 x299), (Value.int .i64 x300), (Value.slice x301.a x301.len x301.cap), (Value.slice x302.a x302.len x302.cap), (Value.slice x303.a x303.len x303.cap), (Value.slice x304.a x304.len x304.cap)]) fun h305 =>
                ∃ x306 : SV, H.rd h305 (Addr.add (Addr.mk r3 0 none) 0) (Value.slice x306.a x306.len x306.cap) ∧
                ∃ x307 : Int, H.rd h305 (Addr.add (Addr.mk r3 0 none) 1) (Value.int .i64 x307) ∧
                ∃ x308 : Int, H.rd h305 (Addr.add (Addr.mk r3 0 none) 2) (Value.int .i64 x308) ∧
                ∃ x309 : SV, H.rd h305 (Addr.add (Addr.mk r3 0 none) 3) (Value.slice x309.a x309.len x309.cap) ∧
                ∃ x310 : SV, H.rd h305 (Addr.add (Addr.mk r3 0 none) 4) (Value.slice x310.a x310.len x310.cap) ∧
                ∃ x311 : SV, H.rd h305 (Addr.add (Addr.mk r3 0 none) 5) (Value.slice x311.a x311.len x311.cap) ∧
                ∃ x312 : SV, H.rd h305 (Addr.add (Addr.mk r3 0 none) 6) (Value.slice x312.a x312.len x312.cap) ∧
                VRet h305 (Value.tuple (List.toArray [(Value.agg (List.toArray [(Value.slice x306.a x306.len x306.cap), (Value.int .i64 x307), (Value.int .i64 x308), (Value.slice x309.a x309.len x309.cap), (Value.slice x310.a x310.len x310.cap), (Value.slice x311.a x311.len x311.cap), (Value.slice x312.a x312.len x312.cap)])), (Value.bool true), (Value.int .i64 (-1 : Int)), (Value.int .i64 (0 : Int))])) post) (
                (∃ h313, Gh h46 h313 ∧ R53 (x26 + (1 : Int)) h313))) (
                VIf (x26 == (11 : Int)) (
                ∃ x314 : SV, H.rd h46 (Addr.add (Addr.add (Addr.mk r1 0 none) 6) 0) (Value.slice x314.a x314.len x314.cap) ∧
                ∃ x315 : SV, H.rd h46 (Addr.add (Addr.add (Addr.mk r1 0 none) 0) 0) (Value.slice x315.a x315.len x315.cap) ∧
                (8 : Int) ≠ 0 ∧
                ∃ b316 : Addr, x315.a = some b316 ∧ 0 ≤ (Int.tmod x49 (8 : Int)) ∧ (Int.tmod x49 (8 : Int)) < ((x315.len : Nat) : Int) ∧
                ∃ x317 : Int, H.rd h46 (Addr.add (Addr.add b316 (((Int.tmod x49 (8 : Int))).toNat * 1)) 0) (Value.int .i64 x317) ∧
                SemCall Go.Proofs.Tryd.prog 34 (List.toArray [(Value.slice x314.a x314.len x314.cap), (Value.int .i64 p1_p), (Value.int .i64 x317)]) h46 fun v318 h319 =>
                ∃ x320 : SV, v318 = (Value.slice x320.a x320.len x320.cap) ∧
                H.wr h319 (Addr.add (Addr.mk r1 0 none) 6) ([(Value.slice x320.a x320.len x320.cap)]) fun h321 =>
                (∃ h322, Gh h321 h322 ∧ R53 (x26 + (1 : Int)) h322)) (
                VIf (x26 == (12 : Int)) (
                ∃ x323 : Int, H.rd h46 (Addr.add (Addr.add (Addr.mk r1 0 none) 1) 0) (Value.int .i64 x323) ∧
                VIf (x323 != x49) (
                ∃ x324 : SV, H.rd h46 (Addr.add (Addr.mk r1 0 none) 0) (Value.slice x324.a x324.len x324.cap) ∧
                ∃ x325 : Int, H.rd h46 (Addr.add (Addr.mk r1 0 none) 1) (Value.int .i64 x325) ∧
                ∃ x326 : Int, H.rd h46 (Addr.add (Addr.mk r1 0 none) 2) (Value.int .i64 x326) ∧
                ∃ x327 : SV, H.rd h46 (Addr.add (Addr.mk r1 0 none) 3) (Value.slice x327.a x327.len x327.cap) ∧
                ∃ x328 : SV, H.rd h46 (Addr.add (Addr.mk r1 0 none) 4) (Value.slice x328.a x328.len x328.cap) ∧
                ∃ x329 : SV, H.rd h46 (Addr.add (Addr.mk r1 0 none) 5) (Value.slice x329.a x329.len x329.cap) ∧
                ∃ x330 : SV, H.rd h46 (Addr.add (Addr.mk r1 0 none) 6) (Value.slice x330.a x330.len x330.cap) ∧
                ([(Value.slice x324.a x324.len x324.cap), (Value.int .i64 x325), (Value.int .i64 x326), (Value.slice x327.a x327.len x327.cap), (Value.slice x328.a x328.len x328.cap), (Value.slice x329.a x329.len x329.cap), (Value.slice x330.a x330.len x330.cap)]).length = 7 ∧ (Program.underlying Go.Proofs.Tryd.prog 49).isSome = true ∧
                H.wr h46 (Addr.mk r3 0 none) ([(Value.slice x324.a x324.len x324.cap), (Value.int .i64 x325), (Value.int .i64 x326), (Value.slice x327.a x327.len x327.cap), (Value.slice x328.a x328.len x328.cap), (Value.slice x329.a x329.len x329.cap), (Value.slice x330.a x330.len x330.cap)]) fun h331 =>
                ∃ x332 : SV, H.rd h331 (Addr.add (Addr.mk r3 0 none) 0) (Value.slice x332.a x332.len x332.cap) ∧
                ∃ x333 : Int, H.rd h331 (Addr.add (Addr.mk r3 0 none) 1) (Value.int .i64 x333) ∧
                ∃ x334 : Int, H.rd h331 (Addr.add (Addr.mk r3 0 none) 2) (Value.int .i64 x334) ∧
                ∃ x335 : SV, H.rd h331 (Addr.add (Addr.mk r3 0 none) 3) (Value.slice x335.a x335.len x335.cap) ∧
                ∃ x336 : SV, H.rd h331 (Addr.add (Addr.mk r3 0 none) 4) (Value.slice x336.a x336.len x336.cap) ∧
                ∃ x337 : SV, H.rd h331 (Addr.add (Addr.mk r3 0 none) 5) (Value.slice x337.a x337.len x337.cap) ∧
                ∃ x338 : SV, H.rd h331 (Addr.add (Addr.mk r3 0 none) 6) (Value.slice x338.a x338.len x338.cap) ∧
                VRet h331 (Value.tuple (List.toArray [(Value.agg (List.toArray [(Value.slice x332.a x332.len x332.cap), (Value.int .i64 x333), (Value.int .i64 x334), (Value.slice x335.a x335.len x335.cap), (Value.slice x336.a x336.len x336.cap), (Value.slice x337.a x337.len x337.cap), (Value.slice x338.a x338.len x338.cap)])), (Value.bool true), (Value.int .i64 (-2 : Int)), (Value.int .i64 (0 : Int))])) post) (
                In64 (x49 + (1 : Int)) ∧
                H.wr h46 (Addr.add (Addr.mk r1 0 none) 1) ([(Value.int .i64 (x49 + (1 : Int)))]) fun h339 =>
                (
                ∃ x340 : SV, H.rd h339 (Addr.add (Addr.mk r1 0 none) 0) (Value.slice x340.a x340.len x340.cap) ∧
                ∃ x341 : Int, H.rd h339 (Addr.add (Addr.mk r1 0 none) 1) (Value.int .i64 x341) ∧
                ∃ x342 : Int, H.rd h339 (Addr.add (Addr.mk r1 0 none) 2) (Value.int .i64 x342) ∧
                ∃ x343 : SV, H.rd h339 (Addr.add (Addr.mk r1 0 none) 3) (Value.slice x343.a x343.len x343.cap) ∧
                ∃ x344 : SV, H.rd h339 (Addr.add (Addr.mk r1 0 none) 4) (Value.slice x344.a x344.len x344.cap) ∧
                ∃ x345 : SV, H.rd h339 (Addr.add (Addr.mk r1 0 none) 5) (Value.slice x345.a x345.len x345.cap) ∧
                ∃ x346 : SV, H.rd h339 (Addr.add (Addr.mk r1 0 none) 6) (Value.slice x346.a x346.len x346.cap) ∧
                (
                ∃ x347 : SV, H.rd h339 (Addr.add (Addr.add (Addr.mk r1 0 none) 6) 0) (Value.slice x347.a x347.len x347.cap) ∧
                ∃ b348 : Addr, x347.a = some b348 ∧ 0 ≤ p1_p ∧ p1_p < ((x347.len : Nat) : Int) ∧
                (
                ∃ x349 : Int, H.rd h339 (Addr.add (Addr.add b348 ((p1_p).toNat * 1)) 0) (Value.int .i64 x349) ∧
                ([(Value.slice x340.a x340.len x340.cap), (Value.int .i64 x341), (Value.int .i64 x342), (Value.slice x343.a x343.len x343.cap), (Value.slice x344.a x344.len x344.cap), (Value.slice x345.a x345.len x345.cap), (Value.slice x346.a x346.len x346.cap)]).length = 7 ∧ (Program.underlying Go.Proofs.Tryd.prog 49).isSome = true ∧
                H.wr h339 (Addr.mk r3 0 none) ([(Value.slice x340.a x340.len x340.cap), (Value.int .i64 x341), (Value.int .i64 x342), (Value.slice x343.a x343.len x343.cap), (Value.slice x344.a x344.len x344.cap), (Value.slice x345.a x345.len x345.cap), (Value.slice x346.a x346.len x346.cap)]) fun h350 =>
                ∃ x351 : SV, H.rd h350 (Addr.add (Addr.mk r3 0 none) 0) (Value.slice x351.a x351.len x351.cap) ∧
                ∃ x352 : Int, H.rd h350 (Addr.add (Addr.mk r3 0 none) 1) (Value.int .i64 x352) ∧
                ∃ x353 : Int, H.rd h350 (Addr.add (Addr.mk r3 0 none) 2) (Value.int .i64 x353) ∧
                ∃ x354 : SV, H.rd h350 (Addr.add (Addr.mk r3 0 none) 3) (Value.slice x354.a x354.len x354.cap) ∧
                ∃ x355 : SV, H.rd h350 (Addr.add (Addr.mk r3 0 none) 4) (Value.slice x355.a x355.len x355.cap) ∧
                ∃ x356 : SV, H.rd h350 (Addr.add (Addr.mk r3 0 none) 5) (Value.slice x356.a x356.len x356.cap) ∧
                ∃ x357 : SV, H.rd h350 (Addr.add (Addr.mk r3 0 none) 6) (Value.slice x357.a x357.len x357.cap) ∧
                VRet h350 (Value.tuple (List.toArray [(Value.agg (List.toArray [(Value.slice x351.a x351.len x351.cap), (Value.int .i64 x352), (Value.int .i64 x353), (Value.slice x354.a x354.len x354.cap), (Value.slice x355.a x355.len x355.cap), (Value.slice x356.a x356.len x356.cap), (Value.slice x357.a x357.len x357.cap)])), (Value.bool true), (Value.int .i64 x349), (Value.int .i64 (0 : Int))])) post) ∧
                (
                ([(Value.slice x340.a x340.len x340.cap), (Value.int .i64 x341), (Value.int .i64 x342), (Value.slice x343.a x343.len x343.cap), (Value.slice x344.a x344.len x344.cap), (Value.slice x345.a x345.len x345.cap), (Value.slice x346.a x346.len x346.cap)]).length = 7 ∧ (Program.underlying Go.Proofs.Tryd.prog 49).isSome = true ∧
                H.wr h339 (Addr.mk r3 0 none) ([(Value.slice x340.a x340.len x340.cap), (Value.int .i64 x341), (Value.int .i64 x342), (Value.slice x343.a x343.len x343.cap), (Value.slice x344.a x344.len x344.cap), (Value.slice x345.a x345.len x345.cap), (Value.slice x346.a x346.len x346.cap)]) fun h358 =>
                ∃ x359 : Int, H.rd h358 (Addr.add (Addr.add b348 ((p1_p).toNat * 1)) 0) (Value.int .i64 x359) ∧
                ∃ x360 : SV, H.rd h358 (Addr.add (Addr.mk r3 0 none) 0) (Value.slice x360.a x360.len x360.cap) ∧
                ∃ x361 : Int, H.rd h358 (Addr.add (Addr.mk r3 0 none) 1) (Value.int .i64 x361) ∧
                ∃ x362 : Int, H.rd h358 (Addr.add (Addr.mk r3 0 none) 2) (Value.int .i64 x362) ∧
                ∃ x363 : SV, H.rd h358 (Addr.add (Addr.mk r3 0 none) 3) (Value.slice x363.a x363.len x363.cap) ∧
                ∃ x364 : SV, H.rd h358 (Addr.add (Addr.mk r3 0 none) 4) (Value.slice x364.a x364.len x364.cap) ∧
                ∃ x365 : SV, H.rd h358 (Addr.add (Addr.mk r3 0 none) 5) (Value.slice x365.a x365.len x365.cap) ∧
                ∃ x366 : SV, H.rd h358 (Addr.add (Addr.mk r3 0 none) 6) (Value.slice x366.a x366.len x366.cap) ∧
                VRet h358 (Value.tuple (List.toArray [(Value.agg (List.toArray [(Value.slice x360.a x360.len x360.cap), (Value.int .i64 x361), (Value.int .i64 x362), (Value.slice x363.a x363.len x363.cap), (Value.slice x364.a x364.len x364.cap), (Value.slice x365.a x365.len x365.cap), (Value.slice x366.a x366.len x366.cap)])), (Value.bool true), (Value.int .i64 x359), (Value.int .i64 (0 : Int))])) post)) ∧
                (
                ([(Value.slice x340.a x340.len x340.cap), (Value.int .i64 x341), (Value.int .i64 x342), (Value.slice x343.a x343.len x343.cap), (Value.slice x344.a x344.len x344.cap), (Value.slice x345.a x345.len x345.cap), (Value.slice x346.a x346.len x346.cap)]).length = 7 ∧ (Program.underlying Go.Proofs.Tryd.prog 49).isSome = true ∧
                H.wr h339 (Addr.mk r3 0 none) ([(Value.slice x340.a x340.len x340.cap), (Value.int .i64 x341), (Value.int .i64 x342), (Value.slice x343.a x343.len x343.cap), (Value.slice x344.a x344.len x344.cap), (Value.slice x345.a x345.len x345.cap), (Value.slice x346.a x346.len x346.cap)]) fun h367 =>
                ∃ x368 : SV, H.rd h367 (Addr.add (Addr.add (Addr.mk r1 0 none) 6) 0) (Value.slice x368.a x368.len x368.cap) ∧
                ∃ b369 : Addr, x368.a = some b369 ∧ 0 ≤ p1_p ∧ p1_p < ((x368.len : Nat) : Int) ∧
                ∃ x370 : Int, H.rd h367 (Addr.add (Addr.add b369 ((p1_p).toNat * 1)) 0) (Value.int .i64 x370) ∧
                ∃ x371 : SV, H.rd h367 (Addr.add (Addr.mk r3 0 none) 0) (Value.slice x371.a x371.len x371.cap) ∧
                ∃ x372 : Int, H.rd h367 (Addr.add (Addr.mk r3 0 none) 1) (Value.int .i64 x372) ∧
                ∃ x373 : Int, H.rd h367 (Addr.add (Addr.mk r3 0 none) 2) (Value.int .i64 x373) ∧
                ∃ x374 : SV, H.rd h367 (Addr.add (Addr.mk r3 0 none) 3) (Value.slice x374.a x374.len x374.cap) ∧
                ∃ x375 : SV, H.rd h367 (Addr.add (Addr.mk r3 0 none) 4) (Value.slice x375.a x375.len x375.cap) ∧
                ∃ x376 : SV, H.rd h367 (Addr.add (Addr.mk r3 0 none) 5) (Value.slice x376.a x376.len x376.cap) ∧
                ∃ x377 : SV, H.rd h367 (Addr.add (Addr.mk r3 0 none) 6) (Value.slice x377.a x377.len x377.cap) ∧
                VRet h367 (Value.tuple (List.toArray [(Value.agg (List.toArray [(Value.slice x371.a x371.len x371.cap), (Value.int .i64 x372), (Value.int .i64 x373), (Value.slice x374.a x374.len x374.cap), (Value.slice x375.a x375.len x375.cap), (Value.slice x376.a x376.len x376.cap), (Value.slice x377.a x377.len x377.cap)])), (Value.bool true), (Value.int .i64 x370), (Value.int .i64 (0 : Int))])) post)) ∧
                (
                ∃ x378 : SV, H.rd h339 (Addr.add (Addr.add (Addr.mk r1 0 none) 6) 0) (Value.slice x378.a x378.len x378.cap) ∧
                ∃ b379 : Addr, x378.a = some b379 ∧ 0 ≤ p1_p ∧ p1_p < ((x378.len : Nat) : Int) ∧
                (
                ∃ x380 : SV, H.rd h339 (Addr.add (Addr.mk r1 0 none) 0) (Value.slice x380.a x380.len x380.cap) ∧
                ∃ x381 : Int, H.rd h339 (Addr.add (Addr.mk r1 0 none) 1) (Value.int .i64 x381) ∧
                ∃ x382 : Int, H.rd h339 (Addr.add (Addr.mk r1 0 none) 2) (Value.int .i64 x382) ∧
                ∃ x383 : SV, H.rd h339 (Addr.add (Addr.mk r1 0 none) 3) (Value.slice x383.a x383.len x383.cap) ∧
                ∃ x384 : SV, H.rd h339 (Addr.add (Addr.mk r1 0 none) 4) (Value.slice x384.a x384.len x384.cap) ∧
                ∃ x385 : SV, H.rd h339 (Addr.add (Addr.mk r1 0 none) 5) (Value.slice x385.a x385.len x385.cap) ∧
                ∃ x386 : SV, H.rd h339 (Addr.add (Addr.mk r1 0 none) 6) (Value.slice x386.a x386.len x386.cap) ∧
                (
                ∃ x387 : Int, H.rd h339 (Addr.add (Addr.add b379 ((p1_p).toNat * 1)) 0) (Value.int .i64 x387) ∧
                ([(Value.slice x380.a x380.len x380.cap), (Value.int .i64 x381), (Value.int .i64 x382), (Value.slice x383.a x383.len x383.cap), (Value.slice x384.a x384.len x384.cap), (Value.slice x385.a x385.len x385.cap), (Value.slice x386.a x386.len x386.cap)]).length = 7 ∧ (Program.underlying Go.Proofs.Tryd.prog 49).isSome = true ∧
                H.wr h339 (Addr.mk r3 0 none) ([(Value.slice x380.a x380.len x380.cap), (Value.int .i64 x381), (Value.int .i64 x382), (Value.slice x383.a x383.len x383.cap), (Value.slice x384.a x384.len x384.cap), (Value.slice x385.a x385.len x385.cap), (Value.slice x386.a x386.len x386.cap)]) fun h388 =>
                ∃ x389 : SV, H.rd h388 (Addr.add (Addr.mk r3 0 none) 0) (Value.slice x389.a x389.len x389.cap) ∧
                ∃ x390 : Int, H.rd h388 (Addr.add (Addr.mk r3 0 none) 1) (Value.int .i64 x390) ∧
                ∃ x391 : Int, H.rd h388 (Addr.add (Addr.mk r3 0 none) 2) (Value.int .i64 x391) ∧
                ∃ x392 : SV, H.rd h388 (Addr.add (Addr.mk r3 0 none) 3) (Value.slice x392.a x392.len x392.cap) ∧
                ∃ x393 : SV, H.rd h388 (Addr.add (Addr.mk r3 0 none) 4) (Value.slice x393.a x393.len x393.cap) ∧
                ∃ x394 : SV, H.rd h388 (Addr.add (Addr.mk r3 0 none) 5) (Value.slice x394.a x394.len x394.cap) ∧
                ∃ x395 : SV, H.rd h388 (Addr.add (Addr.mk r3 0 none) 6) (Value.slice x395.a x395.len x395.cap) ∧
                VRet h388 (Value.tuple (List.toArray [(Value.agg (List.toArray [(Value.slice x389.a x389.len x389.cap), (Value.int .i64 x390), (Value.int .i64 x391), (Value.slice x392.a x392.len x392.cap), (Value.slice x393.a x393.len x393.cap), (Value.slice x394.a x394.len x394.cap), (Value.slice x395.a x395.len x395.cap)])), (Value.bool true), (Value.int .i64 x387), (Value.int .i64 (0 : Int))])) post) ∧
                (
                ([(Value.slice x380.a x380.len x380.cap), (Value.int .i64 x381), (Value.int .i64 x382), (Value.slice x383.a x383.len x383.cap), (Value.slice x384.a x384.len x384.cap), (Value.slice x385.a x385.len x385.cap), (Value.slice x386.a x386.len x386.cap)]).length = 7 ∧ (Program.underlying Go.Proofs.Tryd.prog 49).isSome = true ∧
                H.wr h339 (Addr.mk r3 0 none) ([(Value.slice x380.a x380.len x380.cap), (Value.int .i64 x381), (Value.int .i64 x382), (Value.slice x383.a x383.len x383.cap), (Value.slice x384.a x384.len x384.cap), (Value.slice x385.a x385.len x385.cap), (Value.slice x386.a x386.len x386.cap)]) fun h396 =>
                ∃ x397 : Int, H.rd h396 (Addr.add (Addr.add b379 ((p1_p).toNat * 1)) 0) (Value.int .i64 x397) ∧
                ∃ x398 : SV, H.rd h396 (Addr.add (Addr.mk r3 0 none) 0) (Value.slice x398.a x398.len x398.cap) ∧
                ∃ x399 : Int, H.rd h396 (Addr.add (Addr.mk r3 0 none) 1) (Value.int .i64 x399) ∧
                ∃ x400 : Int, H.rd h396 (Addr.add (Addr.mk r3 0 none) 2) (Value.int .i64 x400) ∧
                ∃ x401 : SV, H.rd h396 (Addr.add (Addr.mk r3 0 none) 3) (Value.slice x401.a x401.len x401.cap) ∧
                ∃ x402 : SV, H.rd h396 (Addr.add (Addr.mk r3 0 none) 4) (Value.slice x402.a x402.len x402.cap) ∧
                ∃ x403 : SV, H.rd h396 (Addr.add (Addr.mk r3 0 none) 5) (Value.slice x403.a x403.len x403.cap) ∧
                ∃ x404 : SV, H.rd h396 (Addr.add (Addr.mk r3 0 none) 6) (Value.slice x404.a x404.len x404.cap) ∧
                VRet h396 (Value.tuple (List.toArray [(Value.agg (List.toArray [(Value.slice x398.a x398.len x398.cap), (Value.int .i64 x399), (Value.int .i64 x400), (Value.slice x401.a x401.len x401.cap), (Value.slice x402.a x402.len x402.cap), (Value.slice x403.a x403.len x403.cap), (Value.slice x404.a x404.len x404.cap)])), (Value.bool true), (Value.int .i64 x397), (Value.int .i64 (0 : Int))])) post)) ∧
                (
                ∃ x405 : Int, H.rd h339 (Addr.add (Addr.add b379 ((p1_p).toNat * 1)) 0) (Value.int .i64 x405) ∧
                ∃ x406 : SV, H.rd h339 (Addr.add (Addr.mk r1 0 none) 0) (Value.slice x406.a x406.len x406.cap) ∧
                ∃ x407 : Int, H.rd h339 (Addr.add (Addr.mk r1 0 none) 1) (Value.int .i64 x407) ∧
                ∃ x408 : Int, H.rd h339 (Addr.add (Addr.mk r1 0 none) 2) (Value.int .i64 x408) ∧
                ∃ x409 : SV, H.rd h339 (Addr.add (Addr.mk r1 0 none) 3) (Value.slice x409.a x409.len x409.cap) ∧
                ∃ x410 : SV, H.rd h339 (Addr.add (Addr.mk r1 0 none) 4) (Value.slice x410.a x410.len x410.cap) ∧
                ∃ x411 : SV, H.rd h339 (Addr.add (Addr.mk r1 0 none) 5) (Value.slice x411.a x411.len x411.cap) ∧
                ∃ x412 : SV, H.rd h339 (Addr.add (Addr.mk r1 0 none) 6) (Value.slice x412.a x412.len x412.cap) ∧
                ([(Value.slice x406.a x406.len x406.cap), (Value.int .i64 x407), (Value.int .i64 x408), (Value.slice x409.a x409.len x409.cap), (Value.slice x410.a x410.len x410.cap), (Value.slice x411.a x411.len x411.cap), (Value.slice x412.a x412.len x412.cap)]).length = 7 ∧ (Program.underlying Go.Proofs.Tryd.prog 49).isSome = true ∧
                H.wr h339 (Addr.mk r3 0 none) ([(Value.slice x406.a x406.len x406.cap), (Value.int .i64 x407), (Value.int .i64 x408), (Value.slice x409.a x409.len x409.cap), (Value.slice x410.a x410.len x410.cap), (Value.slice x411.a x411.len x411.cap), (Value.slice x412.a x412.len x412.cap)]) fun h413 =>
                ∃ x414 : SV, H.rd h413 (Addr.add (Addr.mk r3 0 none) 0) (Value.slice x414.a x414.len x414.cap) ∧
                ∃ x415 : Int, H.rd h413 (Addr.add (Addr.mk r3 0 none) 1) (Value.int .i64 x415) ∧
                ∃ x416 : Int, H.rd h413 (Addr.add (Addr.mk r3 0 none) 2) (Value.int .i64 x416) ∧
                ∃ x417 : SV, H.rd h413 (Addr.add (Addr.mk r3 0 none) 3) (Value.slice x417.a x417.len x417.cap) ∧
                ∃ x418 : SV, H.rd h413 (Addr.add (Addr.mk r3 0 none) 4) (Value.slice x418.a x418.len x418.cap) ∧
                ∃ x419 : SV, H.rd h413 (Addr.add (Addr.mk r3 0 none) 5) (Value.slice x419.a x419.len x419.cap) ∧
                ∃ x420 : SV, H.rd h413 (Addr.add (Addr.mk r3 0 none) 6) (Value.slice x420.a x420.len x420.cap) ∧
                VRet h413 (Value.tuple (List.toArray [(Value.agg (List.toArray [(Value.slice x414.a x414.len x414.cap), (Value.int .i64 x415), (Value.int .i64 x416), (Value.slice x417.a x417.len x417.cap), (Value.slice x418.a x418.len x418.cap), (Value.slice x419.a x419.len x419.cap), (Value.slice x420.a x420.len x420.cap)])), (Value.bool true), (Value.int .i64 x405), (Value.int .i64 (0 : Int))])) post)))) (
                (∃ h421, Gh h46 h421 ∧ R53 (x26 + (1 : Int)) h421)))))))))))))) ∧
      ∀ (_ : F) (x422_next : Int) (h423 : H), R53 x422_next h423 →
      f22_J1 p1_p post r1 r3 x422_next h423))

def f22_hint : Hint := (.node .leaf (.node .leaf (.node .leaf (.node .leaf (.node .leaf (.node .leaf (.node .leaf (.node .leaf (.node (.node .leaf (.node (.node .leaf (.join [(11, .int)] (.node .leaf (.node .leaf (.node (.tail 10) (.node .leaf (.node .leaf (.node .leaf (.node .leaf (.node .leaf (.node (.node .leaf (.node (.node .leaf (.node (.node (.join [(5, .bool), (6, .int), (7, .int)] .any) .leaf) .leaf)) .leaf)) (.node .leaf (.node .leaf (.node .leaf (.node (.node .leaf (.node .leaf (.node (.node .leaf (.tail 9)) .leaf))) (.node .leaf (.node (.node .leaf (.node .any .leaf)) (.node .leaf (.node .leaf (.node .leaf (.node .leaf (.node .leaf (.node (.tail 9) (.node .leaf (.node (.node .leaf (.node .leaf (.node .any .leaf))) .leaf))))))))))))))))))))))))) .leaf)) .leaf)))))))))

theorem f22_eq (p0_0_d : SV) (p0_1_d : Int) (p0_2_d : Int) (p0_3_d : SV) (p0_4_d : SV) (p0_5_d : SV) (p0_6_d : SV) (p1_p : Int) (h0 : H) (post : Value → H → Prop) : exec Tryd.prog (bodyOf Tryd.f22) f22_hint (retQ Tryd.prog Tryd.f22 post) (F0 [(Value.agg (List.toArray [(Value.slice p0_0_d.a p0_0_d.len p0_0_d.cap), (Value.int .i64 p0_1_d), (Value.int .i64 p0_2_d), (Value.slice p0_3_d.a p0_3_d.len p0_3_d.cap), (Value.slice p0_4_d.a p0_4_d.len p0_4_d.cap), (Value.slice p0_5_d.a p0_5_d.len p0_5_d.cap), (Value.slice p0_6_d.a p0_6_d.len p0_6_d.cap)])), (Value.int .i64 p1_p)]) h0 = f22_sem p0_0_d p0_1_d p0_2_d p0_3_d p0_4_d p0_5_d p0_6_d p1_p h0 post := by kernel_rfl

set_option maxRecDepth 20000 in
theorem f22_call (p0_0_d : SV) (p0_1_d : Int) (p0_2_d : Int) (p0_3_d : SV) (p0_4_d : SV) (p0_5_d : SV) (p0_6_d : SV) (p1_p : Int) (h0 : H) (post : Value → H → Prop) (hx : f22_sem p0_0_d p0_1_d p0_2_d p0_3_d p0_4_d p0_5_d p0_6_d p1_p h0 post) : SemCall Tryd.prog 22 (List.toArray [(Value.agg (List.toArray [(Value.slice p0_0_d.a p0_0_d.len p0_0_d.cap), (Value.int .i64 p0_1_d), (Value.int .i64 p0_2_d), (Value.slice p0_3_d.a p0_3_d.len p0_3_d.cap), (Value.slice p0_4_d.a p0_4_d.len p0_4_d.cap), (Value.slice p0_5_d.a p0_5_d.len p0_5_d.cap), (Value.slice p0_6_d.a p0_6_d.len p0_6_d.cap)])), (Value.int .i64 p1_p)]) h0 post :=
  sem_of_exec (g := f22_hint) mixed Tryd.func22 (bodyOf_eq (by kernel_rfl)) (by kernel_rfl) ((f22_eq p0_0_d p0_1_d p0_2_d p0_3_d p0_4_d p0_5_d p0_6_d p1_p h0 post).mpr hx)

/- (*latchgarth/deque.Deque).Step -/
def f23_sem (p0_d : Option Addr) (p1_p : Int) (h0 : H) (post : Value → H → Prop) : Prop :=
  ∃ a1 : Addr, p0_d = some a1 ∧
  ∃ x2 : SV, H.rd h0 (Addr.add (Addr.add a1 10) 0) (Value.slice x2.a x2.len x2.cap) ∧
  In64 (((x2.len : Nat) : Int) - (1 : Int)) ∧
  SemCall Go.Proofs.Tryd.prog 27 (List.toArray [(Value.int .i64 p1_p), (Value.int .i64 (0 : Int)), (Value.int .i64 (((x2.len : Nat) : Int) - (1 : Int)))]) h0 fun v3 h4 =>
  ∃ x5 : Bool, v3 = (Value.bool x5) ∧
  VIf (!x5) (
    VRet h4 (Value.tuple (List.toArray [(Value.bool false), (Value.int .i64 (0 : Int)), (Value.iface 61 (Value.int .i64 (1 : Int)))])) post) (
    ∃ a6 : Addr, p0_d = some a6 ∧
    ∃ x7 : SV, H.rd h4 (Addr.add (Addr.add a6 10) 0) (Value.slice x7.a x7.len x7.cap) ∧
    ∃ b8 : Addr, x7.a = some b8 ∧ 0 ≤ p1_p ∧ p1_p < ((x7.len : Nat) : Int) ∧
    H.new h4 [(Value.pointer none)] fun r9 h10 =>
    H.wr h10 (Addr.mk r9 0 none) ([(Value.pointer (some (Addr.add b8 ((p1_p).toNat * 4))))]) fun h11 =>
    ∃ x12 : Option Addr, H.rd h11 (Addr.add (Addr.mk r9 0 none) 0) (Value.pointer x12) ∧
    ∃ a13 : Addr, x12 = some a13 ∧
    ∃ x14 : Int, H.rd h11 (Addr.add (Addr.add a13 0) 0) (Value.int .i64 x14) ∧
    In64 (x14 + (1 : Int)) ∧
    ∃ x15 : Option Addr, H.rd h11 (Addr.add (Addr.mk r9 0 none) 0) (Value.pointer x15) ∧
    ∃ a16 : Addr, x15 = some a16 ∧
    ∃ x17 : Int, H.rd h11 (Addr.add (Addr.add a16 0) 0) (Value.int .i64 x17) ∧
    VIf (x17 == (0 : Int)) (
      VRet h11 (Value.tuple (List.toArray [(Value.bool false), (Value.int .i64 (0 : Int)), (Value.iface 61 (Value.int .i64 (7 : Int)))])) post) (
      ∃ R18 : Int → H → Prop, (
        VIf (x17 == (1 : Int)) (
          ∃ a19 : Addr, p0_d = some a19 ∧
          ∃ x20 : Int, H.rd h11 (Addr.add (Addr.add a19 9) 0) (Value.int .i64 x20) ∧
          ∃ a21 : Addr, p0_d = some a21 ∧
          ∃ x22 : Int, H.rd h11 (Addr.add (Addr.add a21 8) 0) (Value.int .i64 x22) ∧
          In64 (x20 - x22) ∧
          VIf (decide ((x20 - x22) ≥ (8 : Int))) (
            SemCall Go.Proofs.Tryd.prog 37 (List.toArray [(Value.int .i64 (-2 : Int)), (Value.pointer (some (Addr.mk r9 0 none)))]) h11 fun v23 h24 =>
            ∃ x25 : Bool, ∃ x26 : Int, ∃ x27 : Option (TypeId × Value), v23 = (Value.tuple (List.toArray [(Value.bool x25), (Value.int .i64 x26), (errV x27)])) ∧
            VRet h24 (Value.tuple (List.toArray [(Value.bool x25), (Value.int .i64 x26), (errV x27)])) post) (
            (∃ h28, Gh h11 h28 ∧ R18 (x14 + (1 : Int)) h28))) (
          VIf (x17 == (2 : Int)) (
            ∃ a29 : Addr, p0_d = some a29 ∧
            (
              ∃ x30 : Int, H.rd h11 (Addr.add (Addr.add a29 9) 0) (Value.int .i64 x30) ∧
              (
                SemCall Go.Proofs.Tryd.prog 38 (List.toArray [(Value.pointer p0_d), (Value.int .i64 x30)]) h11 fun v31 h32 =>
                ∃ x33 : Option Addr, v31 = (Value.pointer x33) ∧
                ∃ x34 : Option Addr, H.rd h32 (Addr.add (Addr.mk r9 0 none) 0) (Value.pointer x34) ∧
                ∃ a35 : Addr, x34 = some a35 ∧
                ∃ x36 : Int, H.rd h32 (Addr.add (Addr.add a35 1) 0) (Value.int .i64 x36) ∧
                ∃ a37 : Addr, x33 = some a37 ∧
                H.wr h32 a37 ([(Value.int .i64 x36)]) fun h38 =>
                (∃ h39, Gh h38 h39 ∧ R18 (x14 + (1 : Int)) h39)) ∧
              (
                ∃ x40 : Option Addr, H.rd h11 (Addr.add (Addr.mk r9 0 none) 0) (Value.pointer x40) ∧
                ∃ a41 : Addr, x40 = some a41 ∧
                (
                SemCall Go.Proofs.Tryd.prog 38 (List.toArray [(Value.pointer p0_d), (Value.int .i64 x30)]) h11 fun v42 h43 =>
                ∃ x44 : Option Addr, v42 = (Value.pointer x44) ∧
                ∃ x45 : Int, H.rd h43 (Addr.add (Addr.add a41 1) 0) (Value.int .i64 x45) ∧
                ∃ a46 : Addr, x44 = some a46 ∧
                H.wr h43 a46 ([(Value.int .i64 x45)]) fun h47 =>
                (∃ h48, Gh h47 h48 ∧ R18 (x14 + (1 : Int)) h48)) ∧
                (
                ∃ x49 : Int, H.rd h11 (Addr.add (Addr.add a41 1) 0) (Value.int .i64 x49) ∧
                SemCall Go.Proofs.Tryd.prog 38 (List.toArray [(Value.pointer p0_d), (Value.int .i64 x30)]) h11 fun v50 h51 =>
                ∃ x52 : Option Addr, v50 = (Value.pointer x52) ∧
                ∃ a53 : Addr, x52 = some a53 ∧
                H.wr h51 a53 ([(Value.int .i64 x49)]) fun h54 =>
                (∃ h55, Gh h54 h55 ∧ R18 (x14 + (1 : Int)) h55)))) ∧
            (
              ∃ x56 : Option Addr, H.rd h11 (Addr.add (Addr.mk r9 0 none) 0) (Value.pointer x56) ∧
              ∃ a57 : Addr, x56 = some a57 ∧
              (
                ∃ x58 : Int, H.rd h11 (Addr.add (Addr.add a29 9) 0) (Value.int .i64 x58) ∧
                (
                SemCall Go.Proofs.Tryd.prog 38 (List.toArray [(Value.pointer p0_d), (Value.int .i64 x58)]) h11 fun v59 h60 =>
                ∃ x61 : Option Addr, v59 = (Value.pointer x61) ∧
                ∃ x62 : Int, H.rd h60 (Addr.add (Addr.add a57 1) 0) (Value.int .i64 x62) ∧
                ∃ a63 : Addr, x61 = some a63 ∧
                H.wr h60 a63 ([(Value.int .i64 x62)]) fun h64 =>
                (∃ h65, Gh h64 h65 ∧ R18 (x14 + (1 : Int)) h65)) ∧
                (
                ∃ x66 : Int, H.rd h11 (Addr.add (Addr.add a57 1) 0) (Value.int .i64 x66) ∧
                SemCall Go.Proofs.Tryd.prog 38 (List.toArray [(Value.pointer p0_d), (Value.int .i64 x58)]) h11 fun v67 h68 =>
                ∃ x69 : Option Addr, v67 = (Value.pointer x69) ∧
                ∃ a70 : Addr, x69 = some a70 ∧
                H.wr h68 a70 ([(Value.int .i64 x66)]) fun h71 =>
                (∃ h72, Gh h71 h72 ∧ R18 (x14 + (1 : Int)) h72))) ∧
              (
                ∃ x73 : Int, H.rd h11 (Addr.add (Addr.add a57 1) 0) (Value.int .i64 x73) ∧
                ∃ x74 : Int, H.rd h11 (Addr.add (Addr.add a29 9) 0) (Value.int .i64 x74) ∧
                SemCall Go.Proofs.Tryd.prog 38 (List.toArray [(Value.pointer p0_d), (Value.int .i64 x74)]) h11 fun v75 h76 =>
                ∃ x77 : Option Addr, v75 = (Value.pointer x77) ∧
                ∃ a78 : Addr, x77 = some a78 ∧
                H.wr h76 a78 ([(Value.int .i64 x73)]) fun h79 =>
                (∃ h80, Gh h79 h80 ∧ R18 (x14 + (1 : Int)) h80)))) (
            VIf (x17 == (3 : Int)) (
              ∃ a81 : Addr, p0_d = some a81 ∧
              ∃ x82 : Int, H.rd h11 (Addr.add (Addr.add a81 9) 0) (Value.int .i64 x82) ∧
              In64 (x82 + (1 : Int)) ∧
              ∃ a83 : Addr, p0_d = some a83 ∧
              H.wr h11 (Addr.add a83 9) ([(Value.int .i64 (x82 + (1 : Int)))]) fun h84 =>
              SemCall Go.Proofs.Tryd.prog 37 (List.toArray [(Value.int .i64 (-1 : Int)), (Value.pointer (some (Addr.mk r9 0 none)))]) h84 fun v85 h86 =>
              ∃ x87 : Bool, ∃ x88 : Int, ∃ x89 : Option (TypeId × Value), v85 = (Value.tuple (List.toArray [(Value.bool x87), (Value.int .i64 x88), (errV x89)])) ∧
              VRet h86 (Value.tuple (List.toArray [(Value.bool x87), (Value.int .i64 x88), (errV x89)])) post) (
              VIf (x17 == (4 : Int)) (
                ∃ a90 : Addr, p0_d = some a90 ∧
                ∃ x91 : Int, H.rd h11 (Addr.add (Addr.add a90 9) 0) (Value.int .i64 x91) ∧
                In64 (x91 - (1 : Int)) ∧
                ∃ a92 : Addr, p0_d = some a92 ∧
                H.wr h11 (Addr.add a92 9) ([(Value.int .i64 (x91 - (1 : Int)))]) fun h93 =>
                ∃ x94 : Option Addr, H.rd h93 (Addr.add (Addr.mk r9 0 none) 0) (Value.pointer x94) ∧
                ∃ a95 : Addr, p0_d = some a95 ∧
                ∃ x96 : Int, H.rd h93 (Addr.add (Addr.add a95 9) 0) (Value.int .i64 x96) ∧
                ∃ a97 : Addr, x94 = some a97 ∧
                H.wr h93 (Addr.add a97 3) ([(Value.int .i64 x96)]) fun h98 =>
                (∃ h99, Gh h98 h99 ∧ R18 (x14 + (1 : Int)) h99)) (
                VIf (x17 == (5 : Int)) (
                ∃ x100 : Option Addr, H.rd h11 (Addr.add (Addr.mk r9 0 none) 0) (Value.pointer x100) ∧
                ∃ a101 : Addr, p0_d = some a101 ∧
                ∃ x102 : Int, H.rd h11 (Addr.add (Addr.add a101 8) 0) (Value.int .i64 x102) ∧
                ∃ a103 : Addr, x100 = some a103 ∧
                H.wr h11 (Addr.add a103 2) ([(Value.int .i64 x102)]) fun h104 =>
                ∃ x105 : Option Addr, H.rd h104 (Addr.add (Addr.mk r9 0 none) 0) (Value.pointer x105) ∧
                ∃ a106 : Addr, x105 = some a106 ∧
                ∃ x107 : Int, H.rd h104 (Addr.add (Addr.add a106 3) 0) (Value.int .i64 x107) ∧
                ∃ x108 : Option Addr, H.rd h104 (Addr.add (Addr.mk r9 0 none) 0) (Value.pointer x108) ∧
                ∃ a109 : Addr, x108 = some a109 ∧
                ∃ x110 : Int, H.rd h104 (Addr.add (Addr.add a109 2) 0) (Value.int .i64 x110) ∧
                VIf (decide (x107 > x110)) (
                ∃ x111 : Option Addr, H.rd h104 (Addr.add (Addr.mk r9 0 none) 0) (Value.pointer x111) ∧
                ∃ a112 : Addr, x111 = some a112 ∧
                ∃ x113 : Int, H.rd h104 (Addr.add (Addr.add a112 3) 0) (Value.int .i64 x113) ∧
                SemCall Go.Proofs.Tryd.prog 38 (List.toArray [(Value.pointer p0_d), (Value.int .i64 x113)]) h104 fun v114 h115 =>
                ∃ x116 : Option Addr, v114 = (Value.pointer x116) ∧
                ∃ a117 : Addr, x116 = some a117 ∧
                ∃ x118 : Int, H.rd h115 (Addr.add a117 0) (Value.int .i64 x118) ∧
                SemCall Go.Proofs.Tryd.prog 37 (List.toArray [(Value.int .i64 x118), (Value.pointer (some (Addr.mk r9 0 none)))]) h115 fun v119 h120 =>
                ∃ x121 : Bool, ∃ x122 : Int, ∃ x123 : Option (TypeId × Value), v119 = (Value.tuple (List.toArray [(Value.bool x121), (Value.int .i64 x122), (errV x123)])) ∧
                VRet h120 (Value.tuple (List.toArray [(Value.bool x121), (Value.int .i64 x122), (errV x123)])) post) (
                ∃ x124 : Option Addr, H.rd h104 (Addr.add (Addr.mk r9 0 none) 0) (Value.pointer x124) ∧
                ∃ a125 : Addr, x124 = some a125 ∧
                ∃ x126 : Int, H.rd h104 (Addr.add (Addr.add a125 3) 0) (Value.int .i64 x126) ∧
                ∃ x127 : Option Addr, H.rd h104 (Addr.add (Addr.mk r9 0 none) 0) (Value.pointer x127) ∧
                ∃ a128 : Addr, x127 = some a128 ∧
                ∃ x129 : Int, H.rd h104 (Addr.add (Addr.add a128 2) 0) (Value.int .i64 x129) ∧
                VIf (x126 == x129) (
                (∃ h130, Gh h104 h130 ∧ R18 (7 : Int) h130)) (
                (∃ h131, Gh h104 h131 ∧ R18 (x14 + (1 : Int)) h131)))) (
                VIf (x17 == (6 : Int)) (
                ∃ x132 : Option Addr, H.rd h11 (Addr.add (Addr.mk r9 0 none) 0) (Value.pointer x132) ∧
                ∃ a133 : Addr, x132 = some a133 ∧
                ∃ x134 : Int, H.rd h11 (Addr.add (Addr.add a133 2) 0) (Value.int .i64 x134) ∧
                ∃ a135 : Addr, p0_d = some a135 ∧
                H.wr h11 (Addr.add a135 9) ([(Value.int .i64 x134)]) fun h136 =>
                SemCall Go.Proofs.Tryd.prog 37 (List.toArray [(Value.int .i64 (-1 : Int)), (Value.pointer (some (Addr.mk r9 0 none)))]) h136 fun v137 h138 =>
                ∃ x139 : Bool, ∃ x140 : Int, ∃ x141 : Option (TypeId × Value), v137 = (Value.tuple (List.toArray [(Value.bool x139), (Value.int .i64 x140), (errV x141)])) ∧
                VRet h138 (Value.tuple (List.toArray [(Value.bool x139), (Value.int .i64 x140), (errV x141)])) post) (
                VIf (x17 == (7 : Int)) (
                ∃ x142 : Option Addr, H.rd h11 (Addr.add (Addr.mk r9 0 none) 0) (Value.pointer x142) ∧
                ∃ a143 : Addr, x142 = some a143 ∧
                H.wr h11 (Addr.add a143 1) ([(Value.int .i64 (-1 : Int))]) fun h144 =>
                ∃ a145 : Addr, p0_d = some a145 ∧
                ∃ x146 : Option Addr, H.rd h144 (Addr.add (Addr.mk r9 0 none) 0) (Value.pointer x146) ∧
                ∃ a147 : Addr, x146 = some a147 ∧
                ∃ x148 : Int, H.rd h144 (Addr.add (Addr.add a147 2) 0) (Value.int .i64 x148) ∧
                ∃ x149 : Option Addr, H.rd h144 (Addr.add (Addr.mk r9 0 none) 0) (Value.pointer x149) ∧
                ∃ a150 : Addr, x149 = some a150 ∧
                ∃ x151 : Int, H.rd h144 (Addr.add (Addr.add a150 2) 0) (Value.int .i64 x151) ∧
                In64 (x151 + (1 : Int)) ∧
                SemCall Go.Proofs.Tryd.prog 39 (List.toArray [(Value.pointer (some (Addr.add a145 8))), (Value.int .i64 x148), (Value.int .i64 (x151 + (1 : Int)))]) h144 fun v152 h153 =>
                ∃ x154 : Bool, v152 = (Value.bool x154) ∧
                VIf x154 (
                (
                ∃ x155 : Option Addr, H.rd h153 (Addr.add (Addr.mk r9 0 none) 0) (Value.pointer x155) ∧
                ∃ x156 : Option Addr, H.rd h153 (Addr.add (Addr.mk r9 0 none) 0) (Value.pointer x156) ∧
                ∃ a157 : Addr, x156 = some a157 ∧
                ∃ x158 : Int, H.rd h153 (Addr.add (Addr.add a157 3) 0) (Value.int .i64 x158) ∧
                SemCall Go.Proofs.Tryd.prog 38 (List.toArray [(Value.pointer p0_d), (Value.int .i64 x158)]) h153 fun v159 h160 =>
                ∃ x161 : Option Addr, v159 = (Value.pointer x161) ∧
                ∃ a162 : Addr, x161 = some a162 ∧
                ∃ x163 : Int, H.rd h160 (Addr.add a162 0) (Value.int .i64 x163) ∧
                ∃ a164 : Addr, x155 = some a164 ∧
                H.wr h160 (Addr.add a164 1) ([(Value.int .i64 x163)]) fun h165 =>
                (∃ h166, Gh h165 h166 ∧ R18 (x14 + (1 : Int)) h166)) ∧
                (
                ∃ x167 : Option Addr, H.rd h153 (Addr.add (Addr.mk r9 0 none) 0) (Value.pointer x167) ∧
                ∃ a168 : Addr, x167 = some a168 ∧
                (
                ∃ x169 : Option Addr, H.rd h153 (Addr.add (Addr.mk r9 0 none) 0) (Value.pointer x169) ∧
                ∃ x170 : Int, H.rd h153 (Addr.add (Addr.add a168 3) 0) (Value.int .i64 x170) ∧
                SemCall Go.Proofs.Tryd.prog 38 (List.toArray [(Value.pointer p0_d), (Value.int .i64 x170)]) h153 fun v171 h172 =>
                ∃ x173 : Option Addr, v171 = (Value.pointer x173) ∧
                ∃ a174 : Addr, x173 = some a174 ∧
                ∃ x175 : Int, H.rd h172 (Addr.add a174 0) (Value.int .i64 x175) ∧
                ∃ a176 : Addr, x169 = some a176 ∧
                H.wr h172 (Addr.add a176 1) ([(Value.int .i64 x175)]) fun h177 =>
                (∃ h178, Gh h177 h178 ∧ R18 (x14 + (1 : Int)) h178)) ∧
                (
                ∃ x179 : Int, H.rd h153 (Addr.add (Addr.add a168 3) 0) (Value.int .i64 x179) ∧
                (
                ∃ x180 : Option Addr, H.rd h153 (Addr.add (Addr.mk r9 0 none) 0) (Value.pointer x180) ∧
                SemCall Go.Proofs.Tryd.prog 38 (List.toArray [(Value.pointer p0_d), (Value.int .i64 x179)]) h153 fun v181 h182 =>
                ∃ x183 : Option Addr, v181 = (Value.pointer x183) ∧
                ∃ a184 : Addr, x183 = some a184 ∧
                ∃ x185 : Int, H.rd h182 (Addr.add a184 0) (Value.int .i64 x185) ∧
                ∃ a186 : Addr, x180 = some a186 ∧
                H.wr h182 (Addr.add a186 1) ([(Value.int .i64 x185)]) fun h187 =>
                (∃ h188, Gh h187 h188 ∧ R18 (x14 + (1 : Int)) h188)) ∧
                (
                SemCall Go.Proofs.Tryd.prog 38 (List.toArray [(Value.pointer p0_d), (Value.int .i64 x179)]) h153 fun v189 h190 =>
                ∃ x191 : Option Addr, v189 = (Value.pointer x191) ∧
                ∃ a192 : Addr, x191 = some a192 ∧
                (
                ∃ x193 : Option Addr, H.rd h190 (Addr.add (Addr.mk r9 0 none) 0) (Value.pointer x193) ∧
                ∃ x194 : Int, H.rd h190 (Addr.add a192 0) (Value.int .i64 x194) ∧
                ∃ a195 : Addr, x193 = some a195 ∧
                H.wr h190 (Addr.add a195 1) ([(Value.int .i64 x194)]) fun h196 =>
                (∃ h197, Gh h196 h197 ∧ R18 (x14 + (1 : Int)) h197)) ∧
                (
                ∃ x198 : Int, H.rd h190 (Addr.add a192 0) (Value.int .i64 x198) ∧
                ∃ x199 : Option Addr, H.rd h190 (Addr.add (Addr.mk r9 0 none) 0) (Value.pointer x199) ∧
                ∃ a200 : Addr, x199 = some a200 ∧
                H.wr h190 (Addr.add a200 1) ([(Value.int .i64 x198)]) fun h201 =>
                (∃ h202, Gh h201 h202 ∧ R18 (x14 + (1 : Int)) h202)))))) (
                (∃ h203, Gh h153 h203 ∧ R18 (x14 + (1 : Int)) h203))) (
                VIf (x17 == (8 : Int)) (
                ∃ x204 : Option Addr, H.rd h11 (Addr.add (Addr.mk r9 0 none) 0) (Value.pointer x204) ∧
                ∃ a205 : Addr, x204 = some a205 ∧
                ∃ x206 : Int, H.rd h11 (Addr.add (Addr.add a205 2) 0) (Value.int .i64 x206) ∧
                In64 (x206 + (1 : Int)) ∧
                ∃ a207 : Addr, p0_d = some a207 ∧
                H.wr h11 (Addr.add a207 9) ([(Value.int .i64 (x206 + (1 : Int)))]) fun h208 =>
                ∃ x209 : Option Addr, H.rd h208 (Addr.add (Addr.mk r9 0 none) 0) (Value.pointer x209) ∧
                ∃ a210 : Addr, x209 = some a210 ∧
                ∃ x211 : Int, H.rd h208 (Addr.add (Addr.add a210 1) 0) (Value.int .i64 x211) ∧
                SemCall Go.Proofs.Tryd.prog 37 (List.toArray [(Value.int .i64 x211), (Value.pointer (some (Addr.mk r9 0 none)))]) h208 fun v212 h213 =>
                ∃ x214 : Bool, ∃ x215 : Int, ∃ x216 : Option (TypeId × Value), v212 = (Value.tuple (List.toArray [(Value.bool x214), (Value.int .i64 x215), (errV x216)])) ∧
                VRet h213 (Value.tuple (List.toArray [(Value.bool x214), (Value.int .i64 x215), (errV x216)])) post) (
                VIf (x17 == (9 : Int)) (
                ∃ x217 : Option Addr, H.rd h11 (Addr.add (Addr.mk r9 0 none) 0) (Value.pointer x217) ∧
                ∃ a218 : Addr, p0_d = some a218 ∧
                ∃ x219 : Int, H.rd h11 (Addr.add (Addr.add a218 8) 0) (Value.int .i64 x219) ∧
                ∃ a220 : Addr, x217 = some a220 ∧
                H.wr h11 (Addr.add a220 2) ([(Value.int .i64 x219)]) fun h221 =>
                (∃ h222, Gh h221 h222 ∧ R18 (x14 + (1 : Int)) h222)) (
                VIf (x17 == (10 : Int)) (
                ∃ a223 : Addr, p0_d = some a223 ∧
                ∃ x224 : Int, H.rd h11 (Addr.add (Addr.add a223 9) 0) (Value.int .i64 x224) ∧
                ∃ x225 : Option Addr, H.rd h11 (Addr.add (Addr.mk r9 0 none) 0) (Value.pointer x225) ∧
                ∃ a226 : Addr, x225 = some a226 ∧
                ∃ x227 : Int, H.rd h11 (Addr.add (Addr.add a226 2) 0) (Value.int .i64 x227) ∧
                VIf (decide (x224 ≤ x227)) (
                SemCall Go.Proofs.Tryd.prog 37 (List.toArray [(Value.int .i64 (-1 : Int)), (Value.pointer (some (Addr.mk r9 0 none)))]) h11 fun v228 h229 =>
                ∃ x230 : Bool, ∃ x231 : Int, ∃ x232 : Option (TypeId × Value), v228 = (Value.tuple (List.toArray [(Value.bool x230), (Value.int .i64 x231), (errV x232)])) ∧
                VRet h229 (Value.tuple (List.toArray [(Value.bool x230), (Value.int .i64 x231), (errV x232)])) post) (
                (∃ h233, Gh h11 h233 ∧ R18 (x14 + (1 : Int)) h233))) (
                VIf (x17 == (11 : Int)) (
                (
                ∃ x234 : Option Addr, H.rd h11 (Addr.add (Addr.mk r9 0 none) 0) (Value.pointer x234) ∧
                ∃ x235 : Option Addr, H.rd h11 (Addr.add (Addr.mk r9 0 none) 0) (Value.pointer x235) ∧
                ∃ a236 : Addr, x235 = some a236 ∧
                ∃ x237 : Int, H.rd h11 (Addr.add (Addr.add a236 2) 0) (Value.int .i64 x237) ∧
                SemCall Go.Proofs.Tryd.prog 38 (List.toArray [(Value.pointer p0_d), (Value.int .i64 x237)]) h11 fun v238 h239 =>
                ∃ x240 : Option Addr, v238 = (Value.pointer x240) ∧
                ∃ a241 : Addr, x240 = some a241 ∧
                ∃ x242 : Int, H.rd h239 (Addr.add a241 0) (Value.int .i64 x242) ∧
                ∃ a243 : Addr, x234 = some a243 ∧
                H.wr h239 (Addr.add a243 1) ([(Value.int .i64 x242)]) fun h244 =>
                (∃ h245, Gh h244 h245 ∧ R18 (x14 + (1 : Int)) h245)) ∧
                (
                ∃ x246 : Option Addr, H.rd h11 (Addr.add (Addr.mk r9 0 none) 0) (Value.pointer x246) ∧
                ∃ a247 : Addr, x246 = some a247 ∧
                (
                ∃ x248 : Option Addr, H.rd h11 (Addr.add (Addr.mk r9 0 none) 0) (Value.pointer x248) ∧
                ∃ x249 : Int, H.rd h11 (Addr.add (Addr.add a247 2) 0) (Value.int .i64 x249) ∧
                SemCall Go.Proofs.Tryd.prog 38 (List.toArray [(Value.pointer p0_d), (Value.int .i64 x249)]) h11 fun v250 h251 =>
                ∃ x252 : Option Addr, v250 = (Value.pointer x252) ∧
                ∃ a253 : Addr, x252 = some a253 ∧
                ∃ x254 : Int, H.rd h251 (Addr.add a253 0) (Value.int .i64 x254) ∧
                ∃ a255 : Addr, x248 = some a255 ∧
                H.wr h251 (Addr.add a255 1) ([(Value.int .i64 x254)]) fun h256 =>
                (∃ h257, Gh h256 h257 ∧ R18 (x14 + (1 : Int)) h257)) ∧
                (
                ∃ x258 : Int, H.rd h11 (Addr.add (Addr.add a247 2) 0) (Value.int .i64 x258) ∧
                (
                ∃ x259 : Option Addr, H.rd h11 (Addr.add (Addr.mk r9 0 none) 0) (Value.pointer x259) ∧
                SemCall Go.Proofs.Tryd.prog 38 (List.toArray [(Value.pointer p0_d), (Value.int .i64 x258)]) h11 fun v260 h261 =>
                ∃ x262 : Option Addr, v260 = (Value.pointer x262) ∧
                ∃ a263 : Addr, x262 = some a263 ∧
                ∃ x264 : Int, H.rd h261 (Addr.add a263 0) (Value.int .i64 x264) ∧
                ∃ a265 : Addr, x259 = some a265 ∧
                H.wr h261 (Addr.add a265 1) ([(Value.int .i64 x264)]) fun h266 =>
                (∃ h267, Gh h266 h267 ∧ R18 (x14 + (1 : Int)) h267)) ∧
                (
                SemCall Go.Proofs.Tryd.prog 38 (List.toArray [(Value.pointer p0_d), (Value.int .i64 x258)]) h11 fun v268 h269 =>
                ∃ x270 : Option Addr, v268 = (Value.pointer x270) ∧
                ∃ a271 : Addr, x270 = some a271 ∧
                (
                ∃ x272 : Option Addr, H.rd h269 (Addr.add (Addr.mk r9 0 none) 0) (Value.pointer x272) ∧
                ∃ x273 : Int, H.rd h269 (Addr.add a271 0) (Value.int .i64 x273) ∧
                ∃ a274 : Addr, x272 = some a274 ∧
                H.wr h269 (Addr.add a274 1) ([(Value.int .i64 x273)]) fun h275 =>
                (∃ h276, Gh h275 h276 ∧ R18 (x14 + (1 : Int)) h276)) ∧
                (
                ∃ x277 : Int, H.rd h269 (Addr.add a271 0) (Value.int .i64 x277) ∧
                ∃ x278 : Option Addr, H.rd h269 (Addr.add (Addr.mk r9 0 none) 0) (Value.pointer x278) ∧
                ∃ a279 : Addr, x278 = some a279 ∧
                H.wr h269 (Addr.add a279 1) ([(Value.int .i64 x277)]) fun h280 =>
                (∃ h281, Gh h280 h281 ∧ R18 (x14 + (1 : Int)) h281)))))) (
                VIf (x17 == (12 : Int)) (
                ∃ a282 : Addr, p0_d = some a282 ∧
                ∃ x283 : Option Addr, H.rd h11 (Addr.add (Addr.mk r9 0 none) 0) (Value.pointer x283) ∧
                ∃ a284 : Addr, x283 = some a284 ∧
                ∃ x285 : Int, H.rd h11 (Addr.add (Addr.add a284 2) 0) (Value.int .i64 x285) ∧
                ∃ x286 : Option Addr, H.rd h11 (Addr.add (Addr.mk r9 0 none) 0) (Value.pointer x286) ∧
                ∃ a287 : Addr, x286 = some a287 ∧
                ∃ x288 : Int, H.rd h11 (Addr.add (Addr.add a287 2) 0) (Value.int .i64 x288) ∧
                In64 (x288 + (1 : Int)) ∧
                SemCall Go.Proofs.Tryd.prog 39 (List.toArray [(Value.pointer (some (Addr.add a282 8))), (Value.int .i64 x285), (Value.int .i64 (x288 + (1 : Int)))]) h11 fun v289 h290 =>
                ∃ x291 : Bool, v289 = (Value.bool x291) ∧
                VIf (!x291) (
                SemCall Go.Proofs.Tryd.prog 37 (List.toArray [(Value.int .i64 (-2 : Int)), (Value.pointer (some (Addr.mk r9 0 none)))]) h290 fun v292 h293 =>
                ∃ x294 : Bool, ∃ x295 : Int, ∃ x296 : Option (TypeId × Value), v292 = (Value.tuple (List.toArray [(Value.bool x294), (Value.int .i64 x295), (errV x296)])) ∧
                VRet h293 (Value.tuple (List.toArray [(Value.bool x294), (Value.int .i64 x295), (errV x296)])) post) (
                ∃ x297 : Option Addr, H.rd h290 (Addr.add (Addr.mk r9 0 none) 0) (Value.pointer x297) ∧
                ∃ a298 : Addr, x297 = some a298 ∧
                ∃ x299 : Int, H.rd h290 (Addr.add (Addr.add a298 1) 0) (Value.int .i64 x299) ∧
                SemCall Go.Proofs.Tryd.prog 37 (List.toArray [(Value.int .i64 x299), (Value.pointer (some (Addr.mk r9 0 none)))]) h290 fun v300 h301 =>
                ∃ x302 : Bool, ∃ x303 : Int, ∃ x304 : Option (TypeId × Value), v300 = (Value.tuple (List.toArray [(Value.bool x302), (Value.int .i64 x303), (errV x304)])) ∧
                VRet h301 (Value.tuple (List.toArray [(Value.bool x302), (Value.int .i64 x303), (errV x304)])) post)) (
                (∃ h305, Gh h11 h305 ∧ R18 (x14 + (1 : Int)) h305)))))))))))))) ∧
      ∀ (_ : F) (x306_next : Int) (h307 : H), R18 x306_next h307 →
      ∃ x308 : Option Addr, H.rd h307 (Addr.add (Addr.mk r9 0 none) 0) (Value.pointer x308) ∧
      ∃ a309 : Addr, x308 = some a309 ∧
      H.wr h307 (Addr.add a309 0) ([(Value.int .i64 x306_next)]) fun h310 =>
      VRet h310 (Value.tuple (List.toArray [(Value.bool false), (Value.int .i64 (0 : Int)), Value.nilIface])) post))

def f23_hint : Hint := (.node .leaf (.node .leaf (.node .leaf (.node .leaf (.node .leaf (.node (.node .leaf (.node (.node .leaf (.node .leaf (.node .leaf (.join [(9, .int)] (.node .leaf (.node .leaf (.node .any (.node .leaf (.node .leaf (.node .leaf (.node (.node .leaf (.tail 7)) (.node .leaf (.node (.node (.tail 7) .leaf) (.node .leaf (.node .leaf (.node .leaf (.node (.node .leaf (.node (.tail 12) (.node .any .leaf))) (.node .leaf (.node .leaf (.node .leaf (.node (.tail 7) (.node .leaf (.node .leaf (.node .leaf (.node .any (.node .leaf (.node (.node (.node (.tail 12) .leaf) .leaf) .leaf))))))))))))))))))))))))))) .leaf)) .leaf))))))

theorem f23_eq (p0_d : Option Addr) (p1_p : Int) (h0 : H) (post : Value → H → Prop) : exec Tryd.prog (bodyOf Tryd.f23) f23_hint (retQ Tryd.prog Tryd.f23 post) (F0 [(Value.pointer p0_d), (Value.int .i64 p1_p)]) h0 = f23_sem p0_d p1_p h0 post := by kernel_rfl

set_option maxRecDepth 20000 in
theorem f23_call (p0_d : Option Addr) (p1_p : Int) (h0 : H) (post : Value → H → Prop) (hx : f23_sem p0_d p1_p h0 post) : SemCall Tryd.prog 23 (List.toArray [(Value.pointer p0_d), (Value.int .i64 p1_p)]) h0 post :=
  sem_of_exec (g := f23_hint) mixed Tryd.func23 (bodyOf_eq (by kernel_rfl)) (by kernel_rfl) ((f23_eq p0_d p1_p h0 post).mpr hx)

/- (*latchgarth/deque.Deque).Ends -/
def f24_sem (p0_d : Option Addr) (h0 : H) (post : Value → H → Prop) : Prop :=
  ∃ a1 : Addr, p0_d = some a1 ∧
  ∃ x2 : Int, H.rd h0 (Addr.add (Addr.add a1 8) 0) (Value.int .i64 x2) ∧
  ∃ a3 : Addr, p0_d = some a3 ∧
  ∃ x4 : Int, H.rd h0 (Addr.add (Addr.add a3 9) 0) (Value.int .i64 x4) ∧
  VRet h0 (Value.tuple (List.toArray [(Value.int .i64 x2), (Value.int .i64 x4)])) post

def f24_hint : Hint := .leaf

theorem f24_eq (p0_d : Option Addr) (h0 : H) (post : Value → H → Prop) : exec Tryd.prog (bodyOf Tryd.f24) f24_hint (retQ Tryd.prog Tryd.f24 post) (F0 [(Value.pointer p0_d)]) h0 = f24_sem p0_d h0 post := by kernel_rfl

set_option maxRecDepth 20000 in
theorem f24_call (p0_d : Option Addr) (h0 : H) (post : Value → H → Prop) (hx : f24_sem p0_d h0 post) : SemCall Tryd.prog 24 (List.toArray [(Value.pointer p0_d)]) h0 post :=
  sem_of_exec (g := f24_hint) mixed Tryd.func24 (bodyOf_eq (by kernel_rfl)) (by kernel_rfl) ((f24_eq p0_d h0 post).mpr hx)

/- (*latchgarth/deque.Deque).Places -/
def f25_sem (p0_d : Option Addr) (h0 : H) (post : Value → H → Prop) : Prop :=
  ∃ a1 : Addr, p0_d = some a1 ∧
  SemCall Go.Proofs.Tryd.prog 40 (List.toArray [(Value.slice (some (Addr.add (Addr.add a1 0) 0)) 8 8)]) h0 fun v2 h3 =>
  ∃ x4 : SV, v2 = (Value.slice x4.a x4.len x4.cap) ∧
  VRet h3 (Value.slice x4.a x4.len x4.cap) post

def f25_hint : Hint := .leaf

theorem f25_eq (p0_d : Option Addr) (h0 : H) (post : Value → H → Prop) : exec Tryd.prog (bodyOf Tryd.f25) f25_hint (retQ Tryd.prog Tryd.f25 post) (F0 [(Value.pointer p0_d)]) h0 = f25_sem p0_d h0 post := by kernel_rfl

set_option maxRecDepth 20000 in
theorem f25_call (p0_d : Option Addr) (h0 : H) (post : Value → H → Prop) (hx : f25_sem p0_d h0 post) : SemCall Tryd.prog 25 (List.toArray [(Value.pointer p0_d)]) h0 post :=
  sem_of_exec (g := f25_hint) mixed Tryd.func25 (bodyOf_eq (by kernel_rfl)) (by kernel_rfl) ((f25_eq p0_d h0 post).mpr hx)

/- (*latchgarth/deque.Deque).At -/
def f26_sem (p0_d : Option Addr) (p1_p : Int) (h0 : H) (post : Value → H → Prop) : Prop :=
  ∃ a1 : Addr, p0_d = some a1 ∧
  ∃ x2 : SV, H.rd h0 (Addr.add (Addr.add a1 10) 0) (Value.slice x2.a x2.len x2.cap) ∧
  In64 (((x2.len : Nat) : Int) - (1 : Int)) ∧
  SemCall Go.Proofs.Tryd.prog 27 (List.toArray [(Value.int .i64 p1_p), (Value.int .i64 (0 : Int)), (Value.int .i64 (((x2.len : Nat) : Int) - (1 : Int)))]) h0 fun v3 h4 =>
  ∃ x5 : Bool, v3 = (Value.bool x5) ∧
  VIf (!x5) (
    VRet h4 (Value.int .i64 (0 : Int)) post) (
    ∃ a6 : Addr, p0_d = some a6 ∧
    ∃ x7 : SV, H.rd h4 (Addr.add (Addr.add a6 10) 0) (Value.slice x7.a x7.len x7.cap) ∧
    ∃ b8 : Addr, x7.a = some b8 ∧ 0 ≤ p1_p ∧ p1_p < ((x7.len : Nat) : Int) ∧
    ∃ x9 : Int, H.rd h4 (Addr.add (Addr.add (Addr.add b8 ((p1_p).toNat * 4)) 0) 0) (Value.int .i64 x9) ∧
    VRet h4 (Value.int .i64 x9) post)

def f26_hint : Hint := .leaf

theorem f26_eq (p0_d : Option Addr) (p1_p : Int) (h0 : H) (post : Value → H → Prop) : exec Tryd.prog (bodyOf Tryd.f26) f26_hint (retQ Tryd.prog Tryd.f26 post) (F0 [(Value.pointer p0_d), (Value.int .i64 p1_p)]) h0 = f26_sem p0_d p1_p h0 post := by kernel_rfl

set_option maxRecDepth 20000 in
theorem f26_call (p0_d : Option Addr) (p1_p : Int) (h0 : H) (post : Value → H → Prop) (hx : f26_sem p0_d p1_p h0 post) : SemCall Tryd.prog 26 (List.toArray [(Value.pointer p0_d), (Value.int .i64 p1_p)]) h0 post :=
  sem_of_exec (g := f26_hint) mixed Tryd.func26 (bodyOf_eq (by kernel_rfl)) (by kernel_rfl) ((f26_eq p0_d p1_p h0 post).mpr hx)

/- latchgarth/core.Within -/
def f27_sem (p0_n : Int) (p1_low : Int) (p2_high : Int) (h0 : H) (post : Value → H → Prop) : Prop :=
  ∃ R1 : Bool → H → Prop, (
    VIf (decide (p0_n ≥ p1_low)) (
      (∃ h2, Gh h0 h2 ∧ R1 (decide (p0_n ≤ p2_high)) h2)) (
      (∃ h3, Gh h0 h3 ∧ R1 false h3))) ∧
  ∀ (_ : F) (x4 : Bool) (h5 : H), R1 x4 h5 →
  VRet h5 (Value.bool x4) post

def f27_hint : Hint := (.node .leaf (.node (.join [(6, .bool)] .leaf) .leaf))

theorem f27_eq (p0_n : Int) (p1_low : Int) (p2_high : Int) (h0 : H) (post : Value → H → Prop) : exec Tryd.prog (bodyOf Tryd.f27) f27_hint (retQ Tryd.prog Tryd.f27 post) (F0 [(Value.int .i64 p0_n), (Value.int .i64 p1_low), (Value.int .i64 p2_high)]) h0 = f27_sem p0_n p1_low p2_high h0 post := by kernel_rfl

set_option maxRecDepth 20000 in
theorem f27_call (p0_n : Int) (p1_low : Int) (p2_high : Int) (h0 : H) (post : Value → H → Prop) (hx : f27_sem p0_n p1_low p2_high h0 post) : SemCall Tryd.prog 27 (List.toArray [(Value.int .i64 p0_n), (Value.int .i64 p1_low), (Value.int .i64 p2_high)]) h0 post :=
  sem_of_exec (g := f27_hint) mixed Tryd.func27 (bodyOf_eq (by kernel_rfl)) (by kernel_rfl) ((f27_eq p0_n p1_low p2_high h0 post).mpr hx)

/- latchgarth/plain.Told -/
def f28_sem (p0_err : Option (TypeId × Value)) (h0 : H) (post : Value → H → Prop) : Prop :=
  isIfaceV (errV p0_err) = true ∧
  VIf (isNilV (errV p0_err)) (
    VRet h0 (Value.int .i64 (0 : Int)) post) (
    H.new h0 [(Value.int .i64 (0 : Int))] fun r1 h2 =>
    SemCall Go.Proofs.Tryd.prog 41 (List.toArray [(errV p0_err), (Value.iface 87 (Value.pointer (some (Addr.mk r1 0 none))))]) h2 fun v3 h4 =>
    ∃ x5 : Bool, v3 = (Value.bool x5) ∧
    VIf x5 (
      ∃ x6 : Int, H.rd h4 (Addr.add (Addr.mk r1 0 none) 0) (Value.int .i64 x6) ∧
      VRet h4 (Value.int .i64 x6) post) (
      VRet h4 (Value.int .i64 (-1 : Int)) post))

def f28_hint : Hint := .leaf

theorem f28_eq (p0_err : Option (TypeId × Value)) (h0 : H) (post : Value → H → Prop) : exec Tryd.prog (bodyOf Tryd.f28) f28_hint (retQ Tryd.prog Tryd.f28 post) (F0 [(errV p0_err)]) h0 = f28_sem p0_err h0 post := by kernel_rfl

set_option maxRecDepth 20000 in
theorem f28_call (p0_err : Option (TypeId × Value)) (h0 : H) (post : Value → H → Prop) (hx : f28_sem p0_err h0 post) : SemCall Tryd.prog 28 (List.toArray [(errV p0_err)]) h0 post :=
  sem_of_exec (g := f28_hint) mixed Tryd.func28 (bodyOf_eq (by kernel_rfl)) (by kernel_rfl) ((f28_eq p0_err h0 post).mpr hx)

/- (*latchgarth/dine.Table).is -/
def f29_sem (p0_t : Option Addr) (p1_i : Int) (h0 : H) (post : Value → H → Prop) : Prop :=
  ∃ a1 : Addr, p0_t = some a1 ∧
  ∃ x2 : SV, H.rd h0 (Addr.add (Addr.add a1 0) 0) (Value.slice x2.a x2.len x2.cap) ∧
  In64 (((x2.len : Nat) : Int) - (1 : Int)) ∧
  SemCall Go.Proofs.Tryd.prog 27 (List.toArray [(Value.int .i64 p1_i), (Value.int .i64 (0 : Int)), (Value.int .i64 (((x2.len : Nat) : Int) - (1 : Int)))]) h0 fun v3 h4 =>
  ∃ x5 : Bool, v3 = (Value.bool x5) ∧
  VRet h4 (Value.bool x5) post

def f29_hint : Hint := .leaf

theorem f29_eq (p0_t : Option Addr) (p1_i : Int) (h0 : H) (post : Value → H → Prop) : exec Tryd.prog (bodyOf Tryd.f29) f29_hint (retQ Tryd.prog Tryd.f29 post) (F0 [(Value.pointer p0_t), (Value.int .i64 p1_i)]) h0 = f29_sem p0_t p1_i h0 post := by kernel_rfl

set_option maxRecDepth 20000 in
theorem f29_call (p0_t : Option Addr) (p1_i : Int) (h0 : H) (post : Value → H → Prop) (hx : f29_sem p0_t p1_i h0 post) : SemCall Tryd.prog 29 (List.toArray [(Value.pointer p0_t), (Value.int .i64 p1_i)]) h0 post :=
  sem_of_exec (g := f29_hint) mixed Tryd.func29 (bodyOf_eq (by kernel_rfl)) (by kernel_rfl) ((f29_eq p0_t p1_i h0 post).mpr hx)

/- latchgarth/latchgarthref4.set -/
def f30_sem (p0_l : SV) (p1_i : Int) (p2_n : Int) (h0 : H) (post : Value → H → Prop) : Prop :=
  appVC Go.Proofs.Tryd.prog 29 (Value.slice none 0 0) (Value.slice p0_l.a p0_l.len p0_l.cap) h0 fun x1 h2 =>
  ∃ b3 : Addr, x1.a = some b3 ∧ 0 ≤ p1_i ∧ p1_i < ((x1.len : Nat) : Int) ∧
  H.wr h2 (Addr.add b3 ((p1_i).toNat * 1)) ([(Value.int .i64 p2_n)]) fun h4 =>
  VRet h4 (Value.slice x1.a x1.len x1.cap) post

def f30_hint : Hint := .leaf

theorem f30_eq (p0_l : SV) (p1_i : Int) (p2_n : Int) (h0 : H) (post : Value → H → Prop) : exec Tryd.prog (bodyOf Tryd.f30) f30_hint (retQ Tryd.prog Tryd.f30 post) (F0 [(Value.slice p0_l.a p0_l.len p0_l.cap), (Value.int .i64 p1_i), (Value.int .i64 p2_n)]) h0 = f30_sem p0_l p1_i p2_n h0 post := by kernel_rfl

set_option maxRecDepth 20000 in
theorem f30_call (p0_l : SV) (p1_i : Int) (p2_n : Int) (h0 : H) (post : Value → H → Prop) (hx : f30_sem p0_l p1_i p2_n h0 post) : SemCall Tryd.prog 30 (List.toArray [(Value.slice p0_l.a p0_l.len p0_l.cap), (Value.int .i64 p1_i), (Value.int .i64 p2_n)]) h0 post :=
  sem_of_exec (g := f30_hint) mixed Tryd.func30 (bodyOf_eq (by kernel_rfl)) (by kernel_rfl) ((f30_eq p0_l p1_i p2_n h0 post).mpr hx)

/- (*latchgarth/dine.Table).sides -/
def f31_sem (p0_t : Option Addr) (p1_i : Int) (h0 : H) (post : Value → H → Prop) : Prop :=
  H.new h0 [(Value.pointer none), (Value.pointer none)] fun r1 h2 =>
  ∃ a3 : Addr, p0_t = some a3 ∧
  ∃ x4 : SV, H.rd h2 (Addr.add (Addr.add a3 0) 0) (Value.slice x4.a x4.len x4.cap) ∧
  ∃ a5 : Addr, p0_t = some a5 ∧
  ∃ x6 : SV, H.rd h2 (Addr.add (Addr.add a5 1) 0) (Value.slice x6.a x6.len x6.cap) ∧
  In64 (p1_i + ((x4.len : Nat) : Int)) ∧
  In64 ((p1_i + ((x4.len : Nat) : Int)) - (1 : Int)) ∧
  ((x4.len : Nat) : Int) ≠ 0 ∧
  ∃ b7 : Addr, x6.a = some b7 ∧ 0 ≤ (Int.tmod ((p1_i + ((x4.len : Nat) : Int)) - (1 : Int)) ((x4.len : Nat) : Int)) ∧ (Int.tmod ((p1_i + ((x4.len : Nat) : Int)) - (1 : Int)) ((x4.len : Nat) : Int)) < ((x6.len : Nat) : Int) ∧
  ∃ a8 : Addr, p0_t = some a8 ∧
  ∃ x9 : SV, H.rd h2 (Addr.add (Addr.add a8 1) 0) (Value.slice x9.a x9.len x9.cap) ∧
  ∃ b10 : Addr, x9.a = some b10 ∧ 0 ≤ p1_i ∧ p1_i < ((x9.len : Nat) : Int) ∧
  ([(Value.pointer (some (Addr.add b7 (((Int.tmod ((p1_i + ((x4.len : Nat) : Int)) - (1 : Int)) ((x4.len : Nat) : Int))).toNat * 3)))), (Value.pointer (some (Addr.add b10 ((p1_i).toNat * 3))))]).length = 2 ∧ (Program.underlying Go.Proofs.Tryd.prog 71).isSome = true ∧
  H.wr h2 (Addr.mk r1 0 none) ([(Value.pointer (some (Addr.add b7 (((Int.tmod ((p1_i + ((x4.len : Nat) : Int)) - (1 : Int)) ((x4.len : Nat) : Int))).toNat * 3)))), (Value.pointer (some (Addr.add b10 ((p1_i).toNat * 3))))]) fun h11 =>
  ∃ x12 : Option Addr, H.rd h11 (Addr.add (Addr.mk r1 0 none) 0) (Value.pointer x12) ∧
  ∃ x13 : Option Addr, H.rd h11 (Addr.add (Addr.mk r1 0 none) 1) (Value.pointer x13) ∧
  VRet h11 (Value.agg (List.toArray [(Value.pointer x12), (Value.pointer x13)])) post

def f31_hint : Hint := (.node .leaf (.node .leaf (.node (.tail 18) .leaf)))

theorem f31_eq (p0_t : Option Addr) (p1_i : Int) (h0 : H) (post : Value → H → Prop) : exec Tryd.prog (bodyOf Tryd.f31) f31_hint (retQ Tryd.prog Tryd.f31 post) (F0 [(Value.pointer p0_t), (Value.int .i64 p1_i)]) h0 = f31_sem p0_t p1_i h0 post := by kernel_rfl

set_option maxRecDepth 20000 in
theorem f31_call (p0_t : Option Addr) (p1_i : Int) (h0 : H) (post : Value → H → Prop) (hx : f31_sem p0_t p1_i h0 post) : SemCall Tryd.prog 31 (List.toArray [(Value.pointer p0_t), (Value.int .i64 p1_i)]) h0 post :=
  sem_of_exec (g := f31_hint) mixed Tryd.func31 (bodyOf_eq (by kernel_rfl)) (by kernel_rfl) ((f31_eq p0_t p1_i h0 post).mpr hx)

/- (*latchgarth/dine.Table).other -/
def f32_sem (p0_t : Option Addr) (p1_i : Int) (p2_side : Int) (h0 : H) (post : Value → H → Prop) : Prop :=
  ∃ a1 : Addr, p0_t = some a1 ∧
  ∃ x2 : SV, H.rd h0 (Addr.add (Addr.add a1 0) 0) (Value.slice x2.a x2.len x2.cap) ∧
  In64 (p1_i + ((x2.len : Nat) : Int)) ∧
  In64 ((p1_i + ((x2.len : Nat) : Int)) - (1 : Int)) ∧
  In64 ((2 : Int) * p2_side) ∧
  In64 (((p1_i + ((x2.len : Nat) : Int)) - (1 : Int)) + ((2 : Int) * p2_side)) ∧
  ((x2.len : Nat) : Int) ≠ 0 ∧
  VRet h0 (Value.int .i64 (Int.tmod (((p1_i + ((x2.len : Nat) : Int)) - (1 : Int)) + ((2 : Int) * p2_side)) ((x2.len : Nat) : Int))) post

def f32_hint : Hint := .leaf

theorem f32_eq (p0_t : Option Addr) (p1_i : Int) (p2_side : Int) (h0 : H) (post : Value → H → Prop) : exec Tryd.prog (bodyOf Tryd.f32) f32_hint (retQ Tryd.prog Tryd.f32 post) (F0 [(Value.pointer p0_t), (Value.int .i64 p1_i), (Value.int .i64 p2_side)]) h0 = f32_sem p0_t p1_i p2_side h0 post := by kernel_rfl

set_option maxRecDepth 20000 in
theorem f32_call (p0_t : Option Addr) (p1_i : Int) (p2_side : Int) (h0 : H) (post : Value → H → Prop) (hx : f32_sem p0_t p1_i p2_side h0 post) : SemCall Tryd.prog 32 (List.toArray [(Value.pointer p0_t), (Value.int .i64 p1_i), (Value.int .i64 p2_side)]) h0 post :=
  sem_of_exec (g := f32_hint) mixed Tryd.func32 (bodyOf_eq (by kernel_rfl)) (by kernel_rfl) ((f32_eq p0_t p1_i p2_side h0 post).mpr hx)

/- latchgarth/core.Hands -/
def f33_sem (p0_n : Int) (h0 : H) (post : Value → H → Prop) : Prop :=
  SemCall Go.Proofs.Tryd.prog 27 (List.toArray [(Value.int .i64 p0_n), (Value.int .i64 (1 : Int)), (Value.int .i64 (4 : Int))]) h0 fun v1 h2 =>
  ∃ x3 : Bool, v1 = (Value.bool x3) ∧
  VIf (!x3) (
    VRet h2 (Value.iface 61 (Value.int .i64 (1 : Int))) post) (
    VRet h2 Value.nilIface post)

def f33_hint : Hint := .leaf

theorem f33_eq (p0_n : Int) (h0 : H) (post : Value → H → Prop) : exec Tryd.prog (bodyOf Tryd.f33) f33_hint (retQ Tryd.prog Tryd.f33 post) (F0 [(Value.int .i64 p0_n)]) h0 = f33_sem p0_n h0 post := by kernel_rfl

set_option maxRecDepth 20000 in
theorem f33_call (p0_n : Int) (h0 : H) (post : Value → H → Prop) (hx : f33_sem p0_n h0 post) : SemCall Tryd.prog 33 (List.toArray [(Value.int .i64 p0_n)]) h0 post :=
  sem_of_exec (g := f33_hint) mixed Tryd.func33 (bodyOf_eq (by kernel_rfl)) (by kernel_rfl) ((f33_eq p0_n h0 post).mpr hx)

/- latchgarth/latchgarthref6.set -/
def f34_sem (p0_l : SV) (p1_i : Int) (p2_n : Int) (h0 : H) (post : Value → H → Prop) : Prop :=
  appVC Go.Proofs.Tryd.prog 29 (Value.slice none 0 0) (Value.slice p0_l.a p0_l.len p0_l.cap) h0 fun x1 h2 =>
  ∃ b3 : Addr, x1.a = some b3 ∧ 0 ≤ p1_i ∧ p1_i < ((x1.len : Nat) : Int) ∧
  H.wr h2 (Addr.add b3 ((p1_i).toNat * 1)) ([(Value.int .i64 p2_n)]) fun h4 =>
  VRet h4 (Value.slice x1.a x1.len x1.cap) post

def f34_hint : Hint := .leaf

theorem f34_eq (p0_l : SV) (p1_i : Int) (p2_n : Int) (h0 : H) (post : Value → H → Prop) : exec Tryd.prog (bodyOf Tryd.f34) f34_hint (retQ Tryd.prog Tryd.f34 post) (F0 [(Value.slice p0_l.a p0_l.len p0_l.cap), (Value.int .i64 p1_i), (Value.int .i64 p2_n)]) h0 = f34_sem p0_l p1_i p2_n h0 post := by kernel_rfl

set_option maxRecDepth 20000 in
theorem f34_call (p0_l : SV) (p1_i : Int) (p2_n : Int) (h0 : H) (post : Value → H → Prop) (hx : f34_sem p0_l p1_i p2_n h0 post) : SemCall Tryd.prog 34 (List.toArray [(Value.slice p0_l.a p0_l.len p0_l.cap), (Value.int .i64 p1_i), (Value.int .i64 p2_n)]) h0 post :=
  sem_of_exec (g := f34_hint) mixed Tryd.func34 (bodyOf_eq (by kernel_rfl)) (by kernel_rfl) ((f34_eq p0_l p1_i p2_n h0 post).mpr hx)

/- (*latchgarth/deque.Deque).begin -/
def f35_sem (p0_d : Option Addr) (p1_p : Int) (p2_at : Int) (p3_value : Int) (h0 : H) (post : Value → H → Prop) : Prop :=
  ∃ a1 : Addr, p0_d = some a1 ∧
  ∃ x2 : SV, H.rd h0 (Addr.add (Addr.add a1 10) 0) (Value.slice x2.a x2.len x2.cap) ∧
  ∃ b3 : Addr, x2.a = some b3 ∧ 0 ≤ p1_p ∧ p1_p < ((x2.len : Nat) : Int) ∧
  ∃ x4 : Int, H.rd h0 (Addr.add (Addr.add (Addr.add b3 ((p1_p).toNat * 4)) 0) 0) (Value.int .i64 x4) ∧
  VIf (x4 != (0 : Int)) (
    VRet h0 (Value.iface 61 (Value.int .i64 (7 : Int))) post) (
    ∃ a5 : Addr, p0_d = some a5 ∧
    ∃ x6 : SV, H.rd h0 (Addr.add (Addr.add a5 10) 0) (Value.slice x6.a x6.len x6.cap) ∧
    ∃ b7 : Addr, x6.a = some b7 ∧ 0 ≤ p1_p ∧ p1_p < ((x6.len : Nat) : Int) ∧
    ([(Value.int .i64 p2_at), (Value.int .i64 p3_value), (Value.int .i64 (0 : Int)), (Value.int .i64 (0 : Int))]).length = 4 ∧ (Program.underlying Go.Proofs.Tryd.prog 81).isSome = true ∧
    H.wr h0 (Addr.add b7 ((p1_p).toNat * 4)) ([(Value.int .i64 p2_at), (Value.int .i64 p3_value), (Value.int .i64 (0 : Int)), (Value.int .i64 (0 : Int))]) fun h8 =>
    VRet h8 Value.nilIface post)

def f35_hint : Hint := .leaf

theorem f35_eq (p0_d : Option Addr) (p1_p : Int) (p2_at : Int) (p3_value : Int) (h0 : H) (post : Value → H → Prop) : exec Tryd.prog (bodyOf Tryd.f35) f35_hint (retQ Tryd.prog Tryd.f35 post) (F0 [(Value.pointer p0_d), (Value.int .i64 p1_p), (Value.int .i64 p2_at), (Value.int .i64 p3_value)]) h0 = f35_sem p0_d p1_p p2_at p3_value h0 post := by kernel_rfl

set_option maxRecDepth 20000 in
theorem f35_call (p0_d : Option Addr) (p1_p : Int) (p2_at : Int) (p3_value : Int) (h0 : H) (post : Value → H → Prop) (hx : f35_sem p0_d p1_p p2_at p3_value h0 post) : SemCall Tryd.prog 35 (List.toArray [(Value.pointer p0_d), (Value.int .i64 p1_p), (Value.int .i64 p2_at), (Value.int .i64 p3_value)]) h0 post :=
  sem_of_exec (g := f35_hint) mixed Tryd.func35 (bodyOf_eq (by kernel_rfl)) (by kernel_rfl) ((f35_eq p0_d p1_p p2_at p3_value h0 post).mpr hx)

/- latchgarth/latchgarthref6.in -/
def f36_sem (p0_n : Int) (p1_low : Int) (p2_high : Int) (h0 : H) (post : Value → H → Prop) : Prop :=
  ∃ R1 : Bool → H → Prop, (
    VIf (decide (p0_n ≥ p1_low)) (
      (∃ h2, Gh h0 h2 ∧ R1 (decide (p0_n ≤ p2_high)) h2)) (
      (∃ h3, Gh h0 h3 ∧ R1 false h3))) ∧
  ∀ (_ : F) (x4 : Bool) (h5 : H), R1 x4 h5 →
  VRet h5 (Value.bool x4) post

def f36_hint : Hint := (.node .leaf (.node (.join [(6, .bool)] .leaf) .leaf))

theorem f36_eq (p0_n : Int) (p1_low : Int) (p2_high : Int) (h0 : H) (post : Value → H → Prop) : exec Tryd.prog (bodyOf Tryd.f36) f36_hint (retQ Tryd.prog Tryd.f36 post) (F0 [(Value.int .i64 p0_n), (Value.int .i64 p1_low), (Value.int .i64 p2_high)]) h0 = f36_sem p0_n p1_low p2_high h0 post := by kernel_rfl

set_option maxRecDepth 20000 in
theorem f36_call (p0_n : Int) (p1_low : Int) (p2_high : Int) (h0 : H) (post : Value → H → Prop) (hx : f36_sem p0_n p1_low p2_high h0 post) : SemCall Tryd.prog 36 (List.toArray [(Value.int .i64 p0_n), (Value.int .i64 p1_low), (Value.int .i64 p2_high)]) h0 post :=
  sem_of_exec (g := f36_hint) mixed Tryd.func36 (bodyOf_eq (by kernel_rfl)) (by kernel_rfl) ((f36_eq p0_n p1_low p2_high h0 post).mpr hx)

/- (*latchgarth/deque.Deque).Step$1 -/
def f37_sem (p0_value : Int) (c0 : Addr) (h0 : H) (post : Value → H → Prop) : Prop :=
  ∃ x1 : Option Addr, H.rd h0 (Addr.add c0 0) (Value.pointer x1) ∧
  ∃ a2 : Addr, x1 = some a2 ∧
  ([(Value.int .i64 (0 : Int)), (Value.int .i64 (0 : Int)), (Value.int .i64 (0 : Int)), (Value.int .i64 (0 : Int))]).length = 4 ∧ (Program.underlying Go.Proofs.Tryd.prog 81).isSome = true ∧
  H.wr h0 a2 ([(Value.int .i64 (0 : Int)), (Value.int .i64 (0 : Int)), (Value.int .i64 (0 : Int)), (Value.int .i64 (0 : Int))]) fun h3 =>
  VRet h3 (Value.tuple (List.toArray [(Value.bool true), (Value.int .i64 p0_value), Value.nilIface])) post

def f37_hint : Hint := .leaf

theorem f37_eq (p0_value : Int) (c0 : Addr) (h0 : H) (post : Value → H → Prop) : exec Tryd.prog (bodyOf Tryd.f37) f37_hint (retQ Tryd.prog Tryd.f37 post) (F0 [(Value.int .i64 p0_value), (Value.pointer (some c0))]) h0 = f37_sem p0_value c0 h0 post := by kernel_rfl

set_option maxRecDepth 20000 in
theorem f37_call (p0_value : Int) (c0 : Addr) (h0 : H) (post : Value → H → Prop) (hx : f37_sem p0_value c0 h0 post) : SemCall Tryd.prog 37 (List.toArray [(Value.int .i64 p0_value), (Value.pointer (some c0))]) h0 post :=
  sem_of_exec (g := f37_hint) mixed Tryd.func37 (bodyOf_eq (by kernel_rfl)) (by kernel_rfl) ((f37_eq p0_value c0 h0 post).mpr hx)

/- (*latchgarth/deque.Deque).place -/
def f38_sem (p0_d : Option Addr) (p1_i : Int) (h0 : H) (post : Value → H → Prop) : Prop :=
  (8 : Int) ≠ 0 ∧
  ∃ a1 : Addr, p0_d = some a1 ∧
  0 ≤ (Int.tmod p1_i (8 : Int)) ∧ (Int.tmod p1_i (8 : Int)) < ((8 : Nat) : Int) ∧
  VRet h0 (Value.pointer (some (Addr.add (Addr.add a1 0) (((Int.tmod p1_i (8 : Int))).toNat * 1)))) post

def f38_hint : Hint := .leaf

theorem f38_eq (p0_d : Option Addr) (p1_i : Int) (h0 : H) (post : Value → H → Prop) : exec Tryd.prog (bodyOf Tryd.f38) f38_hint (retQ Tryd.prog Tryd.f38 post) (F0 [(Value.pointer p0_d), (Value.int .i64 p1_i)]) h0 = f38_sem p0_d p1_i h0 post := by kernel_rfl

set_option maxRecDepth 20000 in
theorem f38_call (p0_d : Option Addr) (p1_i : Int) (h0 : H) (post : Value → H → Prop) (hx : f38_sem p0_d p1_i h0 post) : SemCall Tryd.prog 38 (List.toArray [(Value.pointer p0_d), (Value.int .i64 p1_i)]) h0 post :=
  sem_of_exec (g := f38_hint) mixed Tryd.func38 (bodyOf_eq (by kernel_rfl)) (by kernel_rfl) ((f38_eq p0_d p1_i h0 post).mpr hx)

/- latchgarth/core.Cas[int] -/
def f39_sem (p0_word : Option Addr) (p1_old : Int) (p2_new : Int) (h0 : H) (post : Value → H → Prop) : Prop :=
  ∃ a1 : Addr, p0_word = some a1 ∧
  ∃ x2 : Int, H.rd h0 (Addr.add a1 0) (Value.int .i64 x2) ∧
  VIf (x2 != p1_old) (
    VRet h0 (Value.bool false) post) (
    ∃ a3 : Addr, p0_word = some a3 ∧
    H.wr h0 a3 ([(Value.int .i64 p2_new)]) fun h4 =>
    VRet h4 (Value.bool true) post)

def f39_hint : Hint := .leaf

theorem f39_eq (p0_word : Option Addr) (p1_old : Int) (p2_new : Int) (h0 : H) (post : Value → H → Prop) : exec Tryd.prog (bodyOf Tryd.f39) f39_hint (retQ Tryd.prog Tryd.f39 post) (F0 [(Value.pointer p0_word), (Value.int .i64 p1_old), (Value.int .i64 p2_new)]) h0 = f39_sem p0_word p1_old p2_new h0 post := by kernel_rfl

set_option maxRecDepth 20000 in
theorem f39_call (p0_word : Option Addr) (p1_old : Int) (p2_new : Int) (h0 : H) (post : Value → H → Prop) (hx : f39_sem p0_word p1_old p2_new h0 post) : SemCall Tryd.prog 39 (List.toArray [(Value.pointer p0_word), (Value.int .i64 p1_old), (Value.int .i64 p2_new)]) h0 post :=
  sem_of_exec (g := f39_hint) mixed Tryd.func39 (bodyOf_eq (by kernel_rfl)) (by kernel_rfl) ((f39_eq p0_word p1_old p2_new h0 post).mpr hx)

/- slices.Clone[[]int,int] -/
def f40_sem (p0_s : SV) (h0 : H) (post : Value → H → Prop) : Prop :=
  VIf (Option.isNone p0_s.a) (
    VRet h0 (Value.slice none 0 0) post) (
    H.new h0 [] fun r1 h2 =>
    appVC Go.Proofs.Tryd.prog 29 (Value.slice (some (Addr.mk r1 0 none)) 0 0) (Value.slice p0_s.a p0_s.len p0_s.cap) h2 fun x3 h4 =>
    VRet h4 (Value.slice x3.a x3.len x3.cap) post)

def f40_hint : Hint := .leaf

theorem f40_eq (p0_s : SV) (h0 : H) (post : Value → H → Prop) : exec Tryd.prog (bodyOf Tryd.f40) f40_hint (retQ Tryd.prog Tryd.f40 post) (F0 [(Value.slice p0_s.a p0_s.len p0_s.cap)]) h0 = f40_sem p0_s h0 post := by kernel_rfl

set_option maxRecDepth 20000 in
theorem f40_call (p0_s : SV) (h0 : H) (post : Value → H → Prop) (hx : f40_sem p0_s h0 post) : SemCall Tryd.prog 40 (List.toArray [(Value.slice p0_s.a p0_s.len p0_s.cap)]) h0 post :=
  sem_of_exec (g := f40_hint) mixed Tryd.func40 (bodyOf_eq (by kernel_rfl)) (by kernel_rfl) ((f40_eq p0_s h0 post).mpr hx)

end Go.Proofs.YtiaopgnnibidlaaDoor
