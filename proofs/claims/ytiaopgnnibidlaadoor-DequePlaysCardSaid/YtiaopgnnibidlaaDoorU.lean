import Derived.Test.YtiaopgnnibidlaaDoorT
import Derived.Test.YtiaopgnnibidlaaDoorEngG
import Derived.Test.YtiaopgnnibidlaaDoorRows
namespace Go.Proofs.YtiaopgnnibidlaaDoor
open Go.Eng
/- latchgarth/latchgarthref6.NewDeque -/
def f17_sem (p0_n : Int) (h0 : H) (post : Value → H → Prop) : Prop :=
 H.new h0 [(Value.slice none 0 0), (Value.int .i64 0), (Value.int .i64 0), (Value.slice none 0 0), (Value.slice none 0 0), (Value.slice none 0 0), (Value.slice none 0 0)] fun r1 h2 =>
 (
 0 ≤ (8 : Int) ∧ (8 : Int) ≤ (8 : Int) ∧ ((8 : Nat) : Int) * (8 : Int) ≤ 140737488355328 ∧ (8 : Int) ≤ 1000000000 ∧
 H.new h2 (repl ((8 : Int)).toNat [(Value.int .i64 0)]) fun r3 h4 =>
 (
 0 ≤ p0_n ∧ p0_n ≤ p0_n ∧ ((8 : Nat) : Int) * p0_n ≤ 140737488355328 ∧ p0_n ≤ 1000000000 ∧
 H.new h4 (repl (p0_n).toNat [(Value.int .i64 0)]) fun r5 h6 =>
 (
 0 ≤ p0_n ∧ p0_n ≤ p0_n ∧ ((8 : Nat) : Int) * p0_n ≤ 140737488355328 ∧ p0_n ≤ 1000000000 ∧
 H.new h6 (repl (p0_n).toNat [(Value.int .i64 0)]) fun r7 h8 =>
 (
 0 ≤ p0_n ∧ p0_n ≤ p0_n ∧ ((8 : Nat) : Int) * p0_n ≤ 140737488355328 ∧ p0_n ≤ 1000000000 ∧
 H.new h8 (repl (p0_n).toNat [(Value.int .i64 0)]) fun r9 h10 =>
 0 ≤ p0_n ∧ p0_n ≤ p0_n ∧ ((8 : Nat) : Int) * p0_n ≤ 140737488355328 ∧ p0_n ≤ 1000000000 ∧
 H.new h10 (repl (p0_n).toNat [(Value.int .i64 0)]) fun r11 h12 =>
 ([(Value.slice (some (Addr.mk r3 0 none)) (((8 : Int)).toNat) (((8 : Int)).toNat)), (Value.int .i64 0), (Value.int .i64 0), (Value.slice (some (Addr.mk r5 0 none)) ((p0_n).toNat) ((p0_n).toNat)), (Value.slice (some (Addr.mk r7 0 none)) ((p0_n).toNat) ((p0_n).toNat)), (Value.slice (some (Addr.mk r9 0 none)) ((p0_n).toNat) ((p0_n).toNat)), (Value.slice (some (Addr.mk r11 0 none)) ((p0_n).toNat) ((p0_n).toNat))]).length = 7 ∧ (Program.underlying Go.Proofs.Tryd.prog 49).isSome = true ∧
 H.wr h12 (Addr.mk r1 0 none) ([(Value.slice (some (Addr.mk r3 0 none)) (((8 : Int)).toNat) (((8 : Int)).toNat)), (Value.int .i64 0), (Value.int .i64 0), (Value.slice (some (Addr.mk r5 0 none)) ((p0_n).toNat) ((p0_n).toNat)), (Value.slice (some (Addr.mk r7 0 none)) ((p0_n).toNat) ((p0_n).toNat)), (Value.slice (some (Addr.mk r9 0 none)) ((p0_n).toNat) ((p0_n).toNat)), (Value.slice (some (Addr.mk r11 0 none)) ((p0_n).toNat) ((p0_n).toNat))]) fun h13 =>
 ∃ x14 : SV, H.rd h13 (Addr.add (Addr.mk r1 0 none) 0) (Value.slice x14.a x14.len x14.cap) ∧
 ∃ x15 : Int, H.rd h13 (Addr.add (Addr.mk r1 0 none) 1) (Value.int .i64 x15) ∧
 ∃ x16 : Int, H.rd h13 (Addr.add (Addr.mk r1 0 none) 2) (Value.int .i64 x16) ∧
 ∃ x17 : SV, H.rd h13 (Addr.add (Addr.mk r1 0 none) 3) (Value.slice x17.a x17.len x17.cap) ∧
 ∃ x18 : SV, H.rd h13 (Addr.add (Addr.mk r1 0 none) 4) (Value.slice x18.a x18.len x18.cap) ∧
 ∃ x19 : SV, H.rd h13 (Addr.add (Addr.mk r1 0 none) 5) (Value.slice x19.a x19.len x19.cap) ∧
 ∃ x20 : SV, H.rd h13 (Addr.add (Addr.mk r1 0 none) 6) (Value.slice x20.a x20.len x20.cap) ∧
 VRet h13 (Value.agg (List.toArray [(Value.slice x14.a x14.len x14.cap), (Value.int .i64 x15), (Value.int .i64 x16), (Value.slice x17.a x17.len x17.cap), (Value.slice x18.a x18.len x18.cap), (Value.slice x19.a x19.len x19.cap), (Value.slice x20.a x20.len x20.cap)])) post) ∧
 (
 0 ≤ p0_n ∧ p0_n ≤ p0_n ∧ ((8 : Nat) : Int) * p0_n ≤ 140737488355328 ∧ p0_n ≤ 1000000000 ∧
 H.new h8 (repl (p0_n).toNat [(Value.int .i64 0)]) fun r21 h22 =>
 0 ≤ p0_n ∧ p0_n ≤ p0_n ∧ ((8 : Nat) : Int) * p0_n ≤ 140737488355328 ∧ p0_n ≤ 1000000000 ∧
 H.new h22 (repl (p0_n).toNat [(Value.int .i64 0)]) fun r23 h24 =>
 ([(Value.slice (some (Addr.mk r3 0 none)) (((8 : Int)).toNat) (((8 : Int)).toNat)), (Value.int .i64 0), (Value.int .i64 0), (Value.slice (some (Addr.mk r5 0 none)) ((p0_n).toNat) ((p0_n).toNat)), (Value.slice (some (Addr.mk r7 0 none)) ((p0_n).toNat) ((p0_n).toNat)), (Value.slice (some (Addr.mk r23 0 none)) ((p0_n).toNat) ((p0_n).toNat)), (Value.slice (some (Addr.mk r21 0 none)) ((p0_n).toNat) ((p0_n).toNat))]).length = 7 ∧ (Program.underlying Go.Proofs.Tryd.prog 49).isSome = true ∧
 H.wr h24 (Addr.mk r1 0 none) ([(Value.slice (some (Addr.mk r3 0 none)) (((8 : Int)).toNat) (((8 : Int)).toNat)), (Value.int .i64 0), (Value.int .i64 0), (Value.slice (some (Addr.mk r5 0 none)) ((p0_n).toNat) ((p0_n).toNat)), (Value.slice (some (Addr.mk r7 0 none)) ((p0_n).toNat) ((p0_n).toNat)), (Value.slice (some (Addr.mk r23 0 none)) ((p0_n).toNat) ((p0_n).toNat)), (Value.slice (some (Addr.mk r21 0 none)) ((p0_n).toNat) ((p0_n).toNat))]) fun h25 =>
 ∃ x26 : SV, H.rd h25 (Addr.add (Addr.mk r1 0 none) 0) (Value.slice x26.a x26.len x26.cap) ∧
 ∃ x27 : Int, H.rd h25 (Addr.add (Addr.mk r1 0 none) 1) (Value.int .i64 x27) ∧
 ∃ x28 : Int, H.rd h25 (Addr.add (Addr.mk r1 0 none) 2) (Value.int .i64 x28) ∧
 ∃ x29 : SV, H.rd h25 (Addr.add (Addr.mk r1 0 none) 3) (Value.slice x29.a x29.len x29.cap) ∧
 ∃ x30 : SV, H.rd h25 (Addr.add (Addr.mk r1 0 none) 4) (Value.slice x30.a x30.len x30.cap) ∧
 ∃ x31 : SV, H.rd h25 (Addr.add (Addr.mk r1 0 none) 5) (Value.slice x31.a x31.len x31.cap) ∧
 ∃ x32 : SV, H.rd h25 (Addr.add (Addr.mk r1 0 none) 6) (Value.slice x32.a x32.len x32.cap) ∧
 VRet h25 (Value.agg (List.toArray [(Value.slice x26.a x26.len x26.cap), (Value.int .i64 x27), (Value.int .i64 x28), (Value.slice x29.a x29.len x29.cap), (Value.slice x30.a x30.len x30.cap), (Value.slice x31.a x31.len x31.cap), (Value.slice x32.a x32.len x32.cap)])) post)) ∧
 (
 (
 0 ≤ p0_n ∧ p0_n ≤ p0_n ∧ ((8 : Nat) : Int) * p0_n ≤ 140737488355328 ∧ p0_n ≤ 1000000000 ∧
 H.new h6 (repl (p0_n).toNat [(Value.int .i64 0)]) fun r33 h34 =>
 (
 0 ≤ p0_n ∧ p0_n ≤ p0_n ∧ ((8 : Nat) : Int) * p0_n ≤ 140737488355328 ∧ p0_n ≤ 1000000000 ∧
 H.new h34 (repl (p0_n).toNat [(Value.int .i64 0)]) fun r35 h36 =>
 0 ≤ p0_n ∧ p0_n ≤ p0_n ∧ ((8 : Nat) : Int) * p0_n ≤ 140737488355328 ∧ p0_n ≤ 1000000000 ∧
 H.new h36 (repl (p0_n).toNat [(Value.int .i64 0)]) fun r37 h38 =>
 ([(Value.slice (some (Addr.mk r3 0 none)) (((8 : Int)).toNat) (((8 : Int)).toNat)), (Value.int .i64 0), (Value.int .i64 0), (Value.slice (some (Addr.mk r5 0 none)) ((p0_n).toNat) ((p0_n).toNat)), (Value.slice (some (Addr.mk r35 0 none)) ((p0_n).toNat) ((p0_n).toNat)), (Value.slice (some (Addr.mk r33 0 none)) ((p0_n).toNat) ((p0_n).toNat)), (Value.slice (some (Addr.mk r37 0 none)) ((p0_n).toNat) ((p0_n).toNat))]).length = 7 ∧ (Program.underlying Go.Proofs.Tryd.prog 49).isSome = true ∧
 H.wr h38 (Addr.mk r1 0 none) ([(Value.slice (some (Addr.mk r3 0 none)) (((8 : Int)).toNat) (((8 : Int)).toNat)), (Value.int .i64 0), (Value.int .i64 0), (Value.slice (some (Addr.mk r5 0 none)) ((p0_n).toNat) ((p0_n).toNat)), (Value.slice (some (Addr.mk r35 0 none)) ((p0_n).toNat) ((p0_n).toNat)), (Value.slice (some (Addr.mk r33 0 none)) ((p0_n).toNat) ((p0_n).toNat)), (Value.slice (some (Addr.mk r37 0 none)) ((p0_n).toNat) ((p0_n).toNat))]) fun h39 =>
 ∃ x40 : SV, H.rd h39 (Addr.add (Addr.mk r1 0 none) 0) (Value.slice x40.a x40.len x40.cap) ∧
 ∃ x41 : Int, H.rd h39 (Addr.add (Addr.mk r1 0 none) 1) (Value.int .i64 x41) ∧
 ∃ x42 : Int, H.rd h39 (Addr.add (Addr.mk r1 0 none) 2) (Value.int .i64 x42) ∧
 ∃ x43 : SV, H.rd h39 (Addr.add (Addr.mk r1 0 none) 3) (Value.slice x43.a x43.len x43.cap) ∧
 ∃ x44 : SV, H.rd h39 (Addr.add (Addr.mk r1 0 none) 4) (Value.slice x44.a x44.len x44.cap) ∧
 ∃ x45 : SV, H.rd h39 (Addr.add (Addr.mk r1 0 none) 5) (Value.slice x45.a x45.len x45.cap) ∧
 ∃ x46 : SV, H.rd h39 (Addr.add (Addr.mk r1 0 none) 6) (Value.slice x46.a x46.len x46.cap) ∧
 VRet h39 (Value.agg (List.toArray [(Value.slice x40.a x40.len x40.cap), (Value.int .i64 x41), (Value.int .i64 x42), (Value.slice x43.a x43.len x43.cap), (Value.slice x44.a x44.len x44.cap), (Value.slice x45.a x45.len x45.cap), (Value.slice x46.a x46.len x46.cap)])) post) ∧
 (
 0 ≤ p0_n ∧ p0_n ≤ p0_n ∧ ((8 : Nat) : Int) * p0_n ≤ 140737488355328 ∧ p0_n ≤ 1000000000 ∧
 H.new h34 (repl (p0_n).toNat [(Value.int .i64 0)]) fun r47 h48 =>
 0 ≤ p0_n ∧ p0_n ≤ p0_n ∧ ((8 : Nat) : Int) * p0_n ≤ 140737488355328 ∧ p0_n ≤ 1000000000 ∧
 H.new h48 (repl (p0_n).toNat [(Value.int .i64 0)]) fun r49 h50 =>
 ([(Value.slice (some (Addr.mk r3 0 none)) (((8 : Int)).toNat) (((8 : Int)).toNat)), (Value.int .i64 0), (Value.int .i64 0), (Value.slice (some (Addr.mk r5 0 none)) ((p0_n).toNat) ((p0_n).toNat)), (Value.slice (some (Addr.mk r49 0 none)) ((p0_n).toNat) ((p0_n).toNat)), (Value.slice (some (Addr.mk r33 0 none)) ((p0_n).toNat) ((p0_n).toNat)), (Value.slice (some (Addr.mk r47 0 none)) ((p0_n).toNat) ((p0_n).toNat))]).length = 7 ∧ (Program.underlying Go.Proofs.Tryd.prog 49).isSome = true ∧
 H.wr h50 (Addr.mk r1 0 none) ([(Value.slice (some (Addr.mk r3 0 none)) (((8 : Int)).toNat) (((8 : Int)).toNat)), (Value.int .i64 0), (Value.int .i64 0), (Value.slice (some (Addr.mk r5 0 none)) ((p0_n).toNat) ((p0_n).toNat)), (Value.slice (some (Addr.mk r49 0 none)) ((p0_n).toNat) ((p0_n).toNat)), (Value.slice (some (Addr.mk r33 0 none)) ((p0_n).toNat) ((p0_n).toNat)), (Value.slice (some (Addr.mk r47 0 none)) ((p0_n).toNat) ((p0_n).toNat))]) fun h51 =>
 ∃ x52 : SV, H.rd h51 (Addr.add (Addr.mk r1 0 none) 0) (Value.slice x52.a x52.len x52.cap) ∧
 ∃ x53 : Int, H.rd h51 (Addr.add (Addr.mk r1 0 none) 1) (Value.int .i64 x53) ∧
 ∃ x54 : Int, H.rd h51 (Addr.add (Addr.mk r1 0 none) 2) (Value.int .i64 x54) ∧
 ∃ x55 : SV, H.rd h51 (Addr.add (Addr.mk r1 0 none) 3) (Value.slice x55.a x55.len x55.cap) ∧
 ∃ x56 : SV, H.rd h51 (Addr.add (Addr.mk r1 0 none) 4) (Value.slice x56.a x56.len x56.cap) ∧
 ∃ x57 : SV, H.rd h51 (Addr.add (Addr.mk r1 0 none) 5) (Value.slice x57.a x57.len x57.cap) ∧
 ∃ x58 : SV, H.rd h51 (Addr.add (Addr.mk r1 0 none) 6) (Value.slice x58.a x58.len x58.cap) ∧
 VRet h51 (Value.agg (List.toArray [(Value.slice x52.a x52.len x52.cap), (Value.int .i64 x53), (Value.int .i64 x54), (Value.slice x55.a x55.len x55.cap), (Value.slice x56.a x56.len x56.cap), (Value.slice x57.a x57.len x57.cap), (Value.slice x58.a x58.len x58.cap)])) post)) ∧
 (
 0 ≤ p0_n ∧ p0_n ≤ p0_n ∧ ((8 : Nat) : Int) * p0_n ≤ 140737488355328 ∧ p0_n ≤ 1000000000 ∧
 H.new h6 (repl (p0_n).toNat [(Value.int .i64 0)]) fun r59 h60 =>
 (
 0 ≤ p0_n ∧ p0_n ≤ p0_n ∧ ((8 : Nat) : Int) * p0_n ≤ 140737488355328 ∧ p0_n ≤ 1000000000 ∧
 H.new h60 (repl (p0_n).toNat [(Value.int .i64 0)]) fun r61 h62 =>
 0 ≤ p0_n ∧ p0_n ≤ p0_n ∧ ((8 : Nat) : Int) * p0_n ≤ 140737488355328 ∧ p0_n ≤ 1000000000 ∧
 H.new h62 (repl (p0_n).toNat [(Value.int .i64 0)]) fun r63 h64 =>
 ([(Value.slice (some (Addr.mk r3 0 none)) (((8 : Int)).toNat) (((8 : Int)).toNat)), (Value.int .i64 0), (Value.int .i64 0), (Value.slice (some (Addr.mk r5 0 none)) ((p0_n).toNat) ((p0_n).toNat)), (Value.slice (some (Addr.mk r61 0 none)) ((p0_n).toNat) ((p0_n).toNat)), (Value.slice (some (Addr.mk r63 0 none)) ((p0_n).toNat) ((p0_n).toNat)), (Value.slice (some (Addr.mk r59 0 none)) ((p0_n).toNat) ((p0_n).toNat))]).length = 7 ∧ (Program.underlying Go.Proofs.Tryd.prog 49).isSome = true ∧
 H.wr h64 (Addr.mk r1 0 none) ([(Value.slice (some (Addr.mk r3 0 none)) (((8 : Int)).toNat) (((8 : Int)).toNat)), (Value.int .i64 0), (Value.int .i64 0), (Value.slice (some (Addr.mk r5 0 none)) ((p0_n).toNat) ((p0_n).toNat)), (Value.slice (some (Addr.mk r61 0 none)) ((p0_n).toNat) ((p0_n).toNat)), (Value.slice (some (Addr.mk r63 0 none)) ((p0_n).toNat) ((p0_n).toNat)), (Value.slice (some (Addr.mk r59 0 none)) ((p0_n).toNat) ((p0_n).toNat))]) fun h65 =>
 ∃ x66 : SV, H.rd h65 (Addr.add (Addr.mk r1 0 none) 0) (Value.slice x66.a x66.len x66.cap) ∧
 ∃ x67 : Int, H.rd h65 (Addr.add (Addr.mk r1 0 none) 1) (Value.int .i64 x67) ∧
 ∃ x68 : Int, H.rd h65 (Addr.add (Addr.mk r1 0 none) 2) (Value.int .i64 x68) ∧
 ∃ x69 : SV, H.rd h65 (Addr.add (Addr.mk r1 0 none) 3) (Value.slice x69.a x69.len x69.cap) ∧
 ∃ x70 : SV, H.rd h65 (Addr.add (Addr.mk r1 0 none) 4) (Value.slice x70.a x70.len x70.cap) ∧
 ∃ x71 : SV, H.rd h65 (Addr.add (Addr.mk r1 0 none) 5) (Value.slice x71.a x71.len x71.cap) ∧
 ∃ x72 : SV, H.rd h65 (Addr.add (Addr.mk r1 0 none) 6) (Value.slice x72.a x72.len x72.cap) ∧
 VRet h65 (Value.agg (List.toArray [(Value.slice x66.a x66.len x66.cap), (Value.int .i64 x67), (Value.int .i64 x68), (Value.slice x69.a x69.len x69.cap), (Value.slice x70.a x70.len x70.cap), (Value.slice x71.a x71.len x71.cap), (Value.slice x72.a x72.len x72.cap)])) post) ∧
 (
 0 ≤ p0_n ∧ p0_n ≤ p0_n ∧ ((8 : Nat) : Int) * p0_n ≤ 140737488355328 ∧ p0_n ≤ 1000000000 ∧
 H.new h60 (repl (p0_n).toNat [(Value.int .i64 0)]) fun r73 h74 =>
 0 ≤ p0_n ∧ p0_n ≤ p0_n ∧ ((8 : Nat) : Int) * p0_n ≤ 140737488355328 ∧ p0_n ≤ 1000000000 ∧
 H.new h74 (repl (p0_n).toNat [(Value.int .i64 0)]) fun r75 h76 =>
 ([(Value.slice (some (Addr.mk r3 0 none)) (((8 : Int)).toNat) (((8 : Int)).toNat)), (Value.int .i64 0), (Value.int .i64 0), (Value.slice (some (Addr.mk r5 0 none)) ((p0_n).toNat) ((p0_n).toNat)), (Value.slice (some (Addr.mk r75 0 none)) ((p0_n).toNat) ((p0_n).toNat)), (Value.slice (some (Addr.mk r73 0 none)) ((p0_n).toNat) ((p0_n).toNat)), (Value.slice (some (Addr.mk r59 0 none)) ((p0_n).toNat) ((p0_n).toNat))]).length = 7 ∧ (Program.underlying Go.Proofs.Tryd.prog 49).isSome = true ∧
 H.wr h76 (Addr.mk r1 0 none) ([(Value.slice (some (Addr.mk r3 0 none)) (((8 : Int)).toNat) (((8 : Int)).toNat)), (Value.int .i64 0), (Value.int .i64 0), (Value.slice (some (Addr.mk r5 0 none)) ((p0_n).toNat) ((p0_n).toNat)), (Value.slice (some (Addr.mk r75 0 none)) ((p0_n).toNat) ((p0_n).toNat)), (Value.slice (some (Addr.mk r73 0 none)) ((p0_n).toNat) ((p0_n).toNat)), (Value.slice (some (Addr.mk r59 0 none)) ((p0_n).toNat) ((p0_n).toNat))]) fun h77 =>
 ∃ x78 : SV, H.rd h77 (Addr.add (Addr.mk r1 0 none) 0) (Value.slice x78.a x78.len x78.cap) ∧
 ∃ x79 : Int, H.rd h77 (Addr.add (Addr.mk r1 0 none) 1) (Value.int .i64 x79) ∧
 ∃ x80 : Int, H.rd h77 (Addr.add (Addr.mk r1 0 none) 2) (Value.int .i64 x80) ∧
 ∃ x81 : SV, H.rd h77 (Addr.add (Addr.mk r1 0 none) 3) (Value.slice x81.a x81.len x81.cap) ∧
 ∃ x82 : SV, H.rd h77 (Addr.add (Addr.mk r1 0 none) 4) (Value.slice x82.a x82.len x82.cap) ∧
 ∃ x83 : SV, H.rd h77 (Addr.add (Addr.mk r1 0 none) 5) (Value.slice x83.a x83.len x83.cap) ∧
 ∃ x84 : SV, H.rd h77 (Addr.add (Addr.mk r1 0 none) 6) (Value.slice x84.a x84.len x84.cap) ∧
 VRet h77 (Value.agg (List.toArray [(Value.slice x78.a x78.len x78.cap), (Value.int .i64 x79), (Value.int .i64 x80), (Value.slice x81.a x81.len x81.cap), (Value.slice x82.a x82.len x82.cap), (Value.slice x83.a x83.len x83.cap), (Value.slice x84.a x84.len x84.cap)])) post)))) ∧
 (
 (
 0 ≤ p0_n ∧ p0_n ≤ p0_n ∧ ((8 : Nat) : Int) * p0_n ≤ 140737488355328 ∧ p0_n ≤ 1000000000 ∧
 H.new h4 (repl (p0_n).toNat [(Value.int .i64 0)]) fun r85 h86 =>
 (
 0 ≤ p0_n ∧ p0_n ≤ p0_n ∧ ((8 : Nat) : Int) * p0_n ≤ 140737488355328 ∧ p0_n ≤ 1000000000 ∧
 H.new h86 (repl (p0_n).toNat [(Value.int .i64 0)]) fun r87 h88 =>
 (
 0 ≤ p0_n ∧ p0_n ≤ p0_n ∧ ((8 : Nat) : Int) * p0_n ≤ 140737488355328 ∧ p0_n ≤ 1000000000 ∧
 H.new h88 (repl (p0_n).toNat [(Value.int .i64 0)]) fun r89 h90 =>
 0 ≤ p0_n ∧ p0_n ≤ p0_n ∧ ((8 : Nat) : Int) * p0_n ≤ 140737488355328 ∧ p0_n ≤ 1000000000 ∧
 H.new h90 (repl (p0_n).toNat [(Value.int .i64 0)]) fun r91 h92 =>
 ([(Value.slice (some (Addr.mk r3 0 none)) (((8 : Int)).toNat) (((8 : Int)).toNat)), (Value.int .i64 0), (Value.int .i64 0), (Value.slice (some (Addr.mk r87 0 none)) ((p0_n).toNat) ((p0_n).toNat)), (Value.slice (some (Addr.mk r85 0 none)) ((p0_n).toNat) ((p0_n).toNat)), (Value.slice (some (Addr.mk r89 0 none)) ((p0_n).toNat) ((p0_n).toNat)), (Value.slice (some (Addr.mk r91 0 none)) ((p0_n).toNat) ((p0_n).toNat))]).length = 7 ∧ (Program.underlying Go.Proofs.Tryd.prog 49).isSome = true ∧
 H.wr h92 (Addr.mk r1 0 none) ([(Value.slice (some (Addr.mk r3 0 none)) (((8 : Int)).toNat) (((8 : Int)).toNat)), (Value.int .i64 0), (Value.int .i64 0), (Value.slice (some (Addr.mk r87 0 none)) ((p0_n).toNat) ((p0_n).toNat)), (Value.slice (some (Addr.mk r85 0 none)) ((p0_n).toNat) ((p0_n).toNat)), (Value.slice (some (Addr.mk r89 0 none)) ((p0_n).toNat) ((p0_n).toNat)), (Value.slice (some (Addr.mk r91 0 none)) ((p0_n).toNat) ((p0_n).toNat))]) fun h93 =>
 ∃ x94 : SV, H.rd h93 (Addr.add (Addr.mk r1 0 none) 0) (Value.slice x94.a x94.len x94.cap) ∧
 ∃ x95 : Int, H.rd h93 (Addr.add (Addr.mk r1 0 none) 1) (Value.int .i64 x95) ∧
 ∃ x96 : Int, H.rd h93 (Addr.add (Addr.mk r1 0 none) 2) (Value.int .i64 x96) ∧
 ∃ x97 : SV, H.rd h93 (Addr.add (Addr.mk r1 0 none) 3) (Value.slice x97.a x97.len x97.cap) ∧
 ∃ x98 : SV, H.rd h93 (Addr.add (Addr.mk r1 0 none) 4) (Value.slice x98.a x98.len x98.cap) ∧
 ∃ x99 : SV, H.rd h93 (Addr.add (Addr.mk r1 0 none) 5) (Value.slice x99.a x99.len x99.cap) ∧
 ∃ x100 : SV, H.rd h93 (Addr.add (Addr.mk r1 0 none) 6) (Value.slice x100.a x100.len x100.cap) ∧
 VRet h93 (Value.agg (List.toArray [(Value.slice x94.a x94.len x94.cap), (Value.int .i64 x95), (Value.int .i64 x96), (Value.slice x97.a x97.len x97.cap), (Value.slice x98.a x98.len x98.cap), (Value.slice x99.a x99.len x99.cap), (Value.slice x100.a x100.len x100.cap)])) post) ∧
 (
 0 ≤ p0_n ∧ p0_n ≤ p0_n ∧ ((8 : Nat) : Int) * p0_n ≤ 140737488355328 ∧ p0_n ≤ 1000000000 ∧
 H.new h88 (repl (p0_n).toNat [(Value.int .i64 0)]) fun r101 h102 =>
 0 ≤ p0_n ∧ p0_n ≤ p0_n ∧ ((8 : Nat) : Int) * p0_n ≤ 140737488355328 ∧ p0_n ≤ 1000000000 ∧
 H.new h102 (repl (p0_n).toNat [(Value.int .i64 0)]) fun r103 h104 =>
 ([(Value.slice (some (Addr.mk r3 0 none)) (((8 : Int)).toNat) (((8 : Int)).toNat)), (Value.int .i64 0), (Value.int .i64 0), (Value.slice (some (Addr.mk r87 0 none)) ((p0_n).toNat) ((p0_n).toNat)), (Value.slice (some (Addr.mk r85 0 none)) ((p0_n).toNat) ((p0_n).toNat)), (Value.slice (some (Addr.mk r103 0 none)) ((p0_n).toNat) ((p0_n).toNat)), (Value.slice (some (Addr.mk r101 0 none)) ((p0_n).toNat) ((p0_n).toNat))]).length = 7 ∧ (Program.underlying Go.Proofs.Tryd.prog 49).isSome = true ∧
 H.wr h104 (Addr.mk r1 0 none) ([(Value.slice (some (Addr.mk r3 0 none)) (((8 : Int)).toNat) (((8 : Int)).toNat)), (Value.int .i64 0), (Value.int .i64 0), (Value.slice (some (Addr.mk r87 0 none)) ((p0_n).toNat) ((p0_n).toNat)), (Value.slice (some (Addr.mk r85 0 none)) ((p0_n).toNat) ((p0_n).toNat)), (Value.slice (some (Addr.mk r103 0 none)) ((p0_n).toNat) ((p0_n).toNat)), (Value.slice (some (Addr.mk r101 0 none)) ((p0_n).toNat) ((p0_n).toNat))]) fun h105 =>
 ∃ x106 : SV, H.rd h105 (Addr.add (Addr.mk r1 0 none) 0) (Value.slice x106.a x106.len x106.cap) ∧
 ∃ x107 : Int, H.rd h105 (Addr.add (Addr.mk r1 0 none) 1) (Value.int .i64 x107) ∧
 ∃ x108 : Int, H.rd h105 (Addr.add (Addr.mk r1 0 none) 2) (Value.int .i64 x108) ∧
 ∃ x109 : SV, H.rd h105 (Addr.add (Addr.mk r1 0 none) 3) (Value.slice x109.a x109.len x109.cap) ∧
 ∃ x110 : SV, H.rd h105 (Addr.add (Addr.mk r1 0 none) 4) (Value.slice x110.a x110.len x110.cap) ∧
 ∃ x111 : SV, H.rd h105 (Addr.add (Addr.mk r1 0 none) 5) (Value.slice x111.a x111.len x111.cap) ∧
 ∃ x112 : SV, H.rd h105 (Addr.add (Addr.mk r1 0 none) 6) (Value.slice x112.a x112.len x112.cap) ∧
 VRet h105 (Value.agg (List.toArray [(Value.slice x106.a x106.len x106.cap), (Value.int .i64 x107), (Value.int .i64 x108), (Value.slice x109.a x109.len x109.cap), (Value.slice x110.a x110.len x110.cap), (Value.slice x111.a x111.len x111.cap), (Value.slice x112.a x112.len x112.cap)])) post)) ∧
 (
 (
 0 ≤ p0_n ∧ p0_n ≤ p0_n ∧ ((8 : Nat) : Int) * p0_n ≤ 140737488355328 ∧ p0_n ≤ 1000000000 ∧
 H.new h86 (repl (p0_n).toNat [(Value.int .i64 0)]) fun r113 h114 =>
 (
 0 ≤ p0_n ∧ p0_n ≤ p0_n ∧ ((8 : Nat) : Int) * p0_n ≤ 140737488355328 ∧ p0_n ≤ 1000000000 ∧
 H.new h114 (repl (p0_n).toNat [(Value.int .i64 0)]) fun r115 h116 =>
 0 ≤ p0_n ∧ p0_n ≤ p0_n ∧ ((8 : Nat) : Int) * p0_n ≤ 140737488355328 ∧ p0_n ≤ 1000000000 ∧
 H.new h116 (repl (p0_n).toNat [(Value.int .i64 0)]) fun r117 h118 =>
 ([(Value.slice (some (Addr.mk r3 0 none)) (((8 : Int)).toNat) (((8 : Int)).toNat)), (Value.int .i64 0), (Value.int .i64 0), (Value.slice (some (Addr.mk r115 0 none)) ((p0_n).toNat) ((p0_n).toNat)), (Value.slice (some (Addr.mk r85 0 none)) ((p0_n).toNat) ((p0_n).toNat)), (Value.slice (some (Addr.mk r113 0 none)) ((p0_n).toNat) ((p0_n).toNat)), (Value.slice (some (Addr.mk r117 0 none)) ((p0_n).toNat) ((p0_n).toNat))]).length = 7 ∧ (Program.underlying Go.Proofs.Tryd.prog 49).isSome = true ∧
 H.wr h118 (Addr.mk r1 0 none) ([(Value.slice (some (Addr.mk r3 0 none)) (((8 : Int)).toNat) (((8 : Int)).toNat)), (Value.int .i64 0), (Value.int .i64 0), (Value.slice (some (Addr.mk r115 0 none)) ((p0_n).toNat) ((p0_n).toNat)), (Value.slice (some (Addr.mk r85 0 none)) ((p0_n).toNat) ((p0_n).toNat)), (Value.slice (some (Addr.mk r113 0 none)) ((p0_n).toNat) ((p0_n).toNat)), (Value.slice (some (Addr.mk r117 0 none)) ((p0_n).toNat) ((p0_n).toNat))]) fun h119 =>
 ∃ x120 : SV, H.rd h119 (Addr.add (Addr.mk r1 0 none) 0) (Value.slice x120.a x120.len x120.cap) ∧
 ∃ x121 : Int, H.rd h119 (Addr.add (Addr.mk r1 0 none) 1) (Value.int .i64 x121) ∧
 ∃ x122 : Int, H.rd h119 (Addr.add (Addr.mk r1 0 none) 2) (Value.int .i64 x122) ∧
 ∃ x123 : SV, H.rd h119 (Addr.add (Addr.mk r1 0 none) 3) (Value.slice x123.a x123.len x123.cap) ∧
 ∃ x124 : SV, H.rd h119 (Addr.add (Addr.mk r1 0 none) 4) (Value.slice x124.a x124.len x124.cap) ∧
 ∃ x125 : SV, H.rd h119 (Addr.add (Addr.mk r1 0 none) 5) (Value.slice x125.a x125.len x125.cap) ∧
 ∃ x126 : SV, H.rd h119 (Addr.add (Addr.mk r1 0 none) 6) (Value.slice x126.a x126.len x126.cap) ∧
 VRet h119 (Value.agg (List.toArray [(Value.slice x120.a x120.len x120.cap), (Value.int .i64 x121), (Value.int .i64 x122), (Value.slice x123.a x123.len x123.cap), (Value.slice x124.a x124.len x124.cap), (Value.slice x125.a x125.len x125.cap), (Value.slice x126.a x126.len x126.cap)])) post) ∧
 (
 0 ≤ p0_n ∧ p0_n ≤ p0_n ∧ ((8 : Nat) : Int) * p0_n ≤ 140737488355328 ∧ p0_n ≤ 1000000000 ∧
 H.new h114 (repl (p0_n).toNat [(Value.int .i64 0)]) fun r127 h128 =>
 0 ≤ p0_n ∧ p0_n ≤ p0_n ∧ ((8 : Nat) : Int) * p0_n ≤ 140737488355328 ∧ p0_n ≤ 1000000000 ∧
 H.new h128 (repl (p0_n).toNat [(Value.int .i64 0)]) fun r129 h130 =>
 ([(Value.slice (some (Addr.mk r3 0 none)) (((8 : Int)).toNat) (((8 : Int)).toNat)), (Value.int .i64 0), (Value.int .i64 0), (Value.slice (some (Addr.mk r129 0 none)) ((p0_n).toNat) ((p0_n).toNat)), (Value.slice (some (Addr.mk r85 0 none)) ((p0_n).toNat) ((p0_n).toNat)), (Value.slice (some (Addr.mk r113 0 none)) ((p0_n).toNat) ((p0_n).toNat)), (Value.slice (some (Addr.mk r127 0 none)) ((p0_n).toNat) ((p0_n).toNat))]).length = 7 ∧ (Program.underlying Go.Proofs.Tryd.prog 49).isSome = true ∧
 H.wr h130 (Addr.mk r1 0 none) ([(Value.slice (some (Addr.mk r3 0 none)) (((8 : Int)).toNat) (((8 : Int)).toNat)), (Value.int .i64 0), (Value.int .i64 0), (Value.slice (some (Addr.mk r129 0 none)) ((p0_n).toNat) ((p0_n).toNat)), (Value.slice (some (Addr.mk r85 0 none)) ((p0_n).toNat) ((p0_n).toNat)), (Value.slice (some (Addr.mk r113 0 none)) ((p0_n).toNat) ((p0_n).toNat)), (Value.slice (some (Addr.mk r127 0 none)) ((p0_n).toNat) ((p0_n).toNat))]) fun h131 =>
 ∃ x132 : SV, H.rd h131 (Addr.add (Addr.mk r1 0 none) 0) (Value.slice x132.a x132.len x132.cap) ∧
 ∃ x133 : Int, H.rd h131 (Addr.add (Addr.mk r1 0 none) 1) (Value.int .i64 x133) ∧
 ∃ x134 : Int, H.rd h131 (Addr.add (Addr.mk r1 0 none) 2) (Value.int .i64 x134) ∧
 ∃ x135 : SV, H.rd h131 (Addr.add (Addr.mk r1 0 none) 3) (Value.slice x135.a x135.len x135.cap) ∧
 ∃ x136 : SV, H.rd h131 (Addr.add (Addr.mk r1 0 none) 4) (Value.slice x136.a x136.len x136.cap) ∧
 ∃ x137 : SV, H.rd h131 (Addr.add (Addr.mk r1 0 none) 5) (Value.slice x137.a x137.len x137.cap) ∧
 ∃ x138 : SV, H.rd h131 (Addr.add (Addr.mk r1 0 none) 6) (Value.slice x138.a x138.len x138.cap) ∧
 VRet h131 (Value.agg (List.toArray [(Value.slice x132.a x132.len x132.cap), (Value.int .i64 x133), (Value.int .i64 x134), (Value.slice x135.a x135.len x135.cap), (Value.slice x136.a x136.len x136.cap), (Value.slice x137.a x137.len x137.cap), (Value.slice x138.a x138.len x138.cap)])) post)) ∧
 (
 0 ≤ p0_n ∧ p0_n ≤ p0_n ∧ ((8 : Nat) : Int) * p0_n ≤ 140737488355328 ∧ p0_n ≤ 1000000000 ∧
 H.new h86 (repl (p0_n).toNat [(Value.int .i64 0)]) fun r139 h140 =>
 (
 0 ≤ p0_n ∧ p0_n ≤ p0_n ∧ ((8 : Nat) : Int) * p0_n ≤ 140737488355328 ∧ p0_n ≤ 1000000000 ∧
 H.new h140 (repl (p0_n).toNat [(Value.int .i64 0)]) fun r141 h142 =>
 0 ≤ p0_n ∧ p0_n ≤ p0_n ∧ ((8 : Nat) : Int) * p0_n ≤ 140737488355328 ∧ p0_n ≤ 1000000000 ∧
 H.new h142 (repl (p0_n).toNat [(Value.int .i64 0)]) fun r143 h144 =>
 ([(Value.slice (some (Addr.mk r3 0 none)) (((8 : Int)).toNat) (((8 : Int)).toNat)), (Value.int .i64 0), (Value.int .i64 0), (Value.slice (some (Addr.mk r141 0 none)) ((p0_n).toNat) ((p0_n).toNat)), (Value.slice (some (Addr.mk r85 0 none)) ((p0_n).toNat) ((p0_n).toNat)), (Value.slice (some (Addr.mk r143 0 none)) ((p0_n).toNat) ((p0_n).toNat)), (Value.slice (some (Addr.mk r139 0 none)) ((p0_n).toNat) ((p0_n).toNat))]).length = 7 ∧ (Program.underlying Go.Proofs.Tryd.prog 49).isSome = true ∧
 H.wr h144 (Addr.mk r1 0 none) ([(Value.slice (some (Addr.mk r3 0 none)) (((8 : Int)).toNat) (((8 : Int)).toNat)), (Value.int .i64 0), (Value.int .i64 0), (Value.slice (some (Addr.mk r141 0 none)) ((p0_n).toNat) ((p0_n).toNat)), (Value.slice (some (Addr.mk r85 0 none)) ((p0_n).toNat) ((p0_n).toNat)), (Value.slice (some (Addr.mk r143 0 none)) ((p0_n).toNat) ((p0_n).toNat)), (Value.slice (some (Addr.mk r139 0 none)) ((p0_n).toNat) ((p0_n).toNat))]) fun h145 =>
 ∃ x146 : SV, H.rd h145 (Addr.add (Addr.mk r1 0 none) 0) (Value.slice x146.a x146.len x146.cap) ∧
 ∃ x147 : Int, H.rd h145 (Addr.add (Addr.mk r1 0 none) 1) (Value.int .i64 x147) ∧
 ∃ x148 : Int, H.rd h145 (Addr.add (Addr.mk r1 0 none) 2) (Value.int .i64 x148) ∧
 ∃ x149 : SV, H.rd h145 (Addr.add (Addr.mk r1 0 none) 3) (Value.slice x149.a x149.len x149.cap) ∧
 ∃ x150 : SV, H.rd h145 (Addr.add (Addr.mk r1 0 none) 4) (Value.slice x150.a x150.len x150.cap) ∧
 ∃ x151 : SV, H.rd h145 (Addr.add (Addr.mk r1 0 none) 5) (Value.slice x151.a x151.len x151.cap) ∧
 ∃ x152 : SV, H.rd h145 (Addr.add (Addr.mk r1 0 none) 6) (Value.slice x152.a x152.len x152.cap) ∧
 VRet h145 (Value.agg (List.toArray [(Value.slice x146.a x146.len x146.cap), (Value.int .i64 x147), (Value.int .i64 x148), (Value.slice x149.a x149.len x149.cap), (Value.slice x150.a x150.len x150.cap), (Value.slice x151.a x151.len x151.cap), (Value.slice x152.a x152.len x152.cap)])) post) ∧
 (
 0 ≤ p0_n ∧ p0_n ≤ p0_n ∧ ((8 : Nat) : Int) * p0_n ≤ 140737488355328 ∧ p0_n ≤ 1000000000 ∧
 H.new h140 (repl (p0_n).toNat [(Value.int .i64 0)]) fun r153 h154 =>
 0 ≤ p0_n ∧ p0_n ≤ p0_n ∧ ((8 : Nat) : Int) * p0_n ≤ 140737488355328 ∧ p0_n ≤ 1000000000 ∧
 H.new h154 (repl (p0_n).toNat [(Value.int .i64 0)]) fun r155 h156 =>
 ([(Value.slice (some (Addr.mk r3 0 none)) (((8 : Int)).toNat) (((8 : Int)).toNat)), (Value.int .i64 0), (Value.int .i64 0), (Value.slice (some (Addr.mk r155 0 none)) ((p0_n).toNat) ((p0_n).toNat)), (Value.slice (some (Addr.mk r85 0 none)) ((p0_n).toNat) ((p0_n).toNat)), (Value.slice (some (Addr.mk r153 0 none)) ((p0_n).toNat) ((p0_n).toNat)), (Value.slice (some (Addr.mk r139 0 none)) ((p0_n).toNat) ((p0_n).toNat))]).length = 7 ∧ (Program.underlying Go.Proofs.Tryd.prog 49).isSome = true ∧
 H.wr h156 (Addr.mk r1 0 none) ([(Value.slice (some (Addr.mk r3 0 none)) (((8 : Int)).toNat) (((8 : Int)).toNat)), (Value.int .i64 0), (Value.int .i64 0), (Value.slice (some (Addr.mk r155 0 none)) ((p0_n).toNat) ((p0_n).toNat)), (Value.slice (some (Addr.mk r85 0 none)) ((p0_n).toNat) ((p0_n).toNat)), (Value.slice (some (Addr.mk r153 0 none)) ((p0_n).toNat) ((p0_n).toNat)), (Value.slice (some (Addr.mk r139 0 none)) ((p0_n).toNat) ((p0_n).toNat))]) fun h157 =>
 ∃ x158 : SV, H.rd h157 (Addr.add (Addr.mk r1 0 none) 0) (Value.slice x158.a x158.len x158.cap) ∧
 ∃ x159 : Int, H.rd h157 (Addr.add (Addr.mk r1 0 none) 1) (Value.int .i64 x159) ∧
 ∃ x160 : Int, H.rd h157 (Addr.add (Addr.mk r1 0 none) 2) (Value.int .i64 x160) ∧
 ∃ x161 : SV, H.rd h157 (Addr.add (Addr.mk r1 0 none) 3) (Value.slice x161.a x161.len x161.cap) ∧
 ∃ x162 : SV, H.rd h157 (Addr.add (Addr.mk r1 0 none) 4) (Value.slice x162.a x162.len x162.cap) ∧
 ∃ x163 : SV, H.rd h157 (Addr.add (Addr.mk r1 0 none) 5) (Value.slice x163.a x163.len x163.cap) ∧
 ∃ x164 : SV, H.rd h157 (Addr.add (Addr.mk r1 0 none) 6) (Value.slice x164.a x164.len x164.cap) ∧
 VRet h157 (Value.agg (List.toArray [(Value.slice x158.a x158.len x158.cap), (Value.int .i64 x159), (Value.int .i64 x160), (Value.slice x161.a x161.len x161.cap), (Value.slice x162.a x162.len x162.cap), (Value.slice x163.a x163.len x163.cap), (Value.slice x164.a x164.len x164.cap)])) post)))) ∧
 (
 (
 0 ≤ p0_n ∧ p0_n ≤ p0_n ∧ ((8 : Nat) : Int) * p0_n ≤ 140737488355328 ∧ p0_n ≤ 1000000000 ∧
 H.new h4 (repl (p0_n).toNat [(Value.int .i64 0)]) fun r165 h166 =>
 (
 0 ≤ p0_n ∧ p0_n ≤ p0_n ∧ ((8 : Nat) : Int) * p0_n ≤ 140737488355328 ∧ p0_n ≤ 1000000000 ∧
 H.new h166 (repl (p0_n).toNat [(Value.int .i64 0)]) fun r167 h168 =>
 (
 0 ≤ p0_n ∧ p0_n ≤ p0_n ∧ ((8 : Nat) : Int) * p0_n ≤ 140737488355328 ∧ p0_n ≤ 1000000000 ∧
 H.new h168 (repl (p0_n).toNat [(Value.int .i64 0)]) fun r169 h170 =>
 0 ≤ p0_n ∧ p0_n ≤ p0_n ∧ ((8 : Nat) : Int) * p0_n ≤ 140737488355328 ∧ p0_n ≤ 1000000000 ∧
 H.new h170 (repl (p0_n).toNat [(Value.int .i64 0)]) fun r171 h172 =>
 ([(Value.slice (some (Addr.mk r3 0 none)) (((8 : Int)).toNat) (((8 : Int)).toNat)), (Value.int .i64 0), (Value.int .i64 0), (Value.slice (some (Addr.mk r167 0 none)) ((p0_n).toNat) ((p0_n).toNat)), (Value.slice (some (Addr.mk r169 0 none)) ((p0_n).toNat) ((p0_n).toNat)), (Value.slice (some (Addr.mk r165 0 none)) ((p0_n).toNat) ((p0_n).toNat)), (Value.slice (some (Addr.mk r171 0 none)) ((p0_n).toNat) ((p0_n).toNat))]).length = 7 ∧ (Program.underlying Go.Proofs.Tryd.prog 49).isSome = true ∧
 H.wr h172 (Addr.mk r1 0 none) ([(Value.slice (some (Addr.mk r3 0 none)) (((8 : Int)).toNat) (((8 : Int)).toNat)), (Value.int .i64 0), (Value.int .i64 0), (Value.slice (some (Addr.mk r167 0 none)) ((p0_n).toNat) ((p0_n).toNat)), (Value.slice (some (Addr.mk r169 0 none)) ((p0_n).toNat) ((p0_n).toNat)), (Value.slice (some (Addr.mk r165 0 none)) ((p0_n).toNat) ((p0_n).toNat)), (Value.slice (some (Addr.mk r171 0 none)) ((p0_n).toNat) ((p0_n).toNat))]) fun h173 =>
 ∃ x174 : SV, H.rd h173 (Addr.add (Addr.mk r1 0 none) 0) (Value.slice x174.a x174.len x174.cap) ∧
 ∃ x175 : Int, H.rd h173 (Addr.add (Addr.mk r1 0 none) 1) (Value.int .i64 x175) ∧
 ∃ x176 : Int, H.rd h173 (Addr.add (Addr.mk r1 0 none) 2) (Value.int .i64 x176) ∧
 ∃ x177 : SV, H.rd h173 (Addr.add (Addr.mk r1 0 none) 3) (Value.slice x177.a x177.len x177.cap) ∧
 ∃ x178 : SV, H.rd h173 (Addr.add (Addr.mk r1 0 none) 4) (Value.slice x178.a x178.len x178.cap) ∧
 ∃ x179 : SV, H.rd h173 (Addr.add (Addr.mk r1 0 none) 5) (Value.slice x179.a x179.len x179.cap) ∧
 ∃ x180 : SV, H.rd h173 (Addr.add (Addr.mk r1 0 none) 6) (Value.slice x180.a x180.len x180.cap) ∧
 VRet h173 (Value.agg (List.toArray [(Value.slice x174.a x174.len x174.cap), (Value.int .i64 x175), (Value.int .i64 x176), (Value.slice x177.a x177.len x177.cap), (Value.slice x178.a x178.len x178.cap), (Value.slice x179.a x179.len x179.cap), (Value.slice x180.a x180.len x180.cap)])) post) ∧
 (
 0 ≤ p0_n ∧ p0_n ≤ p0_n ∧ ((8 : Nat) : Int) * p0_n ≤ 140737488355328 ∧ p0_n ≤ 1000000000 ∧
 H.new h168 (repl (p0_n).toNat [(Value.int .i64 0)]) fun r181 h182 =>
 0 ≤ p0_n ∧ p0_n ≤ p0_n ∧ ((8 : Nat) : Int) * p0_n ≤ 140737488355328 ∧ p0_n ≤ 1000000000 ∧
 H.new h182 (repl (p0_n).toNat [(Value.int .i64 0)]) fun r183 h184 =>
 ([(Value.slice (some (Addr.mk r3 0 none)) (((8 : Int)).toNat) (((8 : Int)).toNat)), (Value.int .i64 0), (Value.int .i64 0), (Value.slice (some (Addr.mk r167 0 none)) ((p0_n).toNat) ((p0_n).toNat)), (Value.slice (some (Addr.mk r183 0 none)) ((p0_n).toNat) ((p0_n).toNat)), (Value.slice (some (Addr.mk r165 0 none)) ((p0_n).toNat) ((p0_n).toNat)), (Value.slice (some (Addr.mk r181 0 none)) ((p0_n).toNat) ((p0_n).toNat))]).length = 7 ∧ (Program.underlying Go.Proofs.Tryd.prog 49).isSome = true ∧
 H.wr h184 (Addr.mk r1 0 none) ([(Value.slice (some (Addr.mk r3 0 none)) (((8 : Int)).toNat) (((8 : Int)).toNat)), (Value.int .i64 0), (Value.int .i64 0), (Value.slice (some (Addr.mk r167 0 none)) ((p0_n).toNat) ((p0_n).toNat)), (Value.slice (some (Addr.mk r183 0 none)) ((p0_n).toNat) ((p0_n).toNat)), (Value.slice (some (Addr.mk r165 0 none)) ((p0_n).toNat) ((p0_n).toNat)), (Value.slice (some (Addr.mk r181 0 none)) ((p0_n).toNat) ((p0_n).toNat))]) fun h185 =>
 ∃ x186 : SV, H.rd h185 (Addr.add (Addr.mk r1 0 none) 0) (Value.slice x186.a x186.len x186.cap) ∧
 ∃ x187 : Int, H.rd h185 (Addr.add (Addr.mk r1 0 none) 1) (Value.int .i64 x187) ∧
 ∃ x188 : Int, H.rd h185 (Addr.add (Addr.mk r1 0 none) 2) (Value.int .i64 x188) ∧
 ∃ x189 : SV, H.rd h185 (Addr.add (Addr.mk r1 0 none) 3) (Value.slice x189.a x189.len x189.cap) ∧
 ∃ x190 : SV, H.rd h185 (Addr.add (Addr.mk r1 0 none) 4) (Value.slice x190.a x190.len x190.cap) ∧
 ∃ x191 : SV, H.rd h185 (Addr.add (Addr.mk r1 0 none) 5) (Value.slice x191.a x191.len x191.cap) ∧
 ∃ x192 : SV, H.rd h185 (Addr.add (Addr.mk r1 0 none) 6) (Value.slice x192.a x192.len x192.cap) ∧
 VRet h185 (Value.agg (List.toArray [(Value.slice x186.a x186.len x186.cap), (Value.int .i64 x187), (Value.int .i64 x188), (Value.slice x189.a x189.len x189.cap), (Value.slice x190.a x190.len x190.cap), (Value.slice x191.a x191.len x191.cap), (Value.slice x192.a x192.len x192.cap)])) post)) ∧
 (
 (
 0 ≤ p0_n ∧ p0_n ≤ p0_n ∧ ((8 : Nat) : Int) * p0_n ≤ 140737488355328 ∧ p0_n ≤ 1000000000 ∧
 H.new h166 (repl (p0_n).toNat [(Value.int .i64 0)]) fun r193 h194 =>
 (
 0 ≤ p0_n ∧ p0_n ≤ p0_n ∧ ((8 : Nat) : Int) * p0_n ≤ 140737488355328 ∧ p0_n ≤ 1000000000 ∧
 H.new h194 (repl (p0_n).toNat [(Value.int .i64 0)]) fun r195 h196 =>
 0 ≤ p0_n ∧ p0_n ≤ p0_n ∧ ((8 : Nat) : Int) * p0_n ≤ 140737488355328 ∧ p0_n ≤ 1000000000 ∧
 H.new h196 (repl (p0_n).toNat [(Value.int .i64 0)]) fun r197 h198 =>
 ([(Value.slice (some (Addr.mk r3 0 none)) (((8 : Int)).toNat) (((8 : Int)).toNat)), (Value.int .i64 0), (Value.int .i64 0), (Value.slice (some (Addr.mk r195 0 none)) ((p0_n).toNat) ((p0_n).toNat)), (Value.slice (some (Addr.mk r193 0 none)) ((p0_n).toNat) ((p0_n).toNat)), (Value.slice (some (Addr.mk r165 0 none)) ((p0_n).toNat) ((p0_n).toNat)), (Value.slice (some (Addr.mk r197 0 none)) ((p0_n).toNat) ((p0_n).toNat))]).length = 7 ∧ (Program.underlying Go.Proofs.Tryd.prog 49).isSome = true ∧
 H.wr h198 (Addr.mk r1 0 none) ([(Value.slice (some (Addr.mk r3 0 none)) (((8 : Int)).toNat) (((8 : Int)).toNat)), (Value.int .i64 0), (Value.int .i64 0), (Value.slice (some (Addr.mk r195 0 none)) ((p0_n).toNat) ((p0_n).toNat)), (Value.slice (some (Addr.mk r193 0 none)) ((p0_n).toNat) ((p0_n).toNat)), (Value.slice (some (Addr.mk r165 0 none)) ((p0_n).toNat) ((p0_n).toNat)), (Value.slice (some (Addr.mk r197 0 none)) ((p0_n).toNat) ((p0_n).toNat))]) fun h199 =>
 ∃ x200 : SV, H.rd h199 (Addr.add (Addr.mk r1 0 none) 0) (Value.slice x200.a x200.len x200.cap) ∧
 ∃ x201 : Int, H.rd h199 (Addr.add (Addr.mk r1 0 none) 1) (Value.int .i64 x201) ∧
 ∃ x202 : Int, H.rd h199 (Addr.add (Addr.mk r1 0 none) 2) (Value.int .i64 x202) ∧
 ∃ x203 : SV, H.rd h199 (Addr.add (Addr.mk r1 0 none) 3) (Value.slice x203.a x203.len x203.cap) ∧
 ∃ x204 : SV, H.rd h199 (Addr.add (Addr.mk r1 0 none) 4) (Value.slice x204.a x204.len x204.cap) ∧
 ∃ x205 : SV, H.rd h199 (Addr.add (Addr.mk r1 0 none) 5) (Value.slice x205.a x205.len x205.cap) ∧
 ∃ x206 : SV, H.rd h199 (Addr.add (Addr.mk r1 0 none) 6) (Value.slice x206.a x206.len x206.cap) ∧
 VRet h199 (Value.agg (List.toArray [(Value.slice x200.a x200.len x200.cap), (Value.int .i64 x201), (Value.int .i64 x202), (Value.slice x203.a x203.len x203.cap), (Value.slice x204.a x204.len x204.cap), (Value.slice x205.a x205.len x205.cap), (Value.slice x206.a x206.len x206.cap)])) post) ∧
 (
 0 ≤ p0_n ∧ p0_n ≤ p0_n ∧ ((8 : Nat) : Int) * p0_n ≤ 140737488355328 ∧ p0_n ≤ 1000000000 ∧
 H.new h194 (repl (p0_n).toNat [(Value.int .i64 0)]) fun r207 h208 =>
 0 ≤ p0_n ∧ p0_n ≤ p0_n ∧ ((8 : Nat) : Int) * p0_n ≤ 140737488355328 ∧ p0_n ≤ 1000000000 ∧
 H.new h208 (repl (p0_n).toNat [(Value.int .i64 0)]) fun r209 h210 =>
 ([(Value.slice (some (Addr.mk r3 0 none)) (((8 : Int)).toNat) (((8 : Int)).toNat)), (Value.int .i64 0), (Value.int .i64 0), (Value.slice (some (Addr.mk r209 0 none)) ((p0_n).toNat) ((p0_n).toNat)), (Value.slice (some (Addr.mk r193 0 none)) ((p0_n).toNat) ((p0_n).toNat)), (Value.slice (some (Addr.mk r165 0 none)) ((p0_n).toNat) ((p0_n).toNat)), (Value.slice (some (Addr.mk r207 0 none)) ((p0_n).toNat) ((p0_n).toNat))]).length = 7 ∧ (Program.underlying Go.Proofs.Tryd.prog 49).isSome = true ∧
 H.wr h210 (Addr.mk r1 0 none) ([(Value.slice (some (Addr.mk r3 0 none)) (((8 : Int)).toNat) (((8 : Int)).toNat)), (Value.int .i64 0), (Value.int .i64 0), (Value.slice (some (Addr.mk r209 0 none)) ((p0_n).toNat) ((p0_n).toNat)), (Value.slice (some (Addr.mk r193 0 none)) ((p0_n).toNat) ((p0_n).toNat)), (Value.slice (some (Addr.mk r165 0 none)) ((p0_n).toNat) ((p0_n).toNat)), (Value.slice (some (Addr.mk r207 0 none)) ((p0_n).toNat) ((p0_n).toNat))]) fun h211 =>
 ∃ x212 : SV, H.rd h211 (Addr.add (Addr.mk r1 0 none) 0) (Value.slice x212.a x212.len x212.cap) ∧
 ∃ x213 : Int, H.rd h211 (Addr.add (Addr.mk r1 0 none) 1) (Value.int .i64 x213) ∧
 ∃ x214 : Int, H.rd h211 (Addr.add (Addr.mk r1 0 none) 2) (Value.int .i64 x214) ∧
 ∃ x215 : SV, H.rd h211 (Addr.add (Addr.mk r1 0 none) 3) (Value.slice x215.a x215.len x215.cap) ∧
 ∃ x216 : SV, H.rd h211 (Addr.add (Addr.mk r1 0 none) 4) (Value.slice x216.a x216.len x216.cap) ∧
 ∃ x217 : SV, H.rd h211 (Addr.add (Addr.mk r1 0 none) 5) (Value.slice x217.a x217.len x217.cap) ∧
 ∃ x218 : SV, H.rd h211 (Addr.add (Addr.mk r1 0 none) 6) (Value.slice x218.a x218.len x218.cap) ∧
 VRet h211 (Value.agg (List.toArray [(Value.slice x212.a x212.len x212.cap), (Value.int .i64 x213), (Value.int .i64 x214), (Value.slice x215.a x215.len x215.cap), (Value.slice x216.a x216.len x216.cap), (Value.slice x217.a x217.len x217.cap), (Value.slice x218.a x218.len x218.cap)])) post)) ∧
 (
 0 ≤ p0_n ∧ p0_n ≤ p0_n ∧ ((8 : Nat) : Int) * p0_n ≤ 140737488355328 ∧ p0_n ≤ 1000000000 ∧
 H.new h166 (repl (p0_n).toNat [(Value.int .i64 0)]) fun r219 h220 =>
 (
 0 ≤ p0_n ∧ p0_n ≤ p0_n ∧ ((8 : Nat) : Int) * p0_n ≤ 140737488355328 ∧ p0_n ≤ 1000000000 ∧
 H.new h220 (repl (p0_n).toNat [(Value.int .i64 0)]) fun r221 h222 =>
 0 ≤ p0_n ∧ p0_n ≤ p0_n ∧ ((8 : Nat) : Int) * p0_n ≤ 140737488355328 ∧ p0_n ≤ 1000000000 ∧
 H.new h222 (repl (p0_n).toNat [(Value.int .i64 0)]) fun r223 h224 =>
 ([(Value.slice (some (Addr.mk r3 0 none)) (((8 : Int)).toNat) (((8 : Int)).toNat)), (Value.int .i64 0), (Value.int .i64 0), (Value.slice (some (Addr.mk r221 0 none)) ((p0_n).toNat) ((p0_n).toNat)), (Value.slice (some (Addr.mk r223 0 none)) ((p0_n).toNat) ((p0_n).toNat)), (Value.slice (some (Addr.mk r165 0 none)) ((p0_n).toNat) ((p0_n).toNat)), (Value.slice (some (Addr.mk r219 0 none)) ((p0_n).toNat) ((p0_n).toNat))]).length = 7 ∧ (Program.underlying Go.Proofs.Tryd.prog 49).isSome = true ∧
 H.wr h224 (Addr.mk r1 0 none) ([(Value.slice (some (Addr.mk r3 0 none)) (((8 : Int)).toNat) (((8 : Int)).toNat)), (Value.int .i64 0), (Value.int .i64 0), (Value.slice (some (Addr.mk r221 0 none)) ((p0_n).toNat) ((p0_n).toNat)), (Value.slice (some (Addr.mk r223 0 none)) ((p0_n).toNat) ((p0_n).toNat)), (Value.slice (some (Addr.mk r165 0 none)) ((p0_n).toNat) ((p0_n).toNat)), (Value.slice (some (Addr.mk r219 0 none)) ((p0_n).toNat) ((p0_n).toNat))]) fun h225 =>
 ∃ x226 : SV, H.rd h225 (Addr.add (Addr.mk r1 0 none) 0) (Value.slice x226.a x226.len x226.cap) ∧
 ∃ x227 : Int, H.rd h225 (Addr.add (Addr.mk r1 0 none) 1) (Value.int .i64 x227) ∧
 ∃ x228 : Int, H.rd h225 (Addr.add (Addr.mk r1 0 none) 2) (Value.int .i64 x228) ∧
 ∃ x229 : SV, H.rd h225 (Addr.add (Addr.mk r1 0 none) 3) (Value.slice x229.a x229.len x229.cap) ∧
 ∃ x230 : SV, H.rd h225 (Addr.add (Addr.mk r1 0 none) 4) (Value.slice x230.a x230.len x230.cap) ∧
 ∃ x231 : SV, H.rd h225 (Addr.add (Addr.mk r1 0 none) 5) (Value.slice x231.a x231.len x231.cap) ∧
 ∃ x232 : SV, H.rd h225 (Addr.add (Addr.mk r1 0 none) 6) (Value.slice x232.a x232.len x232.cap) ∧
 VRet h225 (Value.agg (List.toArray [(Value.slice x226.a x226.len x226.cap), (Value.int .i64 x227), (Value.int .i64 x228), (Value.slice x229.a x229.len x229.cap), (Value.slice x230.a x230.len x230.cap), (Value.slice x231.a x231.len x231.cap), (Value.slice x232.a x232.len x232.cap)])) post) ∧
 (
 0 ≤ p0_n ∧ p0_n ≤ p0_n ∧ ((8 : Nat) : Int) * p0_n ≤ 140737488355328 ∧ p0_n ≤ 1000000000 ∧
 H.new h220 (repl (p0_n).toNat [(Value.int .i64 0)]) fun r233 h234 =>
 0 ≤ p0_n ∧ p0_n ≤ p0_n ∧ ((8 : Nat) : Int) * p0_n ≤ 140737488355328 ∧ p0_n ≤ 1000000000 ∧
 H.new h234 (repl (p0_n).toNat [(Value.int .i64 0)]) fun r235 h236 =>
 ([(Value.slice (some (Addr.mk r3 0 none)) (((8 : Int)).toNat) (((8 : Int)).toNat)), (Value.int .i64 0), (Value.int .i64 0), (Value.slice (some (Addr.mk r235 0 none)) ((p0_n).toNat) ((p0_n).toNat)), (Value.slice (some (Addr.mk r233 0 none)) ((p0_n).toNat) ((p0_n).toNat)), (Value.slice (some (Addr.mk r165 0 none)) ((p0_n).toNat) ((p0_n).toNat)), (Value.slice (some (Addr.mk r219 0 none)) ((p0_n).toNat) ((p0_n).toNat))]).length = 7 ∧ (Program.underlying Go.Proofs.Tryd.prog 49).isSome = true ∧
 H.wr h236 (Addr.mk r1 0 none) ([(Value.slice (some (Addr.mk r3 0 none)) (((8 : Int)).toNat) (((8 : Int)).toNat)), (Value.int .i64 0), (Value.int .i64 0), (Value.slice (some (Addr.mk r235 0 none)) ((p0_n).toNat) ((p0_n).toNat)), (Value.slice (some (Addr.mk r233 0 none)) ((p0_n).toNat) ((p0_n).toNat)), (Value.slice (some (Addr.mk r165 0 none)) ((p0_n).toNat) ((p0_n).toNat)), (Value.slice (some (Addr.mk r219 0 none)) ((p0_n).toNat) ((p0_n).toNat))]) fun h237 =>
 ∃ x238 : SV, H.rd h237 (Addr.add (Addr.mk r1 0 none) 0) (Value.slice x238.a x238.len x238.cap) ∧
 ∃ x239 : Int, H.rd h237 (Addr.add (Addr.mk r1 0 none) 1) (Value.int .i64 x239) ∧
 ∃ x240 : Int, H.rd h237 (Addr.add (Addr.mk r1 0 none) 2) (Value.int .i64 x240) ∧
 ∃ x241 : SV, H.rd h237 (Addr.add (Addr.mk r1 0 none) 3) (Value.slice x241.a x241.len x241.cap) ∧
 ∃ x242 : SV, H.rd h237 (Addr.add (Addr.mk r1 0 none) 4) (Value.slice x242.a x242.len x242.cap) ∧
 ∃ x243 : SV, H.rd h237 (Addr.add (Addr.mk r1 0 none) 5) (Value.slice x243.a x243.len x243.cap) ∧
 ∃ x244 : SV, H.rd h237 (Addr.add (Addr.mk r1 0 none) 6) (Value.slice x244.a x244.len x244.cap) ∧
 VRet h237 (Value.agg (List.toArray [(Value.slice x238.a x238.len x238.cap), (Value.int .i64 x239), (Value.int .i64 x240), (Value.slice x241.a x241.len x241.cap), (Value.slice x242.a x242.len x242.cap), (Value.slice x243.a x243.len x243.cap), (Value.slice x244.a x244.len x244.cap)])) post)))) ∧
 (
 0 ≤ p0_n ∧ p0_n ≤ p0_n ∧ ((8 : Nat) : Int) * p0_n ≤ 140737488355328 ∧ p0_n ≤ 1000000000 ∧
 H.new h4 (repl (p0_n).toNat [(Value.int .i64 0)]) fun r245 h246 =>
 (
 0 ≤ p0_n ∧ p0_n ≤ p0_n ∧ ((8 : Nat) : Int) * p0_n ≤ 140737488355328 ∧ p0_n ≤ 1000000000 ∧
 H.new h246 (repl (p0_n).toNat [(Value.int .i64 0)]) fun r247 h248 =>
 (
 0 ≤ p0_n ∧ p0_n ≤ p0_n ∧ ((8 : Nat) : Int) * p0_n ≤ 140737488355328 ∧ p0_n ≤ 1000000000 ∧
 H.new h248 (repl (p0_n).toNat [(Value.int .i64 0)]) fun r249 h250 =>
 0 ≤ p0_n ∧ p0_n ≤ p0_n ∧ ((8 : Nat) : Int) * p0_n ≤ 140737488355328 ∧ p0_n ≤ 1000000000 ∧
 H.new h250 (repl (p0_n).toNat [(Value.int .i64 0)]) fun r251 h252 =>
 ([(Value.slice (some (Addr.mk r3 0 none)) (((8 : Int)).toNat) (((8 : Int)).toNat)), (Value.int .i64 0), (Value.int .i64 0), (Value.slice (some (Addr.mk r247 0 none)) ((p0_n).toNat) ((p0_n).toNat)), (Value.slice (some (Addr.mk r249 0 none)) ((p0_n).toNat) ((p0_n).toNat)), (Value.slice (some (Addr.mk r251 0 none)) ((p0_n).toNat) ((p0_n).toNat)), (Value.slice (some (Addr.mk r245 0 none)) ((p0_n).toNat) ((p0_n).toNat))]).length = 7 ∧ (Program.underlying Go.Proofs.Tryd.prog 49).isSome = true ∧
 H.wr h252 (Addr.mk r1 0 none) ([(Value.slice (some (Addr.mk r3 0 none)) (((8 : Int)).toNat) (((8 : Int)).toNat)), (Value.int .i64 0), (Value.int .i64 0), (Value.slice (some (Addr.mk r247 0 none)) ((p0_n).toNat) ((p0_n).toNat)), (Value.slice (some (Addr.mk r249 0 none)) ((p0_n).toNat) ((p0_n).toNat)), (Value.slice (some (Addr.mk r251 0 none)) ((p0_n).toNat) ((p0_n).toNat)), (Value.slice (some (Addr.mk r245 0 none)) ((p0_n).toNat) ((p0_n).toNat))]) fun h253 =>
 ∃ x254 : SV, H.rd h253 (Addr.add (Addr.mk r1 0 none) 0) (Value.slice x254.a x254.len x254.cap) ∧
 ∃ x255 : Int, H.rd h253 (Addr.add (Addr.mk r1 0 none) 1) (Value.int .i64 x255) ∧
 ∃ x256 : Int, H.rd h253 (Addr.add (Addr.mk r1 0 none) 2) (Value.int .i64 x256) ∧
 ∃ x257 : SV, H.rd h253 (Addr.add (Addr.mk r1 0 none) 3) (Value.slice x257.a x257.len x257.cap) ∧
 ∃ x258 : SV, H.rd h253 (Addr.add (Addr.mk r1 0 none) 4) (Value.slice x258.a x258.len x258.cap) ∧
 ∃ x259 : SV, H.rd h253 (Addr.add (Addr.mk r1 0 none) 5) (Value.slice x259.a x259.len x259.cap) ∧
 ∃ x260 : SV, H.rd h253 (Addr.add (Addr.mk r1 0 none) 6) (Value.slice x260.a x260.len x260.cap) ∧
 VRet h253 (Value.agg (List.toArray [(Value.slice x254.a x254.len x254.cap), (Value.int .i64 x255), (Value.int .i64 x256), (Value.slice x257.a x257.len x257.cap), (Value.slice x258.a x258.len x258.cap), (Value.slice x259.a x259.len x259.cap), (Value.slice x260.a x260.len x260.cap)])) post) ∧
 (
 0 ≤ p0_n ∧ p0_n ≤ p0_n ∧ ((8 : Nat) : Int) * p0_n ≤ 140737488355328 ∧ p0_n ≤ 1000000000 ∧
 H.new h248 (repl (p0_n).toNat [(Value.int .i64 0)]) fun r261 h262 =>
 0 ≤ p0_n ∧ p0_n ≤ p0_n ∧ ((8 : Nat) : Int) * p0_n ≤ 140737488355328 ∧ p0_n ≤ 1000000000 ∧
 H.new h262 (repl (p0_n).toNat [(Value.int .i64 0)]) fun r263 h264 =>
 ([(Value.slice (some (Addr.mk r3 0 none)) (((8 : Int)).toNat) (((8 : Int)).toNat)), (Value.int .i64 0), (Value.int .i64 0), (Value.slice (some (Addr.mk r247 0 none)) ((p0_n).toNat) ((p0_n).toNat)), (Value.slice (some (Addr.mk r263 0 none)) ((p0_n).toNat) ((p0_n).toNat)), (Value.slice (some (Addr.mk r261 0 none)) ((p0_n).toNat) ((p0_n).toNat)), (Value.slice (some (Addr.mk r245 0 none)) ((p0_n).toNat) ((p0_n).toNat))]).length = 7 ∧ (Program.underlying Go.Proofs.Tryd.prog 49).isSome = true ∧
 H.wr h264 (Addr.mk r1 0 none) ([(Value.slice (some (Addr.mk r3 0 none)) (((8 : Int)).toNat) (((8 : Int)).toNat)), (Value.int .i64 0), (Value.int .i64 0), (Value.slice (some (Addr.mk r247 0 none)) ((p0_n).toNat) ((p0_n).toNat)), (Value.slice (some (Addr.mk r263 0 none)) ((p0_n).toNat) ((p0_n).toNat)), (Value.slice (some (Addr.mk r261 0 none)) ((p0_n).toNat) ((p0_n).toNat)), (Value.slice (some (Addr.mk r245 0 none)) ((p0_n).toNat) ((p0_n).toNat))]) fun h265 =>
 ∃ x266 : SV, H.rd h265 (Addr.add (Addr.mk r1 0 none) 0) (Value.slice x266.a x266.len x266.cap) ∧
 ∃ x267 : Int, H.rd h265 (Addr.add (Addr.mk r1 0 none) 1) (Value.int .i64 x267) ∧
 ∃ x268 : Int, H.rd h265 (Addr.add (Addr.mk r1 0 none) 2) (Value.int .i64 x268) ∧
 ∃ x269 : SV, H.rd h265 (Addr.add (Addr.mk r1 0 none) 3) (Value.slice x269.a x269.len x269.cap) ∧
 ∃ x270 : SV, H.rd h265 (Addr.add (Addr.mk r1 0 none) 4) (Value.slice x270.a x270.len x270.cap) ∧
 ∃ x271 : SV, H.rd h265 (Addr.add (Addr.mk r1 0 none) 5) (Value.slice x271.a x271.len x271.cap) ∧
 ∃ x272 : SV, H.rd h265 (Addr.add (Addr.mk r1 0 none) 6) (Value.slice x272.a x272.len x272.cap) ∧
 VRet h265 (Value.agg (List.toArray [(Value.slice x266.a x266.len x266.cap), (Value.int .i64 x267), (Value.int .i64 x268), (Value.slice x269.a x269.len x269.cap), (Value.slice x270.a x270.len x270.cap), (Value.slice x271.a x271.len x271.cap), (Value.slice x272.a x272.len x272.cap)])) post)) ∧
 (
 (
 0 ≤ p0_n ∧ p0_n ≤ p0_n ∧ ((8 : Nat) : Int) * p0_n ≤ 140737488355328 ∧ p0_n ≤ 1000000000 ∧
 H.new h246 (repl (p0_n).toNat [(Value.int .i64 0)]) fun r273 h274 =>
 (
 0 ≤ p0_n ∧ p0_n ≤ p0_n ∧ ((8 : Nat) : Int) * p0_n ≤ 140737488355328 ∧ p0_n ≤ 1000000000 ∧
 H.new h274 (repl (p0_n).toNat [(Value.int .i64 0)]) fun r275 h276 =>
 0 ≤ p0_n ∧ p0_n ≤ p0_n ∧ ((8 : Nat) : Int) * p0_n ≤ 140737488355328 ∧ p0_n ≤ 1000000000 ∧
 H.new h276 (repl (p0_n).toNat [(Value.int .i64 0)]) fun r277 h278 =>
 ([(Value.slice (some (Addr.mk r3 0 none)) (((8 : Int)).toNat) (((8 : Int)).toNat)), (Value.int .i64 0), (Value.int .i64 0), (Value.slice (some (Addr.mk r275 0 none)) ((p0_n).toNat) ((p0_n).toNat)), (Value.slice (some (Addr.mk r273 0 none)) ((p0_n).toNat) ((p0_n).toNat)), (Value.slice (some (Addr.mk r277 0 none)) ((p0_n).toNat) ((p0_n).toNat)), (Value.slice (some (Addr.mk r245 0 none)) ((p0_n).toNat) ((p0_n).toNat))]).length = 7 ∧ (Program.underlying Go.Proofs.Tryd.prog 49).isSome = true ∧
 H.wr h278 (Addr.mk r1 0 none) ([(Value.slice (some (Addr.mk r3 0 none)) (((8 : Int)).toNat) (((8 : Int)).toNat)), (Value.int .i64 0), (Value.int .i64 0), (Value.slice (some (Addr.mk r275 0 none)) ((p0_n).toNat) ((p0_n).toNat)), (Value.slice (some (Addr.mk r273 0 none)) ((p0_n).toNat) ((p0_n).toNat)), (Value.slice (some (Addr.mk r277 0 none)) ((p0_n).toNat) ((p0_n).toNat)), (Value.slice (some (Addr.mk r245 0 none)) ((p0_n).toNat) ((p0_n).toNat))]) fun h279 =>
 ∃ x280 : SV, H.rd h279 (Addr.add (Addr.mk r1 0 none) 0) (Value.slice x280.a x280.len x280.cap) ∧
 ∃ x281 : Int, H.rd h279 (Addr.add (Addr.mk r1 0 none) 1) (Value.int .i64 x281) ∧
 ∃ x282 : Int, H.rd h279 (Addr.add (Addr.mk r1 0 none) 2) (Value.int .i64 x282) ∧
 ∃ x283 : SV, H.rd h279 (Addr.add (Addr.mk r1 0 none) 3) (Value.slice x283.a x283.len x283.cap) ∧
 ∃ x284 : SV, H.rd h279 (Addr.add (Addr.mk r1 0 none) 4) (Value.slice x284.a x284.len x284.cap) ∧
 ∃ x285 : SV, H.rd h279 (Addr.add (Addr.mk r1 0 none) 5) (Value.slice x285.a x285.len x285.cap) ∧
 ∃ x286 : SV, H.rd h279 (Addr.add (Addr.mk r1 0 none) 6) (Value.slice x286.a x286.len x286.cap) ∧
 VRet h279 (Value.agg (List.toArray [(Value.slice x280.a x280.len x280.cap), (Value.int .i64 x281), (Value.int .i64 x282), (Value.slice x283.a x283.len x283.cap), (Value.slice x284.a x284.len x284.cap), (Value.slice x285.a x285.len x285.cap), (Value.slice x286.a x286.len x286.cap)])) post) ∧
 (
 0 ≤ p0_n ∧ p0_n ≤ p0_n ∧ ((8 : Nat) : Int) * p0_n ≤ 140737488355328 ∧ p0_n ≤ 1000000000 ∧
 H.new h274 (repl (p0_n).toNat [(Value.int .i64 0)]) fun r287 h288 =>
 0 ≤ p0_n ∧ p0_n ≤ p0_n ∧ ((8 : Nat) : Int) * p0_n ≤ 140737488355328 ∧ p0_n ≤ 1000000000 ∧
 H.new h288 (repl (p0_n).toNat [(Value.int .i64 0)]) fun r289 h290 =>
 ([(Value.slice (some (Addr.mk r3 0 none)) (((8 : Int)).toNat) (((8 : Int)).toNat)), (Value.int .i64 0), (Value.int .i64 0), (Value.slice (some (Addr.mk r289 0 none)) ((p0_n).toNat) ((p0_n).toNat)), (Value.slice (some (Addr.mk r273 0 none)) ((p0_n).toNat) ((p0_n).toNat)), (Value.slice (some (Addr.mk r287 0 none)) ((p0_n).toNat) ((p0_n).toNat)), (Value.slice (some (Addr.mk r245 0 none)) ((p0_n).toNat) ((p0_n).toNat))]).length = 7 ∧ (Program.underlying Go.Proofs.Tryd.prog 49).isSome = true ∧
 H.wr h290 (Addr.mk r1 0 none) ([(Value.slice (some (Addr.mk r3 0 none)) (((8 : Int)).toNat) (((8 : Int)).toNat)), (Value.int .i64 0), (Value.int .i64 0), (Value.slice (some (Addr.mk r289 0 none)) ((p0_n).toNat) ((p0_n).toNat)), (Value.slice (some (Addr.mk r273 0 none)) ((p0_n).toNat) ((p0_n).toNat)), (Value.slice (some (Addr.mk r287 0 none)) ((p0_n).toNat) ((p0_n).toNat)), (Value.slice (some (Addr.mk r245 0 none)) ((p0_n).toNat) ((p0_n).toNat))]) fun h291 =>
 ∃ x292 : SV, H.rd h291 (Addr.add (Addr.mk r1 0 none) 0) (Value.slice x292.a x292.len x292.cap) ∧
 ∃ x293 : Int, H.rd h291 (Addr.add (Addr.mk r1 0 none) 1) (Value.int .i64 x293) ∧
 ∃ x294 : Int, H.rd h291 (Addr.add (Addr.mk r1 0 none) 2) (Value.int .i64 x294) ∧
 ∃ x295 : SV, H.rd h291 (Addr.add (Addr.mk r1 0 none) 3) (Value.slice x295.a x295.len x295.cap) ∧
 ∃ x296 : SV, H.rd h291 (Addr.add (Addr.mk r1 0 none) 4) (Value.slice x296.a x296.len x296.cap) ∧
 ∃ x297 : SV, H.rd h291 (Addr.add (Addr.mk r1 0 none) 5) (Value.slice x297.a x297.len x297.cap) ∧
 ∃ x298 : SV, H.rd h291 (Addr.add (Addr.mk r1 0 none) 6) (Value.slice x298.a x298.len x298.cap) ∧
 VRet h291 (Value.agg (List.toArray [(Value.slice x292.a x292.len x292.cap), (Value.int .i64 x293), (Value.int .i64 x294), (Value.slice x295.a x295.len x295.cap), (Value.slice x296.a x296.len x296.cap), (Value.slice x297.a x297.len x297.cap), (Value.slice x298.a x298.len x298.cap)])) post)) ∧
 (
 0 ≤ p0_n ∧ p0_n ≤ p0_n ∧ ((8 : Nat) : Int) * p0_n ≤ 140737488355328 ∧ p0_n ≤ 1000000000 ∧
 H.new h246 (repl (p0_n).toNat [(Value.int .i64 0)]) fun r299 h300 =>
 (
 0 ≤ p0_n ∧ p0_n ≤ p0_n ∧ ((8 : Nat) : Int) * p0_n ≤ 140737488355328 ∧ p0_n ≤ 1000000000 ∧
 H.new h300 (repl (p0_n).toNat [(Value.int .i64 0)]) fun r301 h302 =>
 0 ≤ p0_n ∧ p0_n ≤ p0_n ∧ ((8 : Nat) : Int) * p0_n ≤ 140737488355328 ∧ p0_n ≤ 1000000000 ∧
 H.new h302 (repl (p0_n).toNat [(Value.int .i64 0)]) fun r303 h304 =>
 ([(Value.slice (some (Addr.mk r3 0 none)) (((8 : Int)).toNat) (((8 : Int)).toNat)), (Value.int .i64 0), (Value.int .i64 0), (Value.slice (some (Addr.mk r301 0 none)) ((p0_n).toNat) ((p0_n).toNat)), (Value.slice (some (Addr.mk r303 0 none)) ((p0_n).toNat) ((p0_n).toNat)), (Value.slice (some (Addr.mk r299 0 none)) ((p0_n).toNat) ((p0_n).toNat)), (Value.slice (some (Addr.mk r245 0 none)) ((p0_n).toNat) ((p0_n).toNat))]).length = 7 ∧ (Program.underlying Go.Proofs.Tryd.prog 49).isSome = true ∧
 H.wr h304 (Addr.mk r1 0 none) ([(Value.slice (some (Addr.mk r3 0 none)) (((8 : Int)).toNat) (((8 : Int)).toNat)), (Value.int .i64 0), (Value.int .i64 0), (Value.slice (some (Addr.mk r301 0 none)) ((p0_n).toNat) ((p0_n).toNat)), (Value.slice (some (Addr.mk r303 0 none)) ((p0_n).toNat) ((p0_n).toNat)), (Value.slice (some (Addr.mk r299 0 none)) ((p0_n).toNat) ((p0_n).toNat)), (Value.slice (some (Addr.mk r245 0 none)) ((p0_n).toNat) ((p0_n).toNat))]) fun h305 =>
 ∃ x306 : SV, H.rd h305 (Addr.add (Addr.mk r1 0 none) 0) (Value.slice x306.a x306.len x306.cap) ∧
 ∃ x307 : Int, H.rd h305 (Addr.add (Addr.mk r1 0 none) 1) (Value.int .i64 x307) ∧
 ∃ x308 : Int, H.rd h305 (Addr.add (Addr.mk r1 0 none) 2) (Value.int .i64 x308) ∧
 ∃ x309 : SV, H.rd h305 (Addr.add (Addr.mk r1 0 none) 3) (Value.slice x309.a x309.len x309.cap) ∧
 ∃ x310 : SV, H.rd h305 (Addr.add (Addr.mk r1 0 none) 4) (Value.slice x310.a x310.len x310.cap) ∧
 ∃ x311 : SV, H.rd h305 (Addr.add (Addr.mk r1 0 none) 5) (Value.slice x311.a x311.len x311.cap) ∧
 ∃ x312 : SV, H.rd h305 (Addr.add (Addr.mk r1 0 none) 6) (Value.slice x312.a x312.len x312.cap) ∧
 VRet h305 (Value.agg (List.toArray [(Value.slice x306.a x306.len x306.cap), (Value.int .i64 x307), (Value.int .i64 x308), (Value.slice x309.a x309.len x309.cap), (Value.slice x310.a x310.len x310.cap), (Value.slice x311.a x311.len x311.cap), (Value.slice x312.a x312.len x312.cap)])) post) ∧
 (
 0 ≤ p0_n ∧ p0_n ≤ p0_n ∧ ((8 : Nat) : Int) * p0_n ≤ 140737488355328 ∧ p0_n ≤ 1000000000 ∧
 H.new h300 (repl (p0_n).toNat [(Value.int .i64 0)]) fun r313 h314 =>
 0 ≤ p0_n ∧ p0_n ≤ p0_n ∧ ((8 : Nat) : Int) * p0_n ≤ 140737488355328 ∧ p0_n ≤ 1000000000 ∧
 H.new h314 (repl (p0_n).toNat [(Value.int .i64 0)]) fun r315 h316 =>
 ([(Value.slice (some (Addr.mk r3 0 none)) (((8 : Int)).toNat) (((8 : Int)).toNat)), (Value.int .i64 0), (Value.int .i64 0), (Value.slice (some (Addr.mk r315 0 none)) ((p0_n).toNat) ((p0_n).toNat)), (Value.slice (some (Addr.mk r313 0 none)) ((p0_n).toNat) ((p0_n).toNat)), (Value.slice (some (Addr.mk r299 0 none)) ((p0_n).toNat) ((p0_n).toNat)), (Value.slice (some (Addr.mk r245 0 none)) ((p0_n).toNat) ((p0_n).toNat))]).length = 7 ∧ (Program.underlying Go.Proofs.Tryd.prog 49).isSome = true ∧
 H.wr h316 (Addr.mk r1 0 none) ([(Value.slice (some (Addr.mk r3 0 none)) (((8 : Int)).toNat) (((8 : Int)).toNat)), (Value.int .i64 0), (Value.int .i64 0), (Value.slice (some (Addr.mk r315 0 none)) ((p0_n).toNat) ((p0_n).toNat)), (Value.slice (some (Addr.mk r313 0 none)) ((p0_n).toNat) ((p0_n).toNat)), (Value.slice (some (Addr.mk r299 0 none)) ((p0_n).toNat) ((p0_n).toNat)), (Value.slice (some (Addr.mk r245 0 none)) ((p0_n).toNat) ((p0_n).toNat))]) fun h317 =>
 ∃ x318 : SV, H.rd h317 (Addr.add (Addr.mk r1 0 none) 0) (Value.slice x318.a x318.len x318.cap) ∧
 ∃ x319 : Int, H.rd h317 (Addr.add (Addr.mk r1 0 none) 1) (Value.int .i64 x319) ∧
 ∃ x320 : Int, H.rd h317 (Addr.add (Addr.mk r1 0 none) 2) (Value.int .i64 x320) ∧
 ∃ x321 : SV, H.rd h317 (Addr.add (Addr.mk r1 0 none) 3) (Value.slice x321.a x321.len x321.cap) ∧
 ∃ x322 : SV, H.rd h317 (Addr.add (Addr.mk r1 0 none) 4) (Value.slice x322.a x322.len x322.cap) ∧
 ∃ x323 : SV, H.rd h317 (Addr.add (Addr.mk r1 0 none) 5) (Value.slice x323.a x323.len x323.cap) ∧
 ∃ x324 : SV, H.rd h317 (Addr.add (Addr.mk r1 0 none) 6) (Value.slice x324.a x324.len x324.cap) ∧
 VRet h317 (Value.agg (List.toArray [(Value.slice x318.a x318.len x318.cap), (Value.int .i64 x319), (Value.int .i64 x320), (Value.slice x321.a x321.len x321.cap), (Value.slice x322.a x322.len x322.cap), (Value.slice x323.a x323.len x323.cap), (Value.slice x324.a x324.len x324.cap)])) post))))))) ∧
 (
 (
 0 ≤ p0_n ∧ p0_n ≤ p0_n ∧ ((8 : Nat) : Int) * p0_n ≤ 140737488355328 ∧ p0_n ≤ 1000000000 ∧
 H.new h2 (repl (p0_n).toNat [(Value.int .i64 0)]) fun r325 h326 =>
 (
 0 ≤ (8 : Int) ∧ (8 : Int) ≤ (8 : Int) ∧ ((8 : Nat) : Int) * (8 : Int) ≤ 140737488355328 ∧ (8 : Int) ≤ 1000000000 ∧
 H.new h326 (repl ((8 : Int)).toNat [(Value.int .i64 0)]) fun r327 h328 =>
 (
 0 ≤ p0_n ∧ p0_n ≤ p0_n ∧ ((8 : Nat) : Int) * p0_n ≤ 140737488355328 ∧ p0_n ≤ 1000000000 ∧
 H.new h328 (repl (p0_n).toNat [(Value.int .i64 0)]) fun r329 h330 =>
 (
 0 ≤ p0_n ∧ p0_n ≤ p0_n ∧ ((8 : Nat) : Int) * p0_n ≤ 140737488355328 ∧ p0_n ≤ 1000000000 ∧
 H.new h330 (repl (p0_n).toNat [(Value.int .i64 0)]) fun r331 h332 =>
 0 ≤ p0_n ∧ p0_n ≤ p0_n ∧ ((8 : Nat) : Int) * p0_n ≤ 140737488355328 ∧ p0_n ≤ 1000000000 ∧
 H.new h332 (repl (p0_n).toNat [(Value.int .i64 0)]) fun r333 h334 =>
 ([(Value.slice (some (Addr.mk r327 0 none)) (((8 : Int)).toNat) (((8 : Int)).toNat)), (Value.int .i64 0), (Value.int .i64 0), (Value.slice (some (Addr.mk r325 0 none)) ((p0_n).toNat) ((p0_n).toNat)), (Value.slice (some (Addr.mk r329 0 none)) ((p0_n).toNat) ((p0_n).toNat)), (Value.slice (some (Addr.mk r331 0 none)) ((p0_n).toNat) ((p0_n).toNat)), (Value.slice (some (Addr.mk r333 0 none)) ((p0_n).toNat) ((p0_n).toNat))]).length = 7 ∧ (Program.underlying Go.Proofs.Tryd.prog 49).isSome = true ∧
 H.wr h334 (Addr.mk r1 0 none) ([(Value.slice (some (Addr.mk r327 0 none)) (((8 : Int)).toNat) (((8 : Int)).toNat)), (Value.int .i64 0), (Value.int .i64 0), (Value.slice (some (Addr.mk r325 0 none)) ((p0_n).toNat) ((p0_n).toNat)), (Value.slice (some (Addr.mk r329 0 none)) ((p0_n).toNat) ((p0_n).toNat)), (Value.slice (some (Addr.mk r331 0 none)) ((p0_n).toNat) ((p0_n).toNat)), (Value.slice (some (Addr.mk r333 0 none)) ((p0_n).toNat) ((p0_n).toNat))]) fun h335 =>
 ∃ x336 : SV, H.rd h335 (Addr.add (Addr.mk r1 0 none) 0) (Value.slice x336.a x336.len x336.cap) ∧
 ∃ x337 : Int, H.rd h335 (Addr.add (Addr.mk r1 0 none) 1) (Value.int .i64 x337) ∧
 ∃ x338 : Int, H.rd h335 (Addr.add (Addr.mk r1 0 none) 2) (Value.int .i64 x338) ∧
 ∃ x339 : SV, H.rd h335 (Addr.add (Addr.mk r1 0 none) 3) (Value.slice x339.a x339.len x339.cap) ∧
 ∃ x340 : SV, H.rd h335 (Addr.add (Addr.mk r1 0 none) 4) (Value.slice x340.a x340.len x340.cap) ∧
 ∃ x341 : SV, H.rd h335 (Addr.add (Addr.mk r1 0 none) 5) (Value.slice x341.a x341.len x341.cap) ∧
 ∃ x342 : SV, H.rd h335 (Addr.add (Addr.mk r1 0 none) 6) (Value.slice x342.a x342.len x342.cap) ∧
 VRet h335 (Value.agg (List.toArray [(Value.slice x336.a x336.len x336.cap), (Value.int .i64 x337), (Value.int .i64 x338), (Value.slice x339.a x339.len x339.cap), (Value.slice x340.a x340.len x340.cap), (Value.slice x341.a x341.len x341.cap), (Value.slice x342.a x342.len x342.cap)])) post) ∧
 (
 0 ≤ p0_n ∧ p0_n ≤ p0_n ∧ ((8 : Nat) : Int) * p0_n ≤ 140737488355328 ∧ p0_n ≤ 1000000000 ∧
 H.new h330 (repl (p0_n).toNat [(Value.int .i64 0)]) fun r343 h344 =>
 0 ≤ p0_n ∧ p0_n ≤ p0_n ∧ ((8 : Nat) : Int) * p0_n ≤ 140737488355328 ∧ p0_n ≤ 1000000000 ∧
 H.new h344 (repl (p0_n).toNat [(Value.int .i64 0)]) fun r345 h346 =>
 ([(Value.slice (some (Addr.mk r327 0 none)) (((8 : Int)).toNat) (((8 : Int)).toNat)), (Value.int .i64 0), (Value.int .i64 0), (Value.slice (some (Addr.mk r325 0 none)) ((p0_n).toNat) ((p0_n).toNat)), (Value.slice (some (Addr.mk r329 0 none)) ((p0_n).toNat) ((p0_n).toNat)), (Value.slice (some (Addr.mk r345 0 none)) ((p0_n).toNat) ((p0_n).toNat)), (Value.slice (some (Addr.mk r343 0 none)) ((p0_n).toNat) ((p0_n).toNat))]).length = 7 ∧ (Program.underlying Go.Proofs.Tryd.prog 49).isSome = true ∧
 H.wr h346 (Addr.mk r1 0 none) ([(Value.slice (some (Addr.mk r327 0 none)) (((8 : Int)).toNat) (((8 : Int)).toNat)), (Value.int .i64 0), (Value.int .i64 0), (Value.slice (some (Addr.mk r325 0 none)) ((p0_n).toNat) ((p0_n).toNat)), (Value.slice (some (Addr.mk r329 0 none)) ((p0_n).toNat) ((p0_n).toNat)), (Value.slice (some (Addr.mk r345 0 none)) ((p0_n).toNat) ((p0_n).toNat)), (Value.slice (some (Addr.mk r343 0 none)) ((p0_n).toNat) ((p0_n).toNat))]) fun h347 =>
 ∃ x348 : SV, H.rd h347 (Addr.add (Addr.mk r1 0 none) 0) (Value.slice x348.a x348.len x348.cap) ∧
 ∃ x349 : Int, H.rd h347 (Addr.add (Addr.mk r1 0 none) 1) (Value.int .i64 x349) ∧
 ∃ x350 : Int, H.rd h347 (Addr.add (Addr.mk r1 0 none) 2) (Value.int .i64 x350) ∧
 ∃ x351 : SV, H.rd h347 (Addr.add (Addr.mk r1 0 none) 3) (Value.slice x351.a x351.len x351.cap) ∧
 ∃ x352 : SV, H.rd h347 (Addr.add (Addr.mk r1 0 none) 4) (Value.slice x352.a x352.len x352.cap) ∧
 ∃ x353 : SV, H.rd h347 (Addr.add (Addr.mk r1 0 none) 5) (Value.slice x353.a x353.len x353.cap) ∧
 ∃ x354 : SV, H.rd h347 (Addr.add (Addr.mk r1 0 none) 6) (Value.slice x354.a x354.len x354.cap) ∧
 VRet h347 (Value.agg (List.toArray [(Value.slice x348.a x348.len x348.cap), (Value.int .i64 x349), (Value.int .i64 x350), (Value.slice x351.a x351.len x351.cap), (Value.slice x352.a x352.len x352.cap), (Value.slice x353.a x353.len x353.cap), (Value.slice x354.a x354.len x354.cap)])) post)) ∧
 (
 (
 0 ≤ p0_n ∧ p0_n ≤ p0_n ∧ ((8 : Nat) : Int) * p0_n ≤ 140737488355328 ∧ p0_n ≤ 1000000000 ∧
 H.new h328 (repl (p0_n).toNat [(Value.int .i64 0)]) fun r355 h356 =>
 (
 0 ≤ p0_n ∧ p0_n ≤ p0_n ∧ ((8 : Nat) : Int) * p0_n ≤ 140737488355328 ∧ p0_n ≤ 1000000000 ∧
 H.new h356 (repl (p0_n).toNat [(Value.int .i64 0)]) fun r357 h358 =>
 0 ≤ p0_n ∧ p0_n ≤ p0_n ∧ ((8 : Nat) : Int) * p0_n ≤ 140737488355328 ∧ p0_n ≤ 1000000000 ∧
 H.new h358 (repl (p0_n).toNat [(Value.int .i64 0)]) fun r359 h360 =>
 ([(Value.slice (some (Addr.mk r327 0 none)) (((8 : Int)).toNat) (((8 : Int)).toNat)), (Value.int .i64 0), (Value.int .i64 0), (Value.slice (some (Addr.mk r325 0 none)) ((p0_n).toNat) ((p0_n).toNat)), (Value.slice (some (Addr.mk r357 0 none)) ((p0_n).toNat) ((p0_n).toNat)), (Value.slice (some (Addr.mk r355 0 none)) ((p0_n).toNat) ((p0_n).toNat)), (Value.slice (some (Addr.mk r359 0 none)) ((p0_n).toNat) ((p0_n).toNat))]).length = 7 ∧ (Program.underlying Go.Proofs.Tryd.prog 49).isSome = true ∧
 H.wr h360 (Addr.mk r1 0 none) ([(Value.slice (some (Addr.mk r327 0 none)) (((8 : Int)).toNat) (((8 : Int)).toNat)), (Value.int .i64 0), (Value.int .i64 0), (Value.slice (some (Addr.mk r325 0 none)) ((p0_n).toNat) ((p0_n).toNat)), (Value.slice (some (Addr.mk r357 0 none)) ((p0_n).toNat) ((p0_n).toNat)), (Value.slice (some (Addr.mk r355 0 none)) ((p0_n).toNat) ((p0_n).toNat)), (Value.slice (some (Addr.mk r359 0 none)) ((p0_n).toNat) ((p0_n).toNat))]) fun h361 =>
 ∃ x362 : SV, H.rd h361 (Addr.add (Addr.mk r1 0 none) 0) (Value.slice x362.a x362.len x362.cap) ∧
 ∃ x363 : Int, H.rd h361 (Addr.add (Addr.mk r1 0 none) 1) (Value.int .i64 x363) ∧
 ∃ x364 : Int, H.rd h361 (Addr.add (Addr.mk r1 0 none) 2) (Value.int .i64 x364) ∧
 ∃ x365 : SV, H.rd h361 (Addr.add (Addr.mk r1 0 none) 3) (Value.slice x365.a x365.len x365.cap) ∧
 ∃ x366 : SV, H.rd h361 (Addr.add (Addr.mk r1 0 none) 4) (Value.slice x366.a x366.len x366.cap) ∧
 ∃ x367 : SV, H.rd h361 (Addr.add (Addr.mk r1 0 none) 5) (Value.slice x367.a x367.len x367.cap) ∧
 ∃ x368 : SV, H.rd h361 (Addr.add (Addr.mk r1 0 none) 6) (Value.slice x368.a x368.len x368.cap) ∧
 VRet h361 (Value.agg (List.toArray [(Value.slice x362.a x362.len x362.cap), (Value.int .i64 x363), (Value.int .i64 x364), (Value.slice x365.a x365.len x365.cap), (Value.slice x366.a x366.len x366.cap), (Value.slice x367.a x367.len x367.cap), (Value.slice x368.a x368.len x368.cap)])) post) ∧
 (
 0 ≤ p0_n ∧ p0_n ≤ p0_n ∧ ((8 : Nat) : Int) * p0_n ≤ 140737488355328 ∧ p0_n ≤ 1000000000 ∧
 H.new h356 (repl (p0_n).toNat [(Value.int .i64 0)]) fun r369 h370 =>
 0 ≤ p0_n ∧ p0_n ≤ p0_n ∧ ((8 : Nat) : Int) * p0_n ≤ 140737488355328 ∧ p0_n ≤ 1000000000 ∧
 H.new h370 (repl (p0_n).toNat [(Value.int .i64 0)]) fun r371 h372 =>
 ([(Value.slice (some (Addr.mk r327 0 none)) (((8 : Int)).toNat) (((8 : Int)).toNat)), (Value.int .i64 0), (Value.int .i64 0), (Value.slice (some (Addr.mk r325 0 none)) ((p0_n).toNat) ((p0_n).toNat)), (Value.slice (some (Addr.mk r371 0 none)) ((p0_n).toNat) ((p0_n).toNat)), (Value.slice (some (Addr.mk r355 0 none)) ((p0_n).toNat) ((p0_n).toNat)), (Value.slice (some (Addr.mk r369 0 none)) ((p0_n).toNat) ((p0_n).toNat))]).length = 7 ∧ (Program.underlying Go.Proofs.Tryd.prog 49).isSome = true ∧
 H.wr h372 (Addr.mk r1 0 none) ([(Value.slice (some (Addr.mk r327 0 none)) (((8 : Int)).toNat) (((8 : Int)).toNat)), (Value.int .i64 0), (Value.int .i64 0), (Value.slice (some (Addr.mk r325 0 none)) ((p0_n).toNat) ((p0_n).toNat)), (Value.slice (some (Addr.mk r371 0 none)) ((p0_n).toNat) ((p0_n).toNat)), (Value.slice (some (Addr.mk r355 0 none)) ((p0_n).toNat) ((p0_n).toNat)), (Value.slice (some (Addr.mk r369 0 none)) ((p0_n).toNat) ((p0_n).toNat))]) fun h373 =>
 ∃ x374 : SV, H.rd h373 (Addr.add (Addr.mk r1 0 none) 0) (Value.slice x374.a x374.len x374.cap) ∧
 ∃ x375 : Int, H.rd h373 (Addr.add (Addr.mk r1 0 none) 1) (Value.int .i64 x375) ∧
 ∃ x376 : Int, H.rd h373 (Addr.add (Addr.mk r1 0 none) 2) (Value.int .i64 x376) ∧
 ∃ x377 : SV, H.rd h373 (Addr.add (Addr.mk r1 0 none) 3) (Value.slice x377.a x377.len x377.cap) ∧
 ∃ x378 : SV, H.rd h373 (Addr.add (Addr.mk r1 0 none) 4) (Value.slice x378.a x378.len x378.cap) ∧
 ∃ x379 : SV, H.rd h373 (Addr.add (Addr.mk r1 0 none) 5) (Value.slice x379.a x379.len x379.cap) ∧
 ∃ x380 : SV, H.rd h373 (Addr.add (Addr.mk r1 0 none) 6) (Value.slice x380.a x380.len x380.cap) ∧
 VRet h373 (Value.agg (List.toArray [(Value.slice x374.a x374.len x374.cap), (Value.int .i64 x375), (Value.int .i64 x376), (Value.slice x377.a x377.len x377.cap), (Value.slice x378.a x378.len x378.cap), (Value.slice x379.a x379.len x379.cap), (Value.slice x380.a x380.len x380.cap)])) post)) ∧
 (
 0 ≤ p0_n ∧ p0_n ≤ p0_n ∧ ((8 : Nat) : Int) * p0_n ≤ 140737488355328 ∧ p0_n ≤ 1000000000 ∧
 H.new h328 (repl (p0_n).toNat [(Value.int .i64 0)]) fun r381 h382 =>
 (
 0 ≤ p0_n ∧ p0_n ≤ p0_n ∧ ((8 : Nat) : Int) * p0_n ≤ 140737488355328 ∧ p0_n ≤ 1000000000 ∧
 H.new h382 (repl (p0_n).toNat [(Value.int .i64 0)]) fun r383 h384 =>
 0 ≤ p0_n ∧ p0_n ≤ p0_n ∧ ((8 : Nat) : Int) * p0_n ≤ 140737488355328 ∧ p0_n ≤ 1000000000 ∧
 H.new h384 (repl (p0_n).toNat [(Value.int .i64 0)]) fun r385 h386 =>
 ([(Value.slice (some (Addr.mk r327 0 none)) (((8 : Int)).toNat) (((8 : Int)).toNat)), (Value.int .i64 0), (Value.int .i64 0), (Value.slice (some (Addr.mk r325 0 none)) ((p0_n).toNat) ((p0_n).toNat)), (Value.slice (some (Addr.mk r383 0 none)) ((p0_n).toNat) ((p0_n).toNat)), (Value.slice (some (Addr.mk r385 0 none)) ((p0_n).toNat) ((p0_n).toNat)), (Value.slice (some (Addr.mk r381 0 none)) ((p0_n).toNat) ((p0_n).toNat))]).length = 7 ∧ (Program.underlying Go.Proofs.Tryd.prog 49).isSome = true ∧
 H.wr h386 (Addr.mk r1 0 none) ([(Value.slice (some (Addr.mk r327 0 none)) (((8 : Int)).toNat) (((8 : Int)).toNat)), (Value.int .i64 0), (Value.int .i64 0), (Value.slice (some (Addr.mk r325 0 none)) ((p0_n).toNat) ((p0_n).toNat)), (Value.slice (some (Addr.mk r383 0 none)) ((p0_n).toNat) ((p0_n).toNat)), (Value.slice (some (Addr.mk r385 0 none)) ((p0_n).toNat) ((p0_n).toNat)), (Value.slice (some (Addr.mk r381 0 none)) ((p0_n).toNat) ((p0_n).toNat))]) fun h387 =>
 ∃ x388 : SV, H.rd h387 (Addr.add (Addr.mk r1 0 none) 0) (Value.slice x388.a x388.len x388.cap) ∧
 ∃ x389 : Int, H.rd h387 (Addr.add (Addr.mk r1 0 none) 1) (Value.int .i64 x389) ∧
 ∃ x390 : Int, H.rd h387 (Addr.add (Addr.mk r1 0 none) 2) (Value.int .i64 x390) ∧
 ∃ x391 : SV, H.rd h387 (Addr.add (Addr.mk r1 0 none) 3) (Value.slice x391.a x391.len x391.cap) ∧
 ∃ x392 : SV, H.rd h387 (Addr.add (Addr.mk r1 0 none) 4) (Value.slice x392.a x392.len x392.cap) ∧
 ∃ x393 : SV, H.rd h387 (Addr.add (Addr.mk r1 0 none) 5) (Value.slice x393.a x393.len x393.cap) ∧
 ∃ x394 : SV, H.rd h387 (Addr.add (Addr.mk r1 0 none) 6) (Value.slice x394.a x394.len x394.cap) ∧
 VRet h387 (Value.agg (List.toArray [(Value.slice x388.a x388.len x388.cap), (Value.int .i64 x389), (Value.int .i64 x390), (Value.slice x391.a x391.len x391.cap), (Value.slice x392.a x392.len x392.cap), (Value.slice x393.a x393.len x393.cap), (Value.slice x394.a x394.len x394.cap)])) post) ∧
 (
 0 ≤ p0_n ∧ p0_n ≤ p0_n ∧ ((8 : Nat) : Int) * p0_n ≤ 140737488355328 ∧ p0_n ≤ 1000000000 ∧
 H.new h382 (repl (p0_n).toNat [(Value.int .i64 0)]) fun r395 h396 =>
 0 ≤ p0_n ∧ p0_n ≤ p0_n ∧ ((8 : Nat) : Int) * p0_n ≤ 140737488355328 ∧ p0_n ≤ 1000000000 ∧
 H.new h396 (repl (p0_n).toNat [(Value.int .i64 0)]) fun r397 h398 =>
 ([(Value.slice (some (Addr.mk r327 0 none)) (((8 : Int)).toNat) (((8 : Int)).toNat)), (Value.int .i64 0), (Value.int .i64 0), (Value.slice (some (Addr.mk r325 0 none)) ((p0_n).toNat) ((p0_n).toNat)), (Value.slice (some (Addr.mk r397 0 none)) ((p0_n).toNat) ((p0_n).toNat)), (Value.slice (some (Addr.mk r395 0 none)) ((p0_n).toNat) ((p0_n).toNat)), (Value.slice (some (Addr.mk r381 0 none)) ((p0_n).toNat) ((p0_n).toNat))]).length = 7 ∧ (Program.underlying Go.Proofs.Tryd.prog 49).isSome = true ∧
 H.wr h398 (Addr.mk r1 0 none) ([(Value.slice (some (Addr.mk r327 0 none)) (((8 : Int)).toNat) (((8 : Int)).toNat)), (Value.int .i64 0), (Value.int .i64 0), (Value.slice (some (Addr.mk r325 0 none)) ((p0_n).toNat) ((p0_n).toNat)), (Value.slice (some (Addr.mk r397 0 none)) ((p0_n).toNat) ((p0_n).toNat)), (Value.slice (some (Addr.mk r395 0 none)) ((p0_n).toNat) ((p0_n).toNat)), (Value.slice (some (Addr.mk r381 0 none)) ((p0_n).toNat) ((p0_n).toNat))]) fun h399 =>
 ∃ x400 : SV, H.rd h399 (Addr.add (Addr.mk r1 0 none) 0) (Value.slice x400.a x400.len x400.cap) ∧
 ∃ x401 : Int, H.rd h399 (Addr.add (Addr.mk r1 0 none) 1) (Value.int .i64 x401) ∧
 ∃ x402 : Int, H.rd h399 (Addr.add (Addr.mk r1 0 none) 2) (Value.int .i64 x402) ∧
 ∃ x403 : SV, H.rd h399 (Addr.add (Addr.mk r1 0 none) 3) (Value.slice x403.a x403.len x403.cap) ∧
 ∃ x404 : SV, H.rd h399 (Addr.add (Addr.mk r1 0 none) 4) (Value.slice x404.a x404.len x404.cap) ∧
 ∃ x405 : SV, H.rd h399 (Addr.add (Addr.mk r1 0 none) 5) (Value.slice x405.a x405.len x405.cap) ∧
 ∃ x406 : SV, H.rd h399 (Addr.add (Addr.mk r1 0 none) 6) (Value.slice x406.a x406.len x406.cap) ∧
 VRet h399 (Value.agg (List.toArray [(Value.slice x400.a x400.len x400.cap), (Value.int .i64 x401), (Value.int .i64 x402), (Value.slice x403.a x403.len x403.cap), (Value.slice x404.a x404.len x404.cap), (Value.slice x405.a x405.len x405.cap), (Value.slice x406.a x406.len x406.cap)])) post)))) ∧
 (
 (
 0 ≤ p0_n ∧ p0_n ≤ p0_n ∧ ((8 : Nat) : Int) * p0_n ≤ 140737488355328 ∧ p0_n ≤ 1000000000 ∧
 H.new h326 (repl (p0_n).toNat [(Value.int .i64 0)]) fun r407 h408 =>
 (
 0 ≤ (8 : Int) ∧ (8 : Int) ≤ (8 : Int) ∧ ((8 : Nat) : Int) * (8 : Int) ≤ 140737488355328 ∧ (8 : Int) ≤ 1000000000 ∧
 H.new h408 (repl ((8 : Int)).toNat [(Value.int .i64 0)]) fun r409 h410 =>
 (
 0 ≤ p0_n ∧ p0_n ≤ p0_n ∧ ((8 : Nat) : Int) * p0_n ≤ 140737488355328 ∧ p0_n ≤ 1000000000 ∧
 H.new h410 (repl (p0_n).toNat [(Value.int .i64 0)]) fun r411 h412 =>
 0 ≤ p0_n ∧ p0_n ≤ p0_n ∧ ((8 : Nat) : Int) * p0_n ≤ 140737488355328 ∧ p0_n ≤ 1000000000 ∧
 H.new h412 (repl (p0_n).toNat [(Value.int .i64 0)]) fun r413 h414 =>
 ([(Value.slice (some (Addr.mk r409 0 none)) (((8 : Int)).toNat) (((8 : Int)).toNat)), (Value.int .i64 0), (Value.int .i64 0), (Value.slice (some (Addr.mk r325 0 none)) ((p0_n).toNat) ((p0_n).toNat)), (Value.slice (some (Addr.mk r407 0 none)) ((p0_n).toNat) ((p0_n).toNat)), (Value.slice (some (Addr.mk r411 0 none)) ((p0_n).toNat) ((p0_n).toNat)), (Value.slice (some (Addr.mk r413 0 none)) ((p0_n).toNat) ((p0_n).toNat))]).length = 7 ∧ (Program.underlying Go.Proofs.Tryd.prog 49).isSome = true ∧
 H.wr h414 (Addr.mk r1 0 none) ([(Value.slice (some (Addr.mk r409 0 none)) (((8 : Int)).toNat) (((8 : Int)).toNat)), (Value.int .i64 0), (Value.int .i64 0), (Value.slice (some (Addr.mk r325 0 none)) ((p0_n).toNat) ((p0_n).toNat)), (Value.slice (some (Addr.mk r407 0 none)) ((p0_n).toNat) ((p0_n).toNat)), (Value.slice (some (Addr.mk r411 0 none)) ((p0_n).toNat) ((p0_n).toNat)), (Value.slice (some (Addr.mk r413 0 none)) ((p0_n).toNat) ((p0_n).toNat))]) fun h415 =>
 ∃ x416 : SV, H.rd h415 (Addr.add (Addr.mk r1 0 none) 0) (Value.slice x416.a x416.len x416.cap) ∧
 ∃ x417 : Int, H.rd h415 (Addr.add (Addr.mk r1 0 none) 1) (Value.int .i64 x417) ∧
 ∃ x418 : Int, H.rd h415 (Addr.add (Addr.mk r1 0 none) 2) (Value.int .i64 x418) ∧
 ∃ x419 : SV, H.rd h415 (Addr.add (Addr.mk r1 0 none) 3) (Value.slice x419.a x419.len x419.cap) ∧
 ∃ x420 : SV, H.rd h415 (Addr.add (Addr.mk r1 0 none) 4) (Value.slice x420.a x420.len x420.cap) ∧
 ∃ x421 : SV, H.rd h415 (Addr.add (Addr.mk r1 0 none) 5) (Value.slice x421.a x421.len x421.cap) ∧
 ∃ x422 : SV, H.rd h415 (Addr.add (Addr.mk r1 0 none) 6) (Value.slice x422.a x422.len x422.cap) ∧
 VRet h415 (Value.agg (List.toArray [(Value.slice x416.a x416.len x416.cap), (Value.int .i64 x417), (Value.int .i64 x418), (Value.slice x419.a x419.len x419.cap), (Value.slice x420.a x420.len x420.cap), (Value.slice x421.a x421.len x421.cap), (Value.slice x422.a x422.len x422.cap)])) post) ∧
 (
 0 ≤ p0_n ∧ p0_n ≤ p0_n ∧ ((8 : Nat) : Int) * p0_n ≤ 140737488355328 ∧ p0_n ≤ 1000000000 ∧
 H.new h410 (repl (p0_n).toNat [(Value.int .i64 0)]) fun r423 h424 =>
 0 ≤ p0_n ∧ p0_n ≤ p0_n ∧ ((8 : Nat) : Int) * p0_n ≤ 140737488355328 ∧ p0_n ≤ 1000000000 ∧
 H.new h424 (repl (p0_n).toNat [(Value.int .i64 0)]) fun r425 h426 =>
 ([(Value.slice (some (Addr.mk r409 0 none)) (((8 : Int)).toNat) (((8 : Int)).toNat)), (Value.int .i64 0), (Value.int .i64 0), (Value.slice (some (Addr.mk r325 0 none)) ((p0_n).toNat) ((p0_n).toNat)), (Value.slice (some (Addr.mk r407 0 none)) ((p0_n).toNat) ((p0_n).toNat)), (Value.slice (some (Addr.mk r425 0 none)) ((p0_n).toNat) ((p0_n).toNat)), (Value.slice (some (Addr.mk r423 0 none)) ((p0_n).toNat) ((p0_n).toNat))]).length = 7 ∧ (Program.underlying Go.Proofs.Tryd.prog 49).isSome = true ∧
 H.wr h426 (Addr.mk r1 0 none) ([(Value.slice (some (Addr.mk r409 0 none)) (((8 : Int)).toNat) (((8 : Int)).toNat)), (Value.int .i64 0), (Value.int .i64 0), (Value.slice (some (Addr.mk r325 0 none)) ((p0_n).toNat) ((p0_n).toNat)), (Value.slice (some (Addr.mk r407 0 none)) ((p0_n).toNat) ((p0_n).toNat)), (Value.slice (some (Addr.mk r425 0 none)) ((p0_n).toNat) ((p0_n).toNat)), (Value.slice (some (Addr.mk r423 0 none)) ((p0_n).toNat) ((p0_n).toNat))]) fun h427 =>
 ∃ x428 : SV, H.rd h427 (Addr.add (Addr.mk r1 0 none) 0) (Value.slice x428.a x428.len x428.cap) ∧
 ∃ x429 : Int, H.rd h427 (Addr.add (Addr.mk r1 0 none) 1) (Value.int .i64 x429) ∧
 ∃ x430 : Int, H.rd h427 (Addr.add (Addr.mk r1 0 none) 2) (Value.int .i64 x430) ∧
 ∃ x431 : SV, H.rd h427 (Addr.add (Addr.mk r1 0 none) 3) (Value.slice x431.a x431.len x431.cap) ∧
 ∃ x432 : SV, H.rd h427 (Addr.add (Addr.mk r1 0 none) 4) (Value.slice x432.a x432.len x432.cap) ∧
 ∃ x433 : SV, H.rd h427 (Addr.add (Addr.mk r1 0 none) 5) (Value.slice x433.a x433.len x433.cap) ∧
 ∃ x434 : SV, H.rd h427 (Addr.add (Addr.mk r1 0 none) 6) (Value.slice x434.a x434.len x434.cap) ∧
 VRet h427 (Value.agg (List.toArray [(Value.slice x428.a x428.len x428.cap), (Value.int .i64 x429), (Value.int .i64 x430), (Value.slice x431.a x431.len x431.cap), (Value.slice x432.a x432.len x432.cap), (Value.slice x433.a x433.len x433.cap), (Value.slice x434.a x434.len x434.cap)])) post)) ∧
 (
 (
 0 ≤ p0_n ∧ p0_n ≤ p0_n ∧ ((8 : Nat) : Int) * p0_n ≤ 140737488355328 ∧ p0_n ≤ 1000000000 ∧
 H.new h408 (repl (p0_n).toNat [(Value.int .i64 0)]) fun r435 h436 =>
 (
 0 ≤ (8 : Int) ∧ (8 : Int) ≤ (8 : Int) ∧ ((8 : Nat) : Int) * (8 : Int) ≤ 140737488355328 ∧ (8 : Int) ≤ 1000000000 ∧
 H.new h436 (repl ((8 : Int)).toNat [(Value.int .i64 0)]) fun r437 h438 =>
 0 ≤ p0_n ∧ p0_n ≤ p0_n ∧ ((8 : Nat) : Int) * p0_n ≤ 140737488355328 ∧ p0_n ≤ 1000000000 ∧
 H.new h438 (repl (p0_n).toNat [(Value.int .i64 0)]) fun r439 h440 =>
 ([(Value.slice (some (Addr.mk r437 0 none)) (((8 : Int)).toNat) (((8 : Int)).toNat)), (Value.int .i64 0), (Value.int .i64 0), (Value.slice (some (Addr.mk r325 0 none)) ((p0_n).toNat) ((p0_n).toNat)), (Value.slice (some (Addr.mk r407 0 none)) ((p0_n).toNat) ((p0_n).toNat)), (Value.slice (some (Addr.mk r435 0 none)) ((p0_n).toNat) ((p0_n).toNat)), (Value.slice (some (Addr.mk r439 0 none)) ((p0_n).toNat) ((p0_n).toNat))]).length = 7 ∧ (Program.underlying Go.Proofs.Tryd.prog 49).isSome = true ∧
 H.wr h440 (Addr.mk r1 0 none) ([(Value.slice (some (Addr.mk r437 0 none)) (((8 : Int)).toNat) (((8 : Int)).toNat)), (Value.int .i64 0), (Value.int .i64 0), (Value.slice (some (Addr.mk r325 0 none)) ((p0_n).toNat) ((p0_n).toNat)), (Value.slice (some (Addr.mk r407 0 none)) ((p0_n).toNat) ((p0_n).toNat)), (Value.slice (some (Addr.mk r435 0 none)) ((p0_n).toNat) ((p0_n).toNat)), (Value.slice (some (Addr.mk r439 0 none)) ((p0_n).toNat) ((p0_n).toNat))]) fun h441 =>
 ∃ x442 : SV, H.rd h441 (Addr.add (Addr.mk r1 0 none) 0) (Value.slice x442.a x442.len x442.cap) ∧
 ∃ x443 : Int, H.rd h441 (Addr.add (Addr.mk r1 0 none) 1) (Value.int .i64 x443) ∧
 ∃ x444 : Int, H.rd h441 (Addr.add (Addr.mk r1 0 none) 2) (Value.int .i64 x444) ∧
 ∃ x445 : SV, H.rd h441 (Addr.add (Addr.mk r1 0 none) 3) (Value.slice x445.a x445.len x445.cap) ∧
 ∃ x446 : SV, H.rd h441 (Addr.add (Addr.mk r1 0 none) 4) (Value.slice x446.a x446.len x446.cap) ∧
 ∃ x447 : SV, H.rd h441 (Addr.add (Addr.mk r1 0 none) 5) (Value.slice x447.a x447.len x447.cap) ∧
 ∃ x448 : SV, H.rd h441 (Addr.add (Addr.mk r1 0 none) 6) (Value.slice x448.a x448.len x448.cap) ∧
 VRet h441 (Value.agg (List.toArray [(Value.slice x442.a x442.len x442.cap), (Value.int .i64 x443), (Value.int .i64 x444), (Value.slice x445.a x445.len x445.cap), (Value.slice x446.a x446.len x446.cap), (Value.slice x447.a x447.len x447.cap), (Value.slice x448.a x448.len x448.cap)])) post) ∧
 (
 0 ≤ p0_n ∧ p0_n ≤ p0_n ∧ ((8 : Nat) : Int) * p0_n ≤ 140737488355328 ∧ p0_n ≤ 1000000000 ∧
 H.new h436 (repl (p0_n).toNat [(Value.int .i64 0)]) fun r449 h450 =>
 0 ≤ (8 : Int) ∧ (8 : Int) ≤ (8 : Int) ∧ ((8 : Nat) : Int) * (8 : Int) ≤ 140737488355328 ∧ (8 : Int) ≤ 1000000000 ∧
 H.new h450 (repl ((8 : Int)).toNat [(Value.int .i64 0)]) fun r451 h452 =>
 ([(Value.slice (some (Addr.mk r451 0 none)) (((8 : Int)).toNat) (((8 : Int)).toNat)), (Value.int .i64 0), (Value.int .i64 0), (Value.slice (some (Addr.mk r325 0 none)) ((p0_n).toNat) ((p0_n).toNat)), (Value.slice (some (Addr.mk r407 0 none)) ((p0_n).toNat) ((p0_n).toNat)), (Value.slice (some (Addr.mk r435 0 none)) ((p0_n).toNat) ((p0_n).toNat)), (Value.slice (some (Addr.mk r449 0 none)) ((p0_n).toNat) ((p0_n).toNat))]).length = 7 ∧ (Program.underlying Go.Proofs.Tryd.prog 49).isSome = true ∧
 H.wr h452 (Addr.mk r1 0 none) ([(Value.slice (some (Addr.mk r451 0 none)) (((8 : Int)).toNat) (((8 : Int)).toNat)), (Value.int .i64 0), (Value.int .i64 0), (Value.slice (some (Addr.mk r325 0 none)) ((p0_n).toNat) ((p0_n).toNat)), (Value.slice (some (Addr.mk r407 0 none)) ((p0_n).toNat) ((p0_n).toNat)), (Value.slice (some (Addr.mk r435 0 none)) ((p0_n).toNat) ((p0_n).toNat)), (Value.slice (some (Addr.mk r449 0 none)) ((p0_n).toNat) ((p0_n).toNat))]) fun h453 =>
 ∃ x454 : SV, H.rd h453 (Addr.add (Addr.mk r1 0 none) 0) (Value.slice x454.a x454.len x454.cap) ∧
 ∃ x455 : Int, H.rd h453 (Addr.add (Addr.mk r1 0 none) 1) (Value.int .i64 x455) ∧
 ∃ x456 : Int, H.rd h453 (Addr.add (Addr.mk r1 0 none) 2) (Value.int .i64 x456) ∧
 ∃ x457 : SV, H.rd h453 (Addr.add (Addr.mk r1 0 none) 3) (Value.slice x457.a x457.len x457.cap) ∧
 ∃ x458 : SV, H.rd h453 (Addr.add (Addr.mk r1 0 none) 4) (Value.slice x458.a x458.len x458.cap) ∧
 ∃ x459 : SV, H.rd h453 (Addr.add (Addr.mk r1 0 none) 5) (Value.slice x459.a x459.len x459.cap) ∧
 ∃ x460 : SV, H.rd h453 (Addr.add (Addr.mk r1 0 none) 6) (Value.slice x460.a x460.len x460.cap) ∧
 VRet h453 (Value.agg (List.toArray [(Value.slice x454.a x454.len x454.cap), (Value.int .i64 x455), (Value.int .i64 x456), (Value.slice x457.a x457.len x457.cap), (Value.slice x458.a x458.len x458.cap), (Value.slice x459.a x459.len x459.cap), (Value.slice x460.a x460.len x460.cap)])) post)) ∧
 (
 0 ≤ p0_n ∧ p0_n ≤ p0_n ∧ ((8 : Nat) : Int) * p0_n ≤ 140737488355328 ∧ p0_n ≤ 1000000000 ∧
 H.new h408 (repl (p0_n).toNat [(Value.int .i64 0)]) fun r461 h462 =>
 (
 0 ≤ (8 : Int) ∧ (8 : Int) ≤ (8 : Int) ∧ ((8 : Nat) : Int) * (8 : Int) ≤ 140737488355328 ∧ (8 : Int) ≤ 1000000000 ∧
 H.new h462 (repl ((8 : Int)).toNat [(Value.int .i64 0)]) fun r463 h464 =>
 0 ≤ p0_n ∧ p0_n ≤ p0_n ∧ ((8 : Nat) : Int) * p0_n ≤ 140737488355328 ∧ p0_n ≤ 1000000000 ∧
 H.new h464 (repl (p0_n).toNat [(Value.int .i64 0)]) fun r465 h466 =>
 ([(Value.slice (some (Addr.mk r463 0 none)) (((8 : Int)).toNat) (((8 : Int)).toNat)), (Value.int .i64 0), (Value.int .i64 0), (Value.slice (some (Addr.mk r325 0 none)) ((p0_n).toNat) ((p0_n).toNat)), (Value.slice (some (Addr.mk r407 0 none)) ((p0_n).toNat) ((p0_n).toNat)), (Value.slice (some (Addr.mk r465 0 none)) ((p0_n).toNat) ((p0_n).toNat)), (Value.slice (some (Addr.mk r461 0 none)) ((p0_n).toNat) ((p0_n).toNat))]).length = 7 ∧ (Program.underlying Go.Proofs.Tryd.prog 49).isSome = true ∧
 H.wr h466 (Addr.mk r1 0 none) ([(Value.slice (some (Addr.mk r463 0 none)) (((8 : Int)).toNat) (((8 : Int)).toNat)), (Value.int .i64 0), (Value.int .i64 0), (Value.slice (some (Addr.mk r325 0 none)) ((p0_n).toNat) ((p0_n).toNat)), (Value.slice (some (Addr.mk r407 0 none)) ((p0_n).toNat) ((p0_n).toNat)), (Value.slice (some (Addr.mk r465 0 none)) ((p0_n).toNat) ((p0_n).toNat)), (Value.slice (some (Addr.mk r461 0 none)) ((p0_n).toNat) ((p0_n).toNat))]) fun h467 =>
 ∃ x468 : SV, H.rd h467 (Addr.add (Addr.mk r1 0 none) 0) (Value.slice x468.a x468.len x468.cap) ∧
 ∃ x469 : Int, H.rd h467 (Addr.add (Addr.mk r1 0 none) 1) (Value.int .i64 x469) ∧
 ∃ x470 : Int, H.rd h467 (Addr.add (Addr.mk r1 0 none) 2) (Value.int .i64 x470) ∧
 ∃ x471 : SV, H.rd h467 (Addr.add (Addr.mk r1 0 none) 3) (Value.slice x471.a x471.len x471.cap) ∧
 ∃ x472 : SV, H.rd h467 (Addr.add (Addr.mk r1 0 none) 4) (Value.slice x472.a x472.len x472.cap) ∧
 ∃ x473 : SV, H.rd h467 (Addr.add (Addr.mk r1 0 none) 5) (Value.slice x473.a x473.len x473.cap) ∧
 ∃ x474 : SV, H.rd h467 (Addr.add (Addr.mk r1 0 none) 6) (Value.slice x474.a x474.len x474.cap) ∧
 VRet h467 (Value.agg (List.toArray [(Value.slice x468.a x468.len x468.cap), (Value.int .i64 x469), (Value.int .i64 x470), (Value.slice x471.a x471.len x471.cap), (Value.slice x472.a x472.len x472.cap), (Value.slice x473.a x473.len x473.cap), (Value.slice x474.a x474.len x474.cap)])) post) ∧
 (
 0 ≤ p0_n ∧ p0_n ≤ p0_n ∧ ((8 : Nat) : Int) * p0_n ≤ 140737488355328 ∧ p0_n ≤ 1000000000 ∧
 H.new h462 (repl (p0_n).toNat [(Value.int .i64 0)]) fun r475 h476 =>
 0 ≤ (8 : Int) ∧ (8 : Int) ≤ (8 : Int) ∧ ((8 : Nat) : Int) * (8 : Int) ≤ 140737488355328 ∧ (8 : Int) ≤ 1000000000 ∧
 H.new h476 (repl ((8 : Int)).toNat [(Value.int .i64 0)]) fun r477 h478 =>
 ([(Value.slice (some (Addr.mk r477 0 none)) (((8 : Int)).toNat) (((8 : Int)).toNat)), (Value.int .i64 0), (Value.int .i64 0), (Value.slice (some (Addr.mk r325 0 none)) ((p0_n).toNat) ((p0_n).toNat)), (Value.slice (some (Addr.mk r407 0 none)) ((p0_n).toNat) ((p0_n).toNat)), (Value.slice (some (Addr.mk r475 0 none)) ((p0_n).toNat) ((p0_n).toNat)), (Value.slice (some (Addr.mk r461 0 none)) ((p0_n).toNat) ((p0_n).toNat))]).length = 7 ∧ (Program.underlying Go.Proofs.Tryd.prog 49).isSome = true ∧
 H.wr h478 (Addr.mk r1 0 none) ([(Value.slice (some (Addr.mk r477 0 none)) (((8 : Int)).toNat) (((8 : Int)).toNat)), (Value.int .i64 0), (Value.int .i64 0), (Value.slice (some (Addr.mk r325 0 none)) ((p0_n).toNat) ((p0_n).toNat)), (Value.slice (some (Addr.mk r407 0 none)) ((p0_n).toNat) ((p0_n).toNat)), (Value.slice (some (Addr.mk r475 0 none)) ((p0_n).toNat) ((p0_n).toNat)), (Value.slice (some (Addr.mk r461 0 none)) ((p0_n).toNat) ((p0_n).toNat))]) fun h479 =>
 ∃ x480 : SV, H.rd h479 (Addr.add (Addr.mk r1 0 none) 0) (Value.slice x480.a x480.len x480.cap) ∧
 ∃ x481 : Int, H.rd h479 (Addr.add (Addr.mk r1 0 none) 1) (Value.int .i64 x481) ∧
 ∃ x482 : Int, H.rd h479 (Addr.add (Addr.mk r1 0 none) 2) (Value.int .i64 x482) ∧
 ∃ x483 : SV, H.rd h479 (Addr.add (Addr.mk r1 0 none) 3) (Value.slice x483.a x483.len x483.cap) ∧
 ∃ x484 : SV, H.rd h479 (Addr.add (Addr.mk r1 0 none) 4) (Value.slice x484.a x484.len x484.cap) ∧
 ∃ x485 : SV, H.rd h479 (Addr.add (Addr.mk r1 0 none) 5) (Value.slice x485.a x485.len x485.cap) ∧
 ∃ x486 : SV, H.rd h479 (Addr.add (Addr.mk r1 0 none) 6) (Value.slice x486.a x486.len x486.cap) ∧
 VRet h479 (Value.agg (List.toArray [(Value.slice x480.a x480.len x480.cap), (Value.int .i64 x481), (Value.int .i64 x482), (Value.slice x483.a x483.len x483.cap), (Value.slice x484.a x484.len x484.cap), (Value.slice x485.a x485.len x485.cap), (Value.slice x486.a x486.len x486.cap)])) post)))) ∧
 (
 (
 0 ≤ p0_n ∧ p0_n ≤ p0_n ∧ ((8 : Nat) : Int) * p0_n ≤ 140737488355328 ∧ p0_n ≤ 1000000000 ∧
 H.new h326 (repl (p0_n).toNat [(Value.int .i64 0)]) fun r487 h488 =>
 (
 0 ≤ (8 : Int) ∧ (8 : Int) ≤ (8 : Int) ∧ ((8 : Nat) : Int) * (8 : Int) ≤ 140737488355328 ∧ (8 : Int) ≤ 1000000000 ∧
 H.new h488 (repl ((8 : Int)).toNat [(Value.int .i64 0)]) fun r489 h490 =>
 (
 0 ≤ p0_n ∧ p0_n ≤ p0_n ∧ ((8 : Nat) : Int) * p0_n ≤ 140737488355328 ∧ p0_n ≤ 1000000000 ∧
 H.new h490 (repl (p0_n).toNat [(Value.int .i64 0)]) fun r491 h492 =>
 0 ≤ p0_n ∧ p0_n ≤ p0_n ∧ ((8 : Nat) : Int) * p0_n ≤ 140737488355328 ∧ p0_n ≤ 1000000000 ∧
 H.new h492 (repl (p0_n).toNat [(Value.int .i64 0)]) fun r493 h494 =>
 ([(Value.slice (some (Addr.mk r489 0 none)) (((8 : Int)).toNat) (((8 : Int)).toNat)), (Value.int .i64 0), (Value.int .i64 0), (Value.slice (some (Addr.mk r325 0 none)) ((p0_n).toNat) ((p0_n).toNat)), (Value.slice (some (Addr.mk r491 0 none)) ((p0_n).toNat) ((p0_n).toNat)), (Value.slice (some (Addr.mk r487 0 none)) ((p0_n).toNat) ((p0_n).toNat)), (Value.slice (some (Addr.mk r493 0 none)) ((p0_n).toNat) ((p0_n).toNat))]).length = 7 ∧ (Program.underlying Go.Proofs.Tryd.prog 49).isSome = true ∧
 H.wr h494 (Addr.mk r1 0 none) ([(Value.slice (some (Addr.mk r489 0 none)) (((8 : Int)).toNat) (((8 : Int)).toNat)), (Value.int .i64 0), (Value.int .i64 0), (Value.slice (some (Addr.mk r325 0 none)) ((p0_n).toNat) ((p0_n).toNat)), (Value.slice (some (Addr.mk r491 0 none)) ((p0_n).toNat) ((p0_n).toNat)), (Value.slice (some (Addr.mk r487 0 none)) ((p0_n).toNat) ((p0_n).toNat)), (Value.slice (some (Addr.mk r493 0 none)) ((p0_n).toNat) ((p0_n).toNat))]) fun h495 =>
 ∃ x496 : SV, H.rd h495 (Addr.add (Addr.mk r1 0 none) 0) (Value.slice x496.a x496.len x496.cap) ∧
 ∃ x497 : Int, H.rd h495 (Addr.add (Addr.mk r1 0 none) 1) (Value.int .i64 x497) ∧
 ∃ x498 : Int, H.rd h495 (Addr.add (Addr.mk r1 0 none) 2) (Value.int .i64 x498) ∧
 ∃ x499 : SV, H.rd h495 (Addr.add (Addr.mk r1 0 none) 3) (Value.slice x499.a x499.len x499.cap) ∧
 ∃ x500 : SV, H.rd h495 (Addr.add (Addr.mk r1 0 none) 4) (Value.slice x500.a x500.len x500.cap) ∧
 ∃ x501 : SV, H.rd h495 (Addr.add (Addr.mk r1 0 none) 5) (Value.slice x501.a x501.len x501.cap) ∧
 ∃ x502 : SV, H.rd h495 (Addr.add (Addr.mk r1 0 none) 6) (Value.slice x502.a x502.len x502.cap) ∧
 VRet h495 (Value.agg (List.toArray [(Value.slice x496.a x496.len x496.cap), (Value.int .i64 x497), (Value.int .i64 x498), (Value.slice x499.a x499.len x499.cap), (Value.slice x500.a x500.len x500.cap), (Value.slice x501.a x501.len x501.cap), (Value.slice x502.a x502.len x502.cap)])) post) ∧
 (
 0 ≤ p0_n ∧ p0_n ≤ p0_n ∧ ((8 : Nat) : Int) * p0_n ≤ 140737488355328 ∧ p0_n ≤ 1000000000 ∧
 H.new h490 (repl (p0_n).toNat [(Value.int .i64 0)]) fun r503 h504 =>
 0 ≤ p0_n ∧ p0_n ≤ p0_n ∧ ((8 : Nat) : Int) * p0_n ≤ 140737488355328 ∧ p0_n ≤ 1000000000 ∧
 H.new h504 (repl (p0_n).toNat [(Value.int .i64 0)]) fun r505 h506 =>
 ([(Value.slice (some (Addr.mk r489 0 none)) (((8 : Int)).toNat) (((8 : Int)).toNat)), (Value.int .i64 0), (Value.int .i64 0), (Value.slice (some (Addr.mk r325 0 none)) ((p0_n).toNat) ((p0_n).toNat)), (Value.slice (some (Addr.mk r505 0 none)) ((p0_n).toNat) ((p0_n).toNat)), (Value.slice (some (Addr.mk r487 0 none)) ((p0_n).toNat) ((p0_n).toNat)), (Value.slice (some (Addr.mk r503 0 none)) ((p0_n).toNat) ((p0_n).toNat))]).length = 7 ∧ (Program.underlying Go.Proofs.Tryd.prog 49).isSome = true ∧
 H.wr h506 (Addr.mk r1 0 none) ([(Value.slice (some (Addr.mk r489 0 none)) (((8 : Int)).toNat) (((8 : Int)).toNat)), (Value.int .i64 0), (Value.int .i64 0), (Value.slice (some (Addr.mk r325 0 none)) ((p0_n).toNat) ((p0_n).toNat)), (Value.slice (some (Addr.mk r505 0 none)) ((p0_n).toNat) ((p0_n).toNat)), (Value.slice (some (Addr.mk r487 0 none)) ((p0_n).toNat) ((p0_n).toNat)), (Value.slice (some (Addr.mk r503 0 none)) ((p0_n).toNat) ((p0_n).toNat))]) fun h507 =>
 ∃ x508 : SV, H.rd h507 (Addr.add (Addr.mk r1 0 none) 0) (Value.slice x508.a x508.len x508.cap) ∧
 ∃ x509 : Int, H.rd h507 (Addr.add (Addr.mk r1 0 none) 1) (Value.int .i64 x509) ∧
 ∃ x510 : Int, H.rd h507 (Addr.add (Addr.mk r1 0 none) 2) (Value.int .i64 x510) ∧
 ∃ x511 : SV, H.rd h507 (Addr.add (Addr.mk r1 0 none) 3) (Value.slice x511.a x511.len x511.cap) ∧
 ∃ x512 : SV, H.rd h507 (Addr.add (Addr.mk r1 0 none) 4) (Value.slice x512.a x512.len x512.cap) ∧
 ∃ x513 : SV, H.rd h507 (Addr.add (Addr.mk r1 0 none) 5) (Value.slice x513.a x513.len x513.cap) ∧
 ∃ x514 : SV, H.rd h507 (Addr.add (Addr.mk r1 0 none) 6) (Value.slice x514.a x514.len x514.cap) ∧
 VRet h507 (Value.agg (List.toArray [(Value.slice x508.a x508.len x508.cap), (Value.int .i64 x509), (Value.int .i64 x510), (Value.slice x511.a x511.len x511.cap), (Value.slice x512.a x512.len x512.cap), (Value.slice x513.a x513.len x513.cap), (Value.slice x514.a x514.len x514.cap)])) post)) ∧
 (
 (
 0 ≤ p0_n ∧ p0_n ≤ p0_n ∧ ((8 : Nat) : Int) * p0_n ≤ 140737488355328 ∧ p0_n ≤ 1000000000 ∧
 H.new h488 (repl (p0_n).toNat [(Value.int .i64 0)]) fun r515 h516 =>
 (
 0 ≤ (8 : Int) ∧ (8 : Int) ≤ (8 : Int) ∧ ((8 : Nat) : Int) * (8 : Int) ≤ 140737488355328 ∧ (8 : Int) ≤ 1000000000 ∧
 H.new h516 (repl ((8 : Int)).toNat [(Value.int .i64 0)]) fun r517 h518 =>
 0 ≤ p0_n ∧ p0_n ≤ p0_n ∧ ((8 : Nat) : Int) * p0_n ≤ 140737488355328 ∧ p0_n ≤ 1000000000 ∧
 H.new h518 (repl (p0_n).toNat [(Value.int .i64 0)]) fun r519 h520 =>
 ([(Value.slice (some (Addr.mk r517 0 none)) (((8 : Int)).toNat) (((8 : Int)).toNat)), (Value.int .i64 0), (Value.int .i64 0), (Value.slice (some (Addr.mk r325 0 none)) ((p0_n).toNat) ((p0_n).toNat)), (Value.slice (some (Addr.mk r515 0 none)) ((p0_n).toNat) ((p0_n).toNat)), (Value.slice (some (Addr.mk r487 0 none)) ((p0_n).toNat) ((p0_n).toNat)), (Value.slice (some (Addr.mk r519 0 none)) ((p0_n).toNat) ((p0_n).toNat))]).length = 7 ∧ (Program.underlying Go.Proofs.Tryd.prog 49).isSome = true ∧
 H.wr h520 (Addr.mk r1 0 none) ([(Value.slice (some (Addr.mk r517 0 none)) (((8 : Int)).toNat) (((8 : Int)).toNat)), (Value.int .i64 0), (Value.int .i64 0), (Value.slice (some (Addr.mk r325 0 none)) ((p0_n).toNat) ((p0_n).toNat)), (Value.slice (some (Addr.mk r515 0 none)) ((p0_n).toNat) ((p0_n).toNat)), (Value.slice (some (Addr.mk r487 0 none)) ((p0_n).toNat) ((p0_n).toNat)), (Value.slice (some (Addr.mk r519 0 none)) ((p0_n).toNat) ((p0_n).toNat))]) fun h521 =>
 ∃ x522 : SV, H.rd h521 (Addr.add (Addr.mk r1 0 none) 0) (Value.slice x522.a x522.len x522.cap) ∧
 ∃ x523 : Int, H.rd h521 (Addr.add (Addr.mk r1 0 none) 1) (Value.int .i64 x523) ∧
 ∃ x524 : Int, H.rd h521 (Addr.add (Addr.mk r1 0 none) 2) (Value.int .i64 x524) ∧
 ∃ x525 : SV, H.rd h521 (Addr.add (Addr.mk r1 0 none) 3) (Value.slice x525.a x525.len x525.cap) ∧
 ∃ x526 : SV, H.rd h521 (Addr.add (Addr.mk r1 0 none) 4) (Value.slice x526.a x526.len x526.cap) ∧
 ∃ x527 : SV, H.rd h521 (Addr.add (Addr.mk r1 0 none) 5) (Value.slice x527.a x527.len x527.cap) ∧
 ∃ x528 : SV, H.rd h521 (Addr.add (Addr.mk r1 0 none) 6) (Value.slice x528.a x528.len x528.cap) ∧
 VRet h521 (Value.agg (List.toArray [(Value.slice x522.a x522.len x522.cap), (Value.int .i64 x523), (Value.int .i64 x524), (Value.slice x525.a x525.len x525.cap), (Value.slice x526.a x526.len x526.cap), (Value.slice x527.a x527.len x527.cap), (Value.slice x528.a x528.len x528.cap)])) post) ∧
 (
 0 ≤ p0_n ∧ p0_n ≤ p0_n ∧ ((8 : Nat) : Int) * p0_n ≤ 140737488355328 ∧ p0_n ≤ 1000000000 ∧
 H.new h516 (repl (p0_n).toNat [(Value.int .i64 0)]) fun r529 h530 =>
 0 ≤ (8 : Int) ∧ (8 : Int) ≤ (8 : Int) ∧ ((8 : Nat) : Int) * (8 : Int) ≤ 140737488355328 ∧ (8 : Int) ≤ 1000000000 ∧
 H.new h530 (repl ((8 : Int)).toNat [(Value.int .i64 0)]) fun r531 h532 =>
 ([(Value.slice (some (Addr.mk r531 0 none)) (((8 : Int)).toNat) (((8 : Int)).toNat)), (Value.int .i64 0), (Value.int .i64 0), (Value.slice (some (Addr.mk r325 0 none)) ((p0_n).toNat) ((p0_n).toNat)), (Value.slice (some (Addr.mk r515 0 none)) ((p0_n).toNat) ((p0_n).toNat)), (Value.slice (some (Addr.mk r487 0 none)) ((p0_n).toNat) ((p0_n).toNat)), (Value.slice (some (Addr.mk r529 0 none)) ((p0_n).toNat) ((p0_n).toNat))]).length = 7 ∧ (Program.underlying Go.Proofs.Tryd.prog 49).isSome = true ∧
 H.wr h532 (Addr.mk r1 0 none) ([(Value.slice (some (Addr.mk r531 0 none)) (((8 : Int)).toNat) (((8 : Int)).toNat)), (Value.int .i64 0), (Value.int .i64 0), (Value.slice (some (Addr.mk r325 0 none)) ((p0_n).toNat) ((p0_n).toNat)), (Value.slice (some (Addr.mk r515 0 none)) ((p0_n).toNat) ((p0_n).toNat)), (Value.slice (some (Addr.mk r487 0 none)) ((p0_n).toNat) ((p0_n).toNat)), (Value.slice (some (Addr.mk r529 0 none)) ((p0_n).toNat) ((p0_n).toNat))]) fun h533 =>
 ∃ x534 : SV, H.rd h533 (Addr.add (Addr.mk r1 0 none) 0) (Value.slice x534.a x534.len x534.cap) ∧
 ∃ x535 : Int, H.rd h533 (Addr.add (Addr.mk r1 0 none) 1) (Value.int .i64 x535) ∧
 ∃ x536 : Int, H.rd h533 (Addr.add (Addr.mk r1 0 none) 2) (Value.int .i64 x536) ∧
 ∃ x537 : SV, H.rd h533 (Addr.add (Addr.mk r1 0 none) 3) (Value.slice x537.a x537.len x537.cap) ∧
 ∃ x538 : SV, H.rd h533 (Addr.add (Addr.mk r1 0 none) 4) (Value.slice x538.a x538.len x538.cap) ∧
 ∃ x539 : SV, H.rd h533 (Addr.add (Addr.mk r1 0 none) 5) (Value.slice x539.a x539.len x539.cap) ∧
 ∃ x540 : SV, H.rd h533 (Addr.add (Addr.mk r1 0 none) 6) (Value.slice x540.a x540.len x540.cap) ∧
 VRet h533 (Value.agg (List.toArray [(Value.slice x534.a x534.len x534.cap), (Value.int .i64 x535), (Value.int .i64 x536), (Value.slice x537.a x537.len x537.cap), (Value.slice x538.a x538.len x538.cap), (Value.slice x539.a x539.len x539.cap), (Value.slice x540.a x540.len x540.cap)])) post)) ∧
 (
 0 ≤ p0_n ∧ p0_n ≤ p0_n ∧ ((8 : Nat) : Int) * p0_n ≤ 140737488355328 ∧ p0_n ≤ 1000000000 ∧
 H.new h488 (repl (p0_n).toNat [(Value.int .i64 0)]) fun r541 h542 =>
 (
 0 ≤ (8 : Int) ∧ (8 : Int) ≤ (8 : Int) ∧ ((8 : Nat) : Int) * (8 : Int) ≤ 140737488355328 ∧ (8 : Int) ≤ 1000000000 ∧
 H.new h542 (repl ((8 : Int)).toNat [(Value.int .i64 0)]) fun r543 h544 =>
 0 ≤ p0_n ∧ p0_n ≤ p0_n ∧ ((8 : Nat) : Int) * p0_n ≤ 140737488355328 ∧ p0_n ≤ 1000000000 ∧
 H.new h544 (repl (p0_n).toNat [(Value.int .i64 0)]) fun r545 h546 =>
 ([(Value.slice (some (Addr.mk r543 0 none)) (((8 : Int)).toNat) (((8 : Int)).toNat)), (Value.int .i64 0), (Value.int .i64 0), (Value.slice (some (Addr.mk r325 0 none)) ((p0_n).toNat) ((p0_n).toNat)), (Value.slice (some (Addr.mk r545 0 none)) ((p0_n).toNat) ((p0_n).toNat)), (Value.slice (some (Addr.mk r487 0 none)) ((p0_n).toNat) ((p0_n).toNat)), (Value.slice (some (Addr.mk r541 0 none)) ((p0_n).toNat) ((p0_n).toNat))]).length = 7 ∧ (Program.underlying Go.Proofs.Tryd.prog 49).isSome = true ∧
 H.wr h546 (Addr.mk r1 0 none) ([(Value.slice (some (Addr.mk r543 0 none)) (((8 : Int)).toNat) (((8 : Int)).toNat)), (Value.int .i64 0), (Value.int .i64 0), (Value.slice (some (Addr.mk r325 0 none)) ((p0_n).toNat) ((p0_n).toNat)), (Value.slice (some (Addr.mk r545 0 none)) ((p0_n).toNat) ((p0_n).toNat)), (Value.slice (some (Addr.mk r487 0 none)) ((p0_n).toNat) ((p0_n).toNat)), (Value.slice (some (Addr.mk r541 0 none)) ((p0_n).toNat) ((p0_n).toNat))]) fun h547 =>
 ∃ x548 : SV, H.rd h547 (Addr.add (Addr.mk r1 0 none) 0) (Value.slice x548.a x548.len x548.cap) ∧
 ∃ x549 : Int, H.rd h547 (Addr.add (Addr.mk r1 0 none) 1) (Value.int .i64 x549) ∧
 ∃ x550 : Int, H.rd h547 (Addr.add (Addr.mk r1 0 none) 2) (Value.int .i64 x550) ∧
 ∃ x551 : SV, H.rd h547 (Addr.add (Addr.mk r1 0 none) 3) (Value.slice x551.a x551.len x551.cap) ∧
 ∃ x552 : SV, H.rd h547 (Addr.add (Addr.mk r1 0 none) 4) (Value.slice x552.a x552.len x552.cap) ∧
 ∃ x553 : SV, H.rd h547 (Addr.add (Addr.mk r1 0 none) 5) (Value.slice x553.a x553.len x553.cap) ∧
 ∃ x554 : SV, H.rd h547 (Addr.add (Addr.mk r1 0 none) 6) (Value.slice x554.a x554.len x554.cap) ∧
 VRet h547 (Value.agg (List.toArray [(Value.slice x548.a x548.len x548.cap), (Value.int .i64 x549), (Value.int .i64 x550), (Value.slice x551.a x551.len x551.cap), (Value.slice x552.a x552.len x552.cap), (Value.slice x553.a x553.len x553.cap), (Value.slice x554.a x554.len x554.cap)])) post) ∧
 (
 0 ≤ p0_n ∧ p0_n ≤ p0_n ∧ ((8 : Nat) : Int) * p0_n ≤ 140737488355328 ∧ p0_n ≤ 1000000000 ∧
 H.new h542 (repl (p0_n).toNat [(Value.int .i64 0)]) fun r555 h556 =>
 0 ≤ (8 : Int) ∧ (8 : Int) ≤ (8 : Int) ∧ ((8 : Nat) : Int) * (8 : Int) ≤ 140737488355328 ∧ (8 : Int) ≤ 1000000000 ∧
 H.new h556 (repl ((8 : Int)).toNat [(Value.int .i64 0)]) fun r557 h558 =>
 ([(Value.slice (some (Addr.mk r557 0 none)) (((8 : Int)).toNat) (((8 : Int)).toNat)), (Value.int .i64 0), (Value.int .i64 0), (Value.slice (some (Addr.mk r325 0 none)) ((p0_n).toNat) ((p0_n).toNat)), (Value.slice (some (Addr.mk r555 0 none)) ((p0_n).toNat) ((p0_n).toNat)), (Value.slice (some (Addr.mk r487 0 none)) ((p0_n).toNat) ((p0_n).toNat)), (Value.slice (some (Addr.mk r541 0 none)) ((p0_n).toNat) ((p0_n).toNat))]).length = 7 ∧ (Program.underlying Go.Proofs.Tryd.prog 49).isSome = true ∧
 H.wr h558 (Addr.mk r1 0 none) ([(Value.slice (some (Addr.mk r557 0 none)) (((8 : Int)).toNat) (((8 : Int)).toNat)), (Value.int .i64 0), (Value.int .i64 0), (Value.slice (some (Addr.mk r325 0 none)) ((p0_n).toNat) ((p0_n).toNat)), (Value.slice (some (Addr.mk r555 0 none)) ((p0_n).toNat) ((p0_n).toNat)), (Value.slice (some (Addr.mk r487 0 none)) ((p0_n).toNat) ((p0_n).toNat)), (Value.slice (some (Addr.mk r541 0 none)) ((p0_n).toNat) ((p0_n).toNat))]) fun h559 =>
 ∃ x560 : SV, H.rd h559 (Addr.add (Addr.mk r1 0 none) 0) (Value.slice x560.a x560.len x560.cap) ∧
 ∃ x561 : Int, H.rd h559 (Addr.add (Addr.mk r1 0 none) 1) (Value.int .i64 x561) ∧
 ∃ x562 : Int, H.rd h559 (Addr.add (Addr.mk r1 0 none) 2) (Value.int .i64 x562) ∧
 ∃ x563 : SV, H.rd h559 (Addr.add (Addr.mk r1 0 none) 3) (Value.slice x563.a x563.len x563.cap) ∧
 ∃ x564 : SV, H.rd h559 (Addr.add (Addr.mk r1 0 none) 4) (Value.slice x564.a x564.len x564.cap) ∧
 ∃ x565 : SV, H.rd h559 (Addr.add (Addr.mk r1 0 none) 5) (Value.slice x565.a x565.len x565.cap) ∧
 ∃ x566 : SV, H.rd h559 (Addr.add (Addr.mk r1 0 none) 6) (Value.slice x566.a x566.len x566.cap) ∧
 VRet h559 (Value.agg (List.toArray [(Value.slice x560.a x560.len x560.cap), (Value.int .i64 x561), (Value.int .i64 x562), (Value.slice x563.a x563.len x563.cap), (Value.slice x564.a x564.len x564.cap), (Value.slice x565.a x565.len x565.cap), (Value.slice x566.a x566.len x566.cap)])) post)))) ∧
 (
 0 ≤ p0_n ∧ p0_n ≤ p0_n ∧ ((8 : Nat) : Int) * p0_n ≤ 140737488355328 ∧ p0_n ≤ 1000000000 ∧
 H.new h326 (repl (p0_n).toNat [(Value.int .i64 0)]) fun r567 h568 =>
 (
 0 ≤ (8 : Int) ∧ (8 : Int) ≤ (8 : Int) ∧ ((8 : Nat) : Int) * (8 : Int) ≤ 140737488355328 ∧ (8 : Int) ≤ 1000000000 ∧
 H.new h568 (repl ((8 : Int)).toNat [(Value.int .i64 0)]) fun r569 h570 =>
 (
 0 ≤ p0_n ∧ p0_n ≤ p0_n ∧ ((8 : Nat) : Int) * p0_n ≤ 140737488355328 ∧ p0_n ≤ 1000000000 ∧
 H.new h570 (repl (p0_n).toNat [(Value.int .i64 0)]) fun r571 h572 =>
 0 ≤ p0_n ∧ p0_n ≤ p0_n ∧ ((8 : Nat) : Int) * p0_n ≤ 140737488355328 ∧ p0_n ≤ 1000000000 ∧
 H.new h572 (repl (p0_n).toNat [(Value.int .i64 0)]) fun r573 h574 =>
 ([(Value.slice (some (Addr.mk r569 0 none)) (((8 : Int)).toNat) (((8 : Int)).toNat)), (Value.int .i64 0), (Value.int .i64 0), (Value.slice (some (Addr.mk r325 0 none)) ((p0_n).toNat) ((p0_n).toNat)), (Value.slice (some (Addr.mk r571 0 none)) ((p0_n).toNat) ((p0_n).toNat)), (Value.slice (some (Addr.mk r573 0 none)) ((p0_n).toNat) ((p0_n).toNat)), (Value.slice (some (Addr.mk r567 0 none)) ((p0_n).toNat) ((p0_n).toNat))]).length = 7 ∧ (Program.underlying Go.Proofs.Tryd.prog 49).isSome = true ∧
 H.wr h574 (Addr.mk r1 0 none) ([(Value.slice (some (Addr.mk r569 0 none)) (((8 : Int)).toNat) (((8 : Int)).toNat)), (Value.int .i64 0), (Value.int .i64 0), (Value.slice (some (Addr.mk r325 0 none)) ((p0_n).toNat) ((p0_n).toNat)), (Value.slice (some (Addr.mk r571 0 none)) ((p0_n).toNat) ((p0_n).toNat)), (Value.slice (some (Addr.mk r573 0 none)) ((p0_n).toNat) ((p0_n).toNat)), (Value.slice (some (Addr.mk r567 0 none)) ((p0_n).toNat) ((p0_n).toNat))]) fun h575 =>
 ∃ x576 : SV, H.rd h575 (Addr.add (Addr.mk r1 0 none) 0) (Value.slice x576.a x576.len x576.cap) ∧
 ∃ x577 : Int, H.rd h575 (Addr.add (Addr.mk r1 0 none) 1) (Value.int .i64 x577) ∧
 ∃ x578 : Int, H.rd h575 (Addr.add (Addr.mk r1 0 none) 2) (Value.int .i64 x578) ∧
 ∃ x579 : SV, H.rd h575 (Addr.add (Addr.mk r1 0 none) 3) (Value.slice x579.a x579.len x579.cap) ∧
 ∃ x580 : SV, H.rd h575 (Addr.add (Addr.mk r1 0 none) 4) (Value.slice x580.a x580.len x580.cap) ∧
 ∃ x581 : SV, H.rd h575 (Addr.add (Addr.mk r1 0 none) 5) (Value.slice x581.a x581.len x581.cap) ∧
 ∃ x582 : SV, H.rd h575 (Addr.add (Addr.mk r1 0 none) 6) (Value.slice x582.a x582.len x582.cap) ∧
 VRet h575 (Value.agg (List.toArray [(Value.slice x576.a x576.len x576.cap), (Value.int .i64 x577), (Value.int .i64 x578), (Value.slice x579.a x579.len x579.cap), (Value.slice x580.a x580.len x580.cap), (Value.slice x581.a x581.len x581.cap), (Value.slice x582.a x582.len x582.cap)])) post) ∧
 (
 0 ≤ p0_n ∧ p0_n ≤ p0_n ∧ ((8 : Nat) : Int) * p0_n ≤ 140737488355328 ∧ p0_n ≤ 1000000000 ∧
 H.new h570 (repl (p0_n).toNat [(Value.int .i64 0)]) fun r583 h584 =>
 0 ≤ p0_n ∧ p0_n ≤ p0_n ∧ ((8 : Nat) : Int) * p0_n ≤ 140737488355328 ∧ p0_n ≤ 1000000000 ∧
 H.new h584 (repl (p0_n).toNat [(Value.int .i64 0)]) fun r585 h586 =>
 ([(Value.slice (some (Addr.mk r569 0 none)) (((8 : Int)).toNat) (((8 : Int)).toNat)), (Value.int .i64 0), (Value.int .i64 0), (Value.slice (some (Addr.mk r325 0 none)) ((p0_n).toNat) ((p0_n).toNat)), (Value.slice (some (Addr.mk r585 0 none)) ((p0_n).toNat) ((p0_n).toNat)), (Value.slice (some (Addr.mk r583 0 none)) ((p0_n).toNat) ((p0_n).toNat)), (Value.slice (some (Addr.mk r567 0 none)) ((p0_n).toNat) ((p0_n).toNat))]).length = 7 ∧ (Program.underlying Go.Proofs.Tryd.prog 49).isSome = true ∧
 H.wr h586 (Addr.mk r1 0 none) ([(Value.slice (some (Addr.mk r569 0 none)) (((8 : Int)).toNat) (((8 : Int)).toNat)), (Value.int .i64 0), (Value.int .i64 0), (Value.slice (some (Addr.mk r325 0 none)) ((p0_n).toNat) ((p0_n).toNat)), (Value.slice (some (Addr.mk r585 0 none)) ((p0_n).toNat) ((p0_n).toNat)), (Value.slice (some (Addr.mk r583 0 none)) ((p0_n).toNat) ((p0_n).toNat)), (Value.slice (some (Addr.mk r567 0 none)) ((p0_n).toNat) ((p0_n).toNat))]) fun h587 =>
 ∃ x588 : SV, H.rd h587 (Addr.add (Addr.mk r1 0 none) 0) (Value.slice x588.a x588.len x588.cap) ∧
 ∃ x589 : Int, H.rd h587 (Addr.add (Addr.mk r1 0 none) 1) (Value.int .i64 x589) ∧
 ∃ x590 : Int, H.rd h587 (Addr.add (Addr.mk r1 0 none) 2) (Value.int .i64 x590) ∧
 ∃ x591 : SV, H.rd h587 (Addr.add (Addr.mk r1 0 none) 3) (Value.slice x591.a x591.len x591.cap) ∧
 ∃ x592 : SV, H.rd h587 (Addr.add (Addr.mk r1 0 none) 4) (Value.slice x592.a x592.len x592.cap) ∧
 ∃ x593 : SV, H.rd h587 (Addr.add (Addr.mk r1 0 none) 5) (Value.slice x593.a x593.len x593.cap) ∧
 ∃ x594 : SV, H.rd h587 (Addr.add (Addr.mk r1 0 none) 6) (Value.slice x594.a x594.len x594.cap) ∧
 VRet h587 (Value.agg (List.toArray [(Value.slice x588.a x588.len x588.cap), (Value.int .i64 x589), (Value.int .i64 x590), (Value.slice x591.a x591.len x591.cap), (Value.slice x592.a x592.len x592.cap), (Value.slice x593.a x593.len x593.cap), (Value.slice x594.a x594.len x594.cap)])) post)) ∧
 (
 (
 0 ≤ p0_n ∧ p0_n ≤ p0_n ∧ ((8 : Nat) : Int) * p0_n ≤ 140737488355328 ∧ p0_n ≤ 1000000000 ∧
 H.new h568 (repl (p0_n).toNat [(Value.int .i64 0)]) fun r595 h596 =>
 (
 0 ≤ (8 : Int) ∧ (8 : Int) ≤ (8 : Int) ∧ ((8 : Nat) : Int) * (8 : Int) ≤ 140737488355328 ∧ (8 : Int) ≤ 1000000000 ∧
 H.new h596 (repl ((8 : Int)).toNat [(Value.int .i64 0)]) fun r597 h598 =>
 0 ≤ p0_n ∧ p0_n ≤ p0_n ∧ ((8 : Nat) : Int) * p0_n ≤ 140737488355328 ∧ p0_n ≤ 1000000000 ∧
 H.new h598 (repl (p0_n).toNat [(Value.int .i64 0)]) fun r599 h600 =>
 ([(Value.slice (some (Addr.mk r597 0 none)) (((8 : Int)).toNat) (((8 : Int)).toNat)), (Value.int .i64 0), (Value.int .i64 0), (Value.slice (some (Addr.mk r325 0 none)) ((p0_n).toNat) ((p0_n).toNat)), (Value.slice (some (Addr.mk r595 0 none)) ((p0_n).toNat) ((p0_n).toNat)), (Value.slice (some (Addr.mk r599 0 none)) ((p0_n).toNat) ((p0_n).toNat)), (Value.slice (some (Addr.mk r567 0 none)) ((p0_n).toNat) ((p0_n).toNat))]).length = 7 ∧ (Program.underlying Go.Proofs.Tryd.prog 49).isSome = true ∧
 H.wr h600 (Addr.mk r1 0 none) ([(Value.slice (some (Addr.mk r597 0 none)) (((8 : Int)).toNat) (((8 : Int)).toNat)), (Value.int .i64 0), (Value.int .i64 0), (Value.slice (some (Addr.mk r325 0 none)) ((p0_n).toNat) ((p0_n).toNat)), (Value.slice (some (Addr.mk r595 0 none)) ((p0_n).toNat) ((p0_n).toNat)), (Value.slice (some (Addr.mk r599 0 none)) ((p0_n).toNat) ((p0_n).toNat)), (Value.slice (some (Addr.mk r567 0 none)) ((p0_n).toNat) ((p0_n).toNat))]) fun h601 =>
 ∃ x602 : SV, H.rd h601 (Addr.add (Addr.mk r1 0 none) 0) (Value.slice x602.a x602.len x602.cap) ∧
 ∃ x603 : Int, H.rd h601 (Addr.add (Addr.mk r1 0 none) 1) (Value.int .i64 x603) ∧
 ∃ x604 : Int, H.rd h601 (Addr.add (Addr.mk r1 0 none) 2) (Value.int .i64 x604) ∧
 ∃ x605 : SV, H.rd h601 (Addr.add (Addr.mk r1 0 none) 3) (Value.slice x605.a x605.len x605.cap) ∧
 ∃ x606 : SV, H.rd h601 (Addr.add (Addr.mk r1 0 none) 4) (Value.slice x606.a x606.len x606.cap) ∧
 ∃ x607 : SV, H.rd h601 (Addr.add (Addr.mk r1 0 none) 5) (Value.slice x607.a x607.len x607.cap) ∧
 ∃ x608 : SV, H.rd h601 (Addr.add (Addr.mk r1 0 none) 6) (Value.slice x608.a x608.len x608.cap) ∧
 VRet h601 (Value.agg (List.toArray [(Value.slice x602.a x602.len x602.cap), (Value.int .i64 x603), (Value.int .i64 x604), (Value.slice x605.a x605.len x605.cap), (Value.slice x606.a x606.len x606.cap), (Value.slice x607.a x607.len x607.cap), (Value.slice x608.a x608.len x608.cap)])) post) ∧
 (
 0 ≤ p0_n ∧ p0_n ≤ p0_n ∧ ((8 : Nat) : Int) * p0_n ≤ 140737488355328 ∧ p0_n ≤ 1000000000 ∧
 H.new h596 (repl (p0_n).toNat [(Value.int .i64 0)]) fun r609 h610 =>
 0 ≤ (8 : Int) ∧ (8 : Int) ≤ (8 : Int) ∧ ((8 : Nat) : Int) * (8 : Int) ≤ 140737488355328 ∧ (8 : Int) ≤ 1000000000 ∧
 H.new h610 (repl ((8 : Int)).toNat [(Value.int .i64 0)]) fun r611 h612 =>
 ([(Value.slice (some (Addr.mk r611 0 none)) (((8 : Int)).toNat) (((8 : Int)).toNat)), (Value.int .i64 0), (Value.int .i64 0), (Value.slice (some (Addr.mk r325 0 none)) ((p0_n).toNat) ((p0_n).toNat)), (Value.slice (some (Addr.mk r595 0 none)) ((p0_n).toNat) ((p0_n).toNat)), (Value.slice (some (Addr.mk r609 0 none)) ((p0_n).toNat) ((p0_n).toNat)), (Value.slice (some (Addr.mk r567 0 none)) ((p0_n).toNat) ((p0_n).toNat))]).length = 7 ∧ (Program.underlying Go.Proofs.Tryd.prog 49).isSome = true ∧
 H.wr h612 (Addr.mk r1 0 none) ([(Value.slice (some (Addr.mk r611 0 none)) (((8 : Int)).toNat) (((8 : Int)).toNat)), (Value.int .i64 0), (Value.int .i64 0), (Value.slice (some (Addr.mk r325 0 none)) ((p0_n).toNat) ((p0_n).toNat)), (Value.slice (some (Addr.mk r595 0 none)) ((p0_n).toNat) ((p0_n).toNat)), (Value.slice (some (Addr.mk r609 0 none)) ((p0_n).toNat) ((p0_n).toNat)), (Value.slice (some (Addr.mk r567 0 none)) ((p0_n).toNat) ((p0_n).toNat))]) fun h613 =>
 ∃ x614 : SV, H.rd h613 (Addr.add (Addr.mk r1 0 none) 0) (Value.slice x614.a x614.len x614.cap) ∧
 ∃ x615 : Int, H.rd h613 (Addr.add (Addr.mk r1 0 none) 1) (Value.int .i64 x615) ∧
 ∃ x616 : Int, H.rd h613 (Addr.add (Addr.mk r1 0 none) 2) (Value.int .i64 x616) ∧
 ∃ x617 : SV, H.rd h613 (Addr.add (Addr.mk r1 0 none) 3) (Value.slice x617.a x617.len x617.cap) ∧
 ∃ x618 : SV, H.rd h613 (Addr.add (Addr.mk r1 0 none) 4) (Value.slice x618.a x618.len x618.cap) ∧
 ∃ x619 : SV, H.rd h613 (Addr.add (Addr.mk r1 0 none) 5) (Value.slice x619.a x619.len x619.cap) ∧
 ∃ x620 : SV, H.rd h613 (Addr.add (Addr.mk r1 0 none) 6) (Value.slice x620.a x620.len x620.cap) ∧
 VRet h613 (Value.agg (List.toArray [(Value.slice x614.a x614.len x614.cap), (Value.int .i64 x615), (Value.int .i64 x616), (Value.slice x617.a x617.len x617.cap), (Value.slice x618.a x618.len x618.cap), (Value.slice x619.a x619.len x619.cap), (Value.slice x620.a x620.len x620.cap)])) post)) ∧
 (
 0 ≤ p0_n ∧ p0_n ≤ p0_n ∧ ((8 : Nat) : Int) * p0_n ≤ 140737488355328 ∧ p0_n ≤ 1000000000 ∧
 H.new h568 (repl (p0_n).toNat [(Value.int .i64 0)]) fun r621 h622 =>
 (
 0 ≤ (8 : Int) ∧ (8 : Int) ≤ (8 : Int) ∧ ((8 : Nat) : Int) * (8 : Int) ≤ 140737488355328 ∧ (8 : Int) ≤ 1000000000 ∧
 H.new h622 (repl ((8 : Int)).toNat [(Value.int .i64 0)]) fun r623 h624 =>
 0 ≤ p0_n ∧ p0_n ≤ p0_n ∧ ((8 : Nat) : Int) * p0_n ≤ 140737488355328 ∧ p0_n ≤ 1000000000 ∧
 H.new h624 (repl (p0_n).toNat [(Value.int .i64 0)]) fun r625 h626 =>
 ([(Value.slice (some (Addr.mk r623 0 none)) (((8 : Int)).toNat) (((8 : Int)).toNat)), (Value.int .i64 0), (Value.int .i64 0), (Value.slice (some (Addr.mk r325 0 none)) ((p0_n).toNat) ((p0_n).toNat)), (Value.slice (some (Addr.mk r625 0 none)) ((p0_n).toNat) ((p0_n).toNat)), (Value.slice (some (Addr.mk r621 0 none)) ((p0_n).toNat) ((p0_n).toNat)), (Value.slice (some (Addr.mk r567 0 none)) ((p0_n).toNat) ((p0_n).toNat))]).length = 7 ∧ (Program.underlying Go.Proofs.Tryd.prog 49).isSome = true ∧
 H.wr h626 (Addr.mk r1 0 none) ([(Value.slice (some (Addr.mk r623 0 none)) (((8 : Int)).toNat) (((8 : Int)).toNat)), (Value.int .i64 0), (Value.int .i64 0), (Value.slice (some (Addr.mk r325 0 none)) ((p0_n).toNat) ((p0_n).toNat)), (Value.slice (some (Addr.mk r625 0 none)) ((p0_n).toNat) ((p0_n).toNat)), (Value.slice (some (Addr.mk r621 0 none)) ((p0_n).toNat) ((p0_n).toNat)), (Value.slice (some (Addr.mk r567 0 none)) ((p0_n).toNat) ((p0_n).toNat))]) fun h627 =>
 ∃ x628 : SV, H.rd h627 (Addr.add (Addr.mk r1 0 none) 0) (Value.slice x628.a x628.len x628.cap) ∧
 ∃ x629 : Int, H.rd h627 (Addr.add (Addr.mk r1 0 none) 1) (Value.int .i64 x629) ∧
 ∃ x630 : Int, H.rd h627 (Addr.add (Addr.mk r1 0 none) 2) (Value.int .i64 x630) ∧
 ∃ x631 : SV, H.rd h627 (Addr.add (Addr.mk r1 0 none) 3) (Value.slice x631.a x631.len x631.cap) ∧
 ∃ x632 : SV, H.rd h627 (Addr.add (Addr.mk r1 0 none) 4) (Value.slice x632.a x632.len x632.cap) ∧
 ∃ x633 : SV, H.rd h627 (Addr.add (Addr.mk r1 0 none) 5) (Value.slice x633.a x633.len x633.cap) ∧
 ∃ x634 : SV, H.rd h627 (Addr.add (Addr.mk r1 0 none) 6) (Value.slice x634.a x634.len x634.cap) ∧
 VRet h627 (Value.agg (List.toArray [(Value.slice x628.a x628.len x628.cap), (Value.int .i64 x629), (Value.int .i64 x630), (Value.slice x631.a x631.len x631.cap), (Value.slice x632.a x632.len x632.cap), (Value.slice x633.a x633.len x633.cap), (Value.slice x634.a x634.len x634.cap)])) post) ∧
 (
 0 ≤ p0_n ∧ p0_n ≤ p0_n ∧ ((8 : Nat) : Int) * p0_n ≤ 140737488355328 ∧ p0_n ≤ 1000000000 ∧
 H.new h622 (repl (p0_n).toNat [(Value.int .i64 0)]) fun r635 h636 =>
 0 ≤ (8 : Int) ∧ (8 : Int) ≤ (8 : Int) ∧ ((8 : Nat) : Int) * (8 : Int) ≤ 140737488355328 ∧ (8 : Int) ≤ 1000000000 ∧
 H.new h636 (repl ((8 : Int)).toNat [(Value.int .i64 0)]) fun r637 h638 =>
 ([(Value.slice (some (Addr.mk r637 0 none)) (((8 : Int)).toNat) (((8 : Int)).toNat)), (Value.int .i64 0), (Value.int .i64 0), (Value.slice (some (Addr.mk r325 0 none)) ((p0_n).toNat) ((p0_n).toNat)), (Value.slice (some (Addr.mk r635 0 none)) ((p0_n).toNat) ((p0_n).toNat)), (Value.slice (some (Addr.mk r621 0 none)) ((p0_n).toNat) ((p0_n).toNat)), (Value.slice (some (Addr.mk r567 0 none)) ((p0_n).toNat) ((p0_n).toNat))]).length = 7 ∧ (Program.underlying Go.Proofs.Tryd.prog 49).isSome = true ∧
 H.wr h638 (Addr.mk r1 0 none) ([(Value.slice (some (Addr.mk r637 0 none)) (((8 : Int)).toNat) (((8 : Int)).toNat)), (Value.int .i64 0), (Value.int .i64 0), (Value.slice (some (Addr.mk r325 0 none)) ((p0_n).toNat) ((p0_n).toNat)), (Value.slice (some (Addr.mk r635 0 none)) ((p0_n).toNat) ((p0_n).toNat)), (Value.slice (some (Addr.mk r621 0 none)) ((p0_n).toNat) ((p0_n).toNat)), (Value.slice (some (Addr.mk r567 0 none)) ((p0_n).toNat) ((p0_n).toNat))]) fun h639 =>
 ∃ x640 : SV, H.rd h639 (Addr.add (Addr.mk r1 0 none) 0) (Value.slice x640.a x640.len x640.cap) ∧
 ∃ x641 : Int, H.rd h639 (Addr.add (Addr.mk r1 0 none) 1) (Value.int .i64 x641) ∧
 ∃ x642 : Int, H.rd h639 (Addr.add (Addr.mk r1 0 none) 2) (Value.int .i64 x642) ∧
 ∃ x643 : SV, H.rd h639 (Addr.add (Addr.mk r1 0 none) 3) (Value.slice x643.a x643.len x643.cap) ∧
 ∃ x644 : SV, H.rd h639 (Addr.add (Addr.mk r1 0 none) 4) (Value.slice x644.a x644.len x644.cap) ∧
 ∃ x645 : SV, H.rd h639 (Addr.add (Addr.mk r1 0 none) 5) (Value.slice x645.a x645.len x645.cap) ∧
 ∃ x646 : SV, H.rd h639 (Addr.add (Addr.mk r1 0 none) 6) (Value.slice x646.a x646.len x646.cap) ∧
 VRet h639 (Value.agg (List.toArray [(Value.slice x640.a x640.len x640.cap), (Value.int .i64 x641), (Value.int .i64 x642), (Value.slice x643.a x643.len x643.cap), (Value.slice x644.a x644.len x644.cap), (Value.slice x645.a x645.len x645.cap), (Value.slice x646.a x646.len x646.cap)])) post))))))) ∧
 (
 (
 0 ≤ p0_n ∧ p0_n ≤ p0_n ∧ ((8 : Nat) : Int) * p0_n ≤ 140737488355328 ∧ p0_n ≤ 1000000000 ∧
 H.new h2 (repl (p0_n).toNat [(Value.int .i64 0)]) fun r647 h648 =>
 (
 0 ≤ (8 : Int) ∧ (8 : Int) ≤ (8 : Int) ∧ ((8 : Nat) : Int) * (8 : Int) ≤ 140737488355328 ∧ (8 : Int) ≤ 1000000000 ∧
 H.new h648 (repl ((8 : Int)).toNat [(Value.int .i64 0)]) fun r649 h650 =>
 (
 0 ≤ p0_n ∧ p0_n ≤ p0_n ∧ ((8 : Nat) : Int) * p0_n ≤ 140737488355328 ∧ p0_n ≤ 1000000000 ∧
 H.new h650 (repl (p0_n).toNat [(Value.int .i64 0)]) fun r651 h652 =>
 (
 0 ≤ p0_n ∧ p0_n ≤ p0_n ∧ ((8 : Nat) : Int) * p0_n ≤ 140737488355328 ∧ p0_n ≤ 1000000000 ∧
 H.new h652 (repl (p0_n).toNat [(Value.int .i64 0)]) fun r653 h654 =>
 0 ≤ p0_n ∧ p0_n ≤ p0_n ∧ ((8 : Nat) : Int) * p0_n ≤ 140737488355328 ∧ p0_n ≤ 1000000000 ∧
 H.new h654 (repl (p0_n).toNat [(Value.int .i64 0)]) fun r655 h656 =>
 ([(Value.slice (some (Addr.mk r649 0 none)) (((8 : Int)).toNat) (((8 : Int)).toNat)), (Value.int .i64 0), (Value.int .i64 0), (Value.slice (some (Addr.mk r651 0 none)) ((p0_n).toNat) ((p0_n).toNat)), (Value.slice (some (Addr.mk r647 0 none)) ((p0_n).toNat) ((p0_n).toNat)), (Value.slice (some (Addr.mk r653 0 none)) ((p0_n).toNat) ((p0_n).toNat)), (Value.slice (some (Addr.mk r655 0 none)) ((p0_n).toNat) ((p0_n).toNat))]).length = 7 ∧ (Program.underlying Go.Proofs.Tryd.prog 49).isSome = true ∧
 H.wr h656 (Addr.mk r1 0 none) ([(Value.slice (some (Addr.mk r649 0 none)) (((8 : Int)).toNat) (((8 : Int)).toNat)), (Value.int .i64 0), (Value.int .i64 0), (Value.slice (some (Addr.mk r651 0 none)) ((p0_n).toNat) ((p0_n).toNat)), (Value.slice (some (Addr.mk r647 0 none)) ((p0_n).toNat) ((p0_n).toNat)), (Value.slice (some (Addr.mk r653 0 none)) ((p0_n).toNat) ((p0_n).toNat)), (Value.slice (some (Addr.mk r655 0 none)) ((p0_n).toNat) ((p0_n).toNat))]) fun h657 =>
 ∃ x658 : SV, H.rd h657 (Addr.add (Addr.mk r1 0 none) 0) (Value.slice x658.a x658.len x658.cap) ∧
 ∃ x659 : Int, H.rd h657 (Addr.add (Addr.mk r1 0 none) 1) (Value.int .i64 x659) ∧
 ∃ x660 : Int, H.rd h657 (Addr.add (Addr.mk r1 0 none) 2) (Value.int .i64 x660) ∧
 ∃ x661 : SV, H.rd h657 (Addr.add (Addr.mk r1 0 none) 3) (Value.slice x661.a x661.len x661.cap) ∧
 ∃ x662 : SV, H.rd h657 (Addr.add (Addr.mk r1 0 none) 4) (Value.slice x662.a x662.len x662.cap) ∧
 ∃ x663 : SV, H.rd h657 (Addr.add (Addr.mk r1 0 none) 5) (Value.slice x663.a x663.len x663.cap) ∧
 ∃ x664 : SV, H.rd h657 (Addr.add (Addr.mk r1 0 none) 6) (Value.slice x664.a x664.len x664.cap) ∧
 VRet h657 (Value.agg (List.toArray [(Value.slice x658.a x658.len x658.cap), (Value.int .i64 x659), (Value.int .i64 x660), (Value.slice x661.a x661.len x661.cap), (Value.slice x662.a x662.len x662.cap), (Value.slice x663.a x663.len x663.cap), (Value.slice x664.a x664.len x664.cap)])) post) ∧
 (
 0 ≤ p0_n ∧ p0_n ≤ p0_n ∧ ((8 : Nat) : Int) * p0_n ≤ 140737488355328 ∧ p0_n ≤ 1000000000 ∧
 H.new h652 (repl (p0_n).toNat [(Value.int .i64 0)]) fun r665 h666 =>
 0 ≤ p0_n ∧ p0_n ≤ p0_n ∧ ((8 : Nat) : Int) * p0_n ≤ 140737488355328 ∧ p0_n ≤ 1000000000 ∧
 H.new h666 (repl (p0_n).toNat [(Value.int .i64 0)]) fun r667 h668 =>
 ([(Value.slice (some (Addr.mk r649 0 none)) (((8 : Int)).toNat) (((8 : Int)).toNat)), (Value.int .i64 0), (Value.int .i64 0), (Value.slice (some (Addr.mk r651 0 none)) ((p0_n).toNat) ((p0_n).toNat)), (Value.slice (some (Addr.mk r647 0 none)) ((p0_n).toNat) ((p0_n).toNat)), (Value.slice (some (Addr.mk r667 0 none)) ((p0_n).toNat) ((p0_n).toNat)), (Value.slice (some (Addr.mk r665 0 none)) ((p0_n).toNat) ((p0_n).toNat))]).length = 7 ∧ (Program.underlying Go.Proofs.Tryd.prog 49).isSome = true ∧
 H.wr h668 (Addr.mk r1 0 none) ([(Value.slice (some (Addr.mk r649 0 none)) (((8 : Int)).toNat) (((8 : Int)).toNat)), (Value.int .i64 0), (Value.int .i64 0), (Value.slice (some (Addr.mk r651 0 none)) ((p0_n).toNat) ((p0_n).toNat)), (Value.slice (some (Addr.mk r647 0 none)) ((p0_n).toNat) ((p0_n).toNat)), (Value.slice (some (Addr.mk r667 0 none)) ((p0_n).toNat) ((p0_n).toNat)), (Value.slice (some (Addr.mk r665 0 none)) ((p0_n).toNat) ((p0_n).toNat))]) fun h669 =>
 ∃ x670 : SV, H.rd h669 (Addr.add (Addr.mk r1 0 none) 0) (Value.slice x670.a x670.len x670.cap) ∧
 ∃ x671 : Int, H.rd h669 (Addr.add (Addr.mk r1 0 none) 1) (Value.int .i64 x671) ∧
 ∃ x672 : Int, H.rd h669 (Addr.add (Addr.mk r1 0 none) 2) (Value.int .i64 x672) ∧
 ∃ x673 : SV, H.rd h669 (Addr.add (Addr.mk r1 0 none) 3) (Value.slice x673.a x673.len x673.cap) ∧
 ∃ x674 : SV, H.rd h669 (Addr.add (Addr.mk r1 0 none) 4) (Value.slice x674.a x674.len x674.cap) ∧
 ∃ x675 : SV, H.rd h669 (Addr.add (Addr.mk r1 0 none) 5) (Value.slice x675.a x675.len x675.cap) ∧
 ∃ x676 : SV, H.rd h669 (Addr.add (Addr.mk r1 0 none) 6) (Value.slice x676.a x676.len x676.cap) ∧
 VRet h669 (Value.agg (List.toArray [(Value.slice x670.a x670.len x670.cap), (Value.int .i64 x671), (Value.int .i64 x672), (Value.slice x673.a x673.len x673.cap), (Value.slice x674.a x674.len x674.cap), (Value.slice x675.a x675.len x675.cap), (Value.slice x676.a x676.len x676.cap)])) post)) ∧
 (
 (
 0 ≤ p0_n ∧ p0_n ≤ p0_n ∧ ((8 : Nat) : Int) * p0_n ≤ 140737488355328 ∧ p0_n ≤ 1000000000 ∧
 H.new h650 (repl (p0_n).toNat [(Value.int .i64 0)]) fun r677 h678 =>
 (
 0 ≤ p0_n ∧ p0_n ≤ p0_n ∧ ((8 : Nat) : Int) * p0_n ≤ 140737488355328 ∧ p0_n ≤ 1000000000 ∧
 H.new h678 (repl (p0_n).toNat [(Value.int .i64 0)]) fun r679 h680 =>
 0 ≤ p0_n ∧ p0_n ≤ p0_n ∧ ((8 : Nat) : Int) * p0_n ≤ 140737488355328 ∧ p0_n ≤ 1000000000 ∧
 H.new h680 (repl (p0_n).toNat [(Value.int .i64 0)]) fun r681 h682 =>
 ([(Value.slice (some (Addr.mk r649 0 none)) (((8 : Int)).toNat) (((8 : Int)).toNat)), (Value.int .i64 0), (Value.int .i64 0), (Value.slice (some (Addr.mk r679 0 none)) ((p0_n).toNat) ((p0_n).toNat)), (Value.slice (some (Addr.mk r647 0 none)) ((p0_n).toNat) ((p0_n).toNat)), (Value.slice (some (Addr.mk r677 0 none)) ((p0_n).toNat) ((p0_n).toNat)), (Value.slice (some (Addr.mk r681 0 none)) ((p0_n).toNat) ((p0_n).toNat))]).length = 7 ∧ (Program.underlying Go.Proofs.Tryd.prog 49).isSome = true ∧
 H.wr h682 (Addr.mk r1 0 none) ([(Value.slice (some (Addr.mk r649 0 none)) (((8 : Int)).toNat) (((8 : Int)).toNat)), (Value.int .i64 0), (Value.int .i64 0), (Value.slice (some (Addr.mk r679 0 none)) ((p0_n).toNat) ((p0_n).toNat)), (Value.slice (some (Addr.mk r647 0 none)) ((p0_n).toNat) ((p0_n).toNat)), (Value.slice (some (Addr.mk r677 0 none)) ((p0_n).toNat) ((p0_n).toNat)), (Value.slice (some (Addr.mk r681 0 none)) ((p0_n).toNat) ((p0_n).toNat))]) fun h683 =>
 ∃ x684 : SV, H.rd h683 (Addr.add (Addr.mk r1 0 none) 0) (Value.slice x684.a x684.len x684.cap) ∧
 ∃ x685 : Int, H.rd h683 (Addr.add (Addr.mk r1 0 none) 1) (Value.int .i64 x685) ∧
 ∃ x686 : Int, H.rd h683 (Addr.add (Addr.mk r1 0 none) 2) (Value.int .i64 x686) ∧
 ∃ x687 : SV, H.rd h683 (Addr.add (Addr.mk r1 0 none) 3) (Value.slice x687.a x687.len x687.cap) ∧
 ∃ x688 : SV, H.rd h683 (Addr.add (Addr.mk r1 0 none) 4) (Value.slice x688.a x688.len x688.cap) ∧
 ∃ x689 : SV, H.rd h683 (Addr.add (Addr.mk r1 0 none) 5) (Value.slice x689.a x689.len x689.cap) ∧
 ∃ x690 : SV, H.rd h683 (Addr.add (Addr.mk r1 0 none) 6) (Value.slice x690.a x690.len x690.cap) ∧
 VRet h683 (Value.agg (List.toArray [(Value.slice x684.a x684.len x684.cap), (Value.int .i64 x685), (Value.int .i64 x686), (Value.slice x687.a x687.len x687.cap), (Value.slice x688.a x688.len x688.cap), (Value.slice x689.a x689.len x689.cap), (Value.slice x690.a x690.len x690.cap)])) post) ∧
 (
 0 ≤ p0_n ∧ p0_n ≤ p0_n ∧ ((8 : Nat) : Int) * p0_n ≤ 140737488355328 ∧ p0_n ≤ 1000000000 ∧
 H.new h678 (repl (p0_n).toNat [(Value.int .i64 0)]) fun r691 h692 =>
 0 ≤ p0_n ∧ p0_n ≤ p0_n ∧ ((8 : Nat) : Int) * p0_n ≤ 140737488355328 ∧ p0_n ≤ 1000000000 ∧
 H.new h692 (repl (p0_n).toNat [(Value.int .i64 0)]) fun r693 h694 =>
 ([(Value.slice (some (Addr.mk r649 0 none)) (((8 : Int)).toNat) (((8 : Int)).toNat)), (Value.int .i64 0), (Value.int .i64 0), (Value.slice (some (Addr.mk r693 0 none)) ((p0_n).toNat) ((p0_n).toNat)), (Value.slice (some (Addr.mk r647 0 none)) ((p0_n).toNat) ((p0_n).toNat)), (Value.slice (some (Addr.mk r677 0 none)) ((p0_n).toNat) ((p0_n).toNat)), (Value.slice (some (Addr.mk r691 0 none)) ((p0_n).toNat) ((p0_n).toNat))]).length = 7 ∧ (Program.underlying Go.Proofs.Tryd.prog 49).isSome = true ∧
 H.wr h694 (Addr.mk r1 0 none) ([(Value.slice (some (Addr.mk r649 0 none)) (((8 : Int)).toNat) (((8 : Int)).toNat)), (Value.int .i64 0), (Value.int .i64 0), (Value.slice (some (Addr.mk r693 0 none)) ((p0_n).toNat) ((p0_n).toNat)), (Value.slice (some (Addr.mk r647 0 none)) ((p0_n).toNat) ((p0_n).toNat)), (Value.slice (some (Addr.mk r677 0 none)) ((p0_n).toNat) ((p0_n).toNat)), (Value.slice (some (Addr.mk r691 0 none)) ((p0_n).toNat) ((p0_n).toNat))]) fun h695 =>
 ∃ x696 : SV, H.rd h695 (Addr.add (Addr.mk r1 0 none) 0) (Value.slice x696.a x696.len x696.cap) ∧
 ∃ x697 : Int, H.rd h695 (Addr.add (Addr.mk r1 0 none) 1) (Value.int .i64 x697) ∧
 ∃ x698 : Int, H.rd h695 (Addr.add (Addr.mk r1 0 none) 2) (Value.int .i64 x698) ∧
 ∃ x699 : SV, H.rd h695 (Addr.add (Addr.mk r1 0 none) 3) (Value.slice x699.a x699.len x699.cap) ∧
 ∃ x700 : SV, H.rd h695 (Addr.add (Addr.mk r1 0 none) 4) (Value.slice x700.a x700.len x700.cap) ∧
 ∃ x701 : SV, H.rd h695 (Addr.add (Addr.mk r1 0 none) 5) (Value.slice x701.a x701.len x701.cap) ∧
 ∃ x702 : SV, H.rd h695 (Addr.add (Addr.mk r1 0 none) 6) (Value.slice x702.a x702.len x702.cap) ∧
 VRet h695 (Value.agg (List.toArray [(Value.slice x696.a x696.len x696.cap), (Value.int .i64 x697), (Value.int .i64 x698), (Value.slice x699.a x699.len x699.cap), (Value.slice x700.a x700.len x700.cap), (Value.slice x701.a x701.len x701.cap), (Value.slice x702.a x702.len x702.cap)])) post)) ∧
 (
 0 ≤ p0_n ∧ p0_n ≤ p0_n ∧ ((8 : Nat) : Int) * p0_n ≤ 140737488355328 ∧ p0_n ≤ 1000000000 ∧
 H.new h650 (repl (p0_n).toNat [(Value.int .i64 0)]) fun r703 h704 =>
 (
 0 ≤ p0_n ∧ p0_n ≤ p0_n ∧ ((8 : Nat) : Int) * p0_n ≤ 140737488355328 ∧ p0_n ≤ 1000000000 ∧
 H.new h704 (repl (p0_n).toNat [(Value.int .i64 0)]) fun r705 h706 =>
 0 ≤ p0_n ∧ p0_n ≤ p0_n ∧ ((8 : Nat) : Int) * p0_n ≤ 140737488355328 ∧ p0_n ≤ 1000000000 ∧
 H.new h706 (repl (p0_n).toNat [(Value.int .i64 0)]) fun r707 h708 =>
 ([(Value.slice (some (Addr.mk r649 0 none)) (((8 : Int)).toNat) (((8 : Int)).toNat)), (Value.int .i64 0), (Value.int .i64 0), (Value.slice (some (Addr.mk r705 0 none)) ((p0_n).toNat) ((p0_n).toNat)), (Value.slice (some (Addr.mk r647 0 none)) ((p0_n).toNat) ((p0_n).toNat)), (Value.slice (some (Addr.mk r707 0 none)) ((p0_n).toNat) ((p0_n).toNat)), (Value.slice (some (Addr.mk r703 0 none)) ((p0_n).toNat) ((p0_n).toNat))]).length = 7 ∧ (Program.underlying Go.Proofs.Tryd.prog 49).isSome = true ∧
 H.wr h708 (Addr.mk r1 0 none) ([(Value.slice (some (Addr.mk r649 0 none)) (((8 : Int)).toNat) (((8 : Int)).toNat)), (Value.int .i64 0), (Value.int .i64 0), (Value.slice (some (Addr.mk r705 0 none)) ((p0_n).toNat) ((p0_n).toNat)), (Value.slice (some (Addr.mk r647 0 none)) ((p0_n).toNat) ((p0_n).toNat)), (Value.slice (some (Addr.mk r707 0 none)) ((p0_n).toNat) ((p0_n).toNat)), (Value.slice (some (Addr.mk r703 0 none)) ((p0_n).toNat) ((p0_n).toNat))]) fun h709 =>
 ∃ x710 : SV, H.rd h709 (Addr.add (Addr.mk r1 0 none) 0) (Value.slice x710.a x710.len x710.cap) ∧
 ∃ x711 : Int, H.rd h709 (Addr.add (Addr.mk r1 0 none) 1) (Value.int .i64 x711) ∧
 ∃ x712 : Int, H.rd h709 (Addr.add (Addr.mk r1 0 none) 2) (Value.int .i64 x712) ∧
 ∃ x713 : SV, H.rd h709 (Addr.add (Addr.mk r1 0 none) 3) (Value.slice x713.a x713.len x713.cap) ∧
 ∃ x714 : SV, H.rd h709 (Addr.add (Addr.mk r1 0 none) 4) (Value.slice x714.a x714.len x714.cap) ∧
 ∃ x715 : SV, H.rd h709 (Addr.add (Addr.mk r1 0 none) 5) (Value.slice x715.a x715.len x715.cap) ∧
 ∃ x716 : SV, H.rd h709 (Addr.add (Addr.mk r1 0 none) 6) (Value.slice x716.a x716.len x716.cap) ∧
 VRet h709 (Value.agg (List.toArray [(Value.slice x710.a x710.len x710.cap), (Value.int .i64 x711), (Value.int .i64 x712), (Value.slice x713.a x713.len x713.cap), (Value.slice x714.a x714.len x714.cap), (Value.slice x715.a x715.len x715.cap), (Value.slice x716.a x716.len x716.cap)])) post) ∧
 (
 0 ≤ p0_n ∧ p0_n ≤ p0_n ∧ ((8 : Nat) : Int) * p0_n ≤ 140737488355328 ∧ p0_n ≤ 1000000000 ∧
 H.new h704 (repl (p0_n).toNat [(Value.int .i64 0)]) fun r717 h718 =>
 0 ≤ p0_n ∧ p0_n ≤ p0_n ∧ ((8 : Nat) : Int) * p0_n ≤ 140737488355328 ∧ p0_n ≤ 1000000000 ∧
 H.new h718 (repl (p0_n).toNat [(Value.int .i64 0)]) fun r719 h720 =>
 ([(Value.slice (some (Addr.mk r649 0 none)) (((8 : Int)).toNat) (((8 : Int)).toNat)), (Value.int .i64 0), (Value.int .i64 0), (Value.slice (some (Addr.mk r719 0 none)) ((p0_n).toNat) ((p0_n).toNat)), (Value.slice (some (Addr.mk r647 0 none)) ((p0_n).toNat) ((p0_n).toNat)), (Value.slice (some (Addr.mk r717 0 none)) ((p0_n).toNat) ((p0_n).toNat)), (Value.slice (some (Addr.mk r703 0 none)) ((p0_n).toNat) ((p0_n).toNat))]).length = 7 ∧ (Program.underlying Go.Proofs.Tryd.prog 49).isSome = true ∧
 H.wr h720 (Addr.mk r1 0 none) ([(Value.slice (some (Addr.mk r649 0 none)) (((8 : Int)).toNat) (((8 : Int)).toNat)), (Value.int .i64 0), (Value.int .i64 0), (Value.slice (some (Addr.mk r719 0 none)) ((p0_n).toNat) ((p0_n).toNat)), (Value.slice (some (Addr.mk r647 0 none)) ((p0_n).toNat) ((p0_n).toNat)), (Value.slice (some (Addr.mk r717 0 none)) ((p0_n).toNat) ((p0_n).toNat)), (Value.slice (some (Addr.mk r703 0 none)) ((p0_n).toNat) ((p0_n).toNat))]) fun h721 =>
 ∃ x722 : SV, H.rd h721 (Addr.add (Addr.mk r1 0 none) 0) (Value.slice x722.a x722.len x722.cap) ∧
 ∃ x723 : Int, H.rd h721 (Addr.add (Addr.mk r1 0 none) 1) (Value.int .i64 x723) ∧
 ∃ x724 : Int, H.rd h721 (Addr.add (Addr.mk r1 0 none) 2) (Value.int .i64 x724) ∧
 ∃ x725 : SV, H.rd h721 (Addr.add (Addr.mk r1 0 none) 3) (Value.slice x725.a x725.len x725.cap) ∧
 ∃ x726 : SV, H.rd h721 (Addr.add (Addr.mk r1 0 none) 4) (Value.slice x726.a x726.len x726.cap) ∧
 ∃ x727 : SV, H.rd h721 (Addr.add (Addr.mk r1 0 none) 5) (Value.slice x727.a x727.len x727.cap) ∧
 ∃ x728 : SV, H.rd h721 (Addr.add (Addr.mk r1 0 none) 6) (Value.slice x728.a x728.len x728.cap) ∧
 VRet h721 (Value.agg (List.toArray [(Value.slice x722.a x722.len x722.cap), (Value.int .i64 x723), (Value.int .i64 x724), (Value.slice x725.a x725.len x725.cap), (Value.slice x726.a x726.len x726.cap), (Value.slice x727.a x727.len x727.cap), (Value.slice x728.a x728.len x728.cap)])) post)))) ∧
 (
 (
 0 ≤ p0_n ∧ p0_n ≤ p0_n ∧ ((8 : Nat) : Int) * p0_n ≤ 140737488355328 ∧ p0_n ≤ 1000000000 ∧
 H.new h648 (repl (p0_n).toNat [(Value.int .i64 0)]) fun r729 h730 =>
 (
 0 ≤ (8 : Int) ∧ (8 : Int) ≤ (8 : Int) ∧ ((8 : Nat) : Int) * (8 : Int) ≤ 140737488355328 ∧ (8 : Int) ≤ 1000000000 ∧
 H.new h730 (repl ((8 : Int)).toNat [(Value.int .i64 0)]) fun r731 h732 =>
 (
 0 ≤ p0_n ∧ p0_n ≤ p0_n ∧ ((8 : Nat) : Int) * p0_n ≤ 140737488355328 ∧ p0_n ≤ 1000000000 ∧
 H.new h732 (repl (p0_n).toNat [(Value.int .i64 0)]) fun r733 h734 =>
 0 ≤ p0_n ∧ p0_n ≤ p0_n ∧ ((8 : Nat) : Int) * p0_n ≤ 140737488355328 ∧ p0_n ≤ 1000000000 ∧
 H.new h734 (repl (p0_n).toNat [(Value.int .i64 0)]) fun r735 h736 =>
 ([(Value.slice (some (Addr.mk r731 0 none)) (((8 : Int)).toNat) (((8 : Int)).toNat)), (Value.int .i64 0), (Value.int .i64 0), (Value.slice (some (Addr.mk r729 0 none)) ((p0_n).toNat) ((p0_n).toNat)), (Value.slice (some (Addr.mk r647 0 none)) ((p0_n).toNat) ((p0_n).toNat)), (Value.slice (some (Addr.mk r733 0 none)) ((p0_n).toNat) ((p0_n).toNat)), (Value.slice (some (Addr.mk r735 0 none)) ((p0_n).toNat) ((p0_n).toNat))]).length = 7 ∧ (Program.underlying Go.Proofs.Tryd.prog 49).isSome = true ∧
 H.wr h736 (Addr.mk r1 0 none) ([(Value.slice (some (Addr.mk r731 0 none)) (((8 : Int)).toNat) (((8 : Int)).toNat)), (Value.int .i64 0), (Value.int .i64 0), (Value.slice (some (Addr.mk r729 0 none)) ((p0_n).toNat) ((p0_n).toNat)), (Value.slice (some (Addr.mk r647 0 none)) ((p0_n).toNat) ((p0_n).toNat)), (Value.slice (some (Addr.mk r733 0 none)) ((p0_n).toNat) ((p0_n).toNat)), (Value.slice (some (Addr.mk r735 0 none)) ((p0_n).toNat) ((p0_n).toNat))]) fun h737 =>
 ∃ x738 : SV, H.rd h737 (Addr.add (Addr.mk r1 0 none) 0) (Value.slice x738.a x738.len x738.cap) ∧
 ∃ x739 : Int, H.rd h737 (Addr.add (Addr.mk r1 0 none) 1) (Value.int .i64 x739) ∧
 ∃ x740 : Int, H.rd h737 (Addr.add (Addr.mk r1 0 none) 2) (Value.int .i64 x740) ∧
 ∃ x741 : SV, H.rd h737 (Addr.add (Addr.mk r1 0 none) 3) (Value.slice x741.a x741.len x741.cap) ∧
 ∃ x742 : SV, H.rd h737 (Addr.add (Addr.mk r1 0 none) 4) (Value.slice x742.a x742.len x742.cap) ∧
 ∃ x743 : SV, H.rd h737 (Addr.add (Addr.mk r1 0 none) 5) (Value.slice x743.a x743.len x743.cap) ∧
 ∃ x744 : SV, H.rd h737 (Addr.add (Addr.mk r1 0 none) 6) (Value.slice x744.a x744.len x744.cap) ∧
 VRet h737 (Value.agg (List.toArray [(Value.slice x738.a x738.len x738.cap), (Value.int .i64 x739), (Value.int .i64 x740), (Value.slice x741.a x741.len x741.cap), (Value.slice x742.a x742.len x742.cap), (Value.slice x743.a x743.len x743.cap), (Value.slice x744.a x744.len x744.cap)])) post) ∧
 (
 0 ≤ p0_n ∧ p0_n ≤ p0_n ∧ ((8 : Nat) : Int) * p0_n ≤ 140737488355328 ∧ p0_n ≤ 1000000000 ∧
 H.new h732 (repl (p0_n).toNat [(Value.int .i64 0)]) fun r745 h746 =>
 0 ≤ p0_n ∧ p0_n ≤ p0_n ∧ ((8 : Nat) : Int) * p0_n ≤ 140737488355328 ∧ p0_n ≤ 1000000000 ∧
 H.new h746 (repl (p0_n).toNat [(Value.int .i64 0)]) fun r747 h748 =>
 ([(Value.slice (some (Addr.mk r731 0 none)) (((8 : Int)).toNat) (((8 : Int)).toNat)), (Value.int .i64 0), (Value.int .i64 0), (Value.slice (some (Addr.mk r729 0 none)) ((p0_n).toNat) ((p0_n).toNat)), (Value.slice (some (Addr.mk r647 0 none)) ((p0_n).toNat) ((p0_n).toNat)), (Value.slice (some (Addr.mk r747 0 none)) ((p0_n).toNat) ((p0_n).toNat)), (Value.slice (some (Addr.mk r745 0 none)) ((p0_n).toNat) ((p0_n).toNat))]).length = 7 ∧ (Program.underlying Go.Proofs.Tryd.prog 49).isSome = true ∧
 H.wr h748 (Addr.mk r1 0 none) ([(Value.slice (some (Addr.mk r731 0 none)) (((8 : Int)).toNat) (((8 : Int)).toNat)), (Value.int .i64 0), (Value.int .i64 0), (Value.slice (some (Addr.mk r729 0 none)) ((p0_n).toNat) ((p0_n).toNat)), (Value.slice (some (Addr.mk r647 0 none)) ((p0_n).toNat) ((p0_n).toNat)), (Value.slice (some (Addr.mk r747 0 none)) ((p0_n).toNat) ((p0_n).toNat)), (Value.slice (some (Addr.mk r745 0 none)) ((p0_n).toNat) ((p0_n).toNat))]) fun h749 =>
 ∃ x750 : SV, H.rd h749 (Addr.add (Addr.mk r1 0 none) 0) (Value.slice x750.a x750.len x750.cap) ∧
 ∃ x751 : Int, H.rd h749 (Addr.add (Addr.mk r1 0 none) 1) (Value.int .i64 x751) ∧
 ∃ x752 : Int, H.rd h749 (Addr.add (Addr.mk r1 0 none) 2) (Value.int .i64 x752) ∧
 ∃ x753 : SV, H.rd h749 (Addr.add (Addr.mk r1 0 none) 3) (Value.slice x753.a x753.len x753.cap) ∧
 ∃ x754 : SV, H.rd h749 (Addr.add (Addr.mk r1 0 none) 4) (Value.slice x754.a x754.len x754.cap) ∧
 ∃ x755 : SV, H.rd h749 (Addr.add (Addr.mk r1 0 none) 5) (Value.slice x755.a x755.len x755.cap) ∧
 ∃ x756 : SV, H.rd h749 (Addr.add (Addr.mk r1 0 none) 6) (Value.slice x756.a x756.len x756.cap) ∧
 VRet h749 (Value.agg (List.toArray [(Value.slice x750.a x750.len x750.cap), (Value.int .i64 x751), (Value.int .i64 x752), (Value.slice x753.a x753.len x753.cap), (Value.slice x754.a x754.len x754.cap), (Value.slice x755.a x755.len x755.cap), (Value.slice x756.a x756.len x756.cap)])) post)) ∧
 (
 (
 0 ≤ p0_n ∧ p0_n ≤ p0_n ∧ ((8 : Nat) : Int) * p0_n ≤ 140737488355328 ∧ p0_n ≤ 1000000000 ∧
 H.new h730 (repl (p0_n).toNat [(Value.int .i64 0)]) fun r757 h758 =>
 (
 0 ≤ (8 : Int) ∧ (8 : Int) ≤ (8 : Int) ∧ ((8 : Nat) : Int) * (8 : Int) ≤ 140737488355328 ∧ (8 : Int) ≤ 1000000000 ∧
 H.new h758 (repl ((8 : Int)).toNat [(Value.int .i64 0)]) fun r759 h760 =>
 0 ≤ p0_n ∧ p0_n ≤ p0_n ∧ ((8 : Nat) : Int) * p0_n ≤ 140737488355328 ∧ p0_n ≤ 1000000000 ∧
 H.new h760 (repl (p0_n).toNat [(Value.int .i64 0)]) fun r761 h762 =>
 ([(Value.slice (some (Addr.mk r759 0 none)) (((8 : Int)).toNat) (((8 : Int)).toNat)), (Value.int .i64 0), (Value.int .i64 0), (Value.slice (some (Addr.mk r729 0 none)) ((p0_n).toNat) ((p0_n).toNat)), (Value.slice (some (Addr.mk r647 0 none)) ((p0_n).toNat) ((p0_n).toNat)), (Value.slice (some (Addr.mk r757 0 none)) ((p0_n).toNat) ((p0_n).toNat)), (Value.slice (some (Addr.mk r761 0 none)) ((p0_n).toNat) ((p0_n).toNat))]).length = 7 ∧ (Program.underlying Go.Proofs.Tryd.prog 49).isSome = true ∧
 H.wr h762 (Addr.mk r1 0 none) ([(Value.slice (some (Addr.mk r759 0 none)) (((8 : Int)).toNat) (((8 : Int)).toNat)), (Value.int .i64 0), (Value.int .i64 0), (Value.slice (some (Addr.mk r729 0 none)) ((p0_n).toNat) ((p0_n).toNat)), (Value.slice (some (Addr.mk r647 0 none)) ((p0_n).toNat) ((p0_n).toNat)), (Value.slice (some (Addr.mk r757 0 none)) ((p0_n).toNat) ((p0_n).toNat)), (Value.slice (some (Addr.mk r761 0 none)) ((p0_n).toNat) ((p0_n).toNat))]) fun h763 =>
 ∃ x764 : SV, H.rd h763 (Addr.add (Addr.mk r1 0 none) 0) (Value.slice x764.a x764.len x764.cap) ∧
 ∃ x765 : Int, H.rd h763 (Addr.add (Addr.mk r1 0 none) 1) (Value.int .i64 x765) ∧
 ∃ x766 : Int, H.rd h763 (Addr.add (Addr.mk r1 0 none) 2) (Value.int .i64 x766) ∧
 ∃ x767 : SV, H.rd h763 (Addr.add (Addr.mk r1 0 none) 3) (Value.slice x767.a x767.len x767.cap) ∧
 ∃ x768 : SV, H.rd h763 (Addr.add (Addr.mk r1 0 none) 4) (Value.slice x768.a x768.len x768.cap) ∧
 ∃ x769 : SV, H.rd h763 (Addr.add (Addr.mk r1 0 none) 5) (Value.slice x769.a x769.len x769.cap) ∧
 ∃ x770 : SV, H.rd h763 (Addr.add (Addr.mk r1 0 none) 6) (Value.slice x770.a x770.len x770.cap) ∧
 VRet h763 (Value.agg (List.toArray [(Value.slice x764.a x764.len x764.cap), (Value.int .i64 x765), (Value.int .i64 x766), (Value.slice x767.a x767.len x767.cap), (Value.slice x768.a x768.len x768.cap), (Value.slice x769.a x769.len x769.cap), (Value.slice x770.a x770.len x770.cap)])) post) ∧
 (
 0 ≤ p0_n ∧ p0_n ≤ p0_n ∧ ((8 : Nat) : Int) * p0_n ≤ 140737488355328 ∧ p0_n ≤ 1000000000 ∧
 H.new h758 (repl (p0_n).toNat [(Value.int .i64 0)]) fun r771 h772 =>
 0 ≤ (8 : Int) ∧ (8 : Int) ≤ (8 : Int) ∧ ((8 : Nat) : Int) * (8 : Int) ≤ 140737488355328 ∧ (8 : Int) ≤ 1000000000 ∧
 H.new h772 (repl ((8 : Int)).toNat [(Value.int .i64 0)]) fun r773 h774 =>
 ([(Value.slice (some (Addr.mk r773 0 none)) (((8 : Int)).toNat) (((8 : Int)).toNat)), (Value.int .i64 0), (Value.int .i64 0), (Value.slice (some (Addr.mk r729 0 none)) ((p0_n).toNat) ((p0_n).toNat)), (Value.slice (some (Addr.mk r647 0 none)) ((p0_n).toNat) ((p0_n).toNat)), (Value.slice (some (Addr.mk r757 0 none)) ((p0_n).toNat) ((p0_n).toNat)), (Value.slice (some (Addr.mk r771 0 none)) ((p0_n).toNat) ((p0_n).toNat))]).length = 7 ∧ (Program.underlying Go.Proofs.Tryd.prog 49).isSome = true ∧
 H.wr h774 (Addr.mk r1 0 none) ([(Value.slice (some (Addr.mk r773 0 none)) (((8 : Int)).toNat) (((8 : Int)).toNat)), (Value.int .i64 0), (Value.int .i64 0), (Value.slice (some (Addr.mk r729 0 none)) ((p0_n).toNat) ((p0_n).toNat)), (Value.slice (some (Addr.mk r647 0 none)) ((p0_n).toNat) ((p0_n).toNat)), (Value.slice (some (Addr.mk r757 0 none)) ((p0_n).toNat) ((p0_n).toNat)), (Value.slice (some (Addr.mk r771 0 none)) ((p0_n).toNat) ((p0_n).toNat))]) fun h775 =>
 ∃ x776 : SV, H.rd h775 (Addr.add (Addr.mk r1 0 none) 0) (Value.slice x776.a x776.len x776.cap) ∧
 ∃ x777 : Int, H.rd h775 (Addr.add (Addr.mk r1 0 none) 1) (Value.int .i64 x777) ∧
 ∃ x778 : Int, H.rd h775 (Addr.add (Addr.mk r1 0 none) 2) (Value.int .i64 x778) ∧
 ∃ x779 : SV, H.rd h775 (Addr.add (Addr.mk r1 0 none) 3) (Value.slice x779.a x779.len x779.cap) ∧
 ∃ x780 : SV, H.rd h775 (Addr.add (Addr.mk r1 0 none) 4) (Value.slice x780.a x780.len x780.cap) ∧
 ∃ x781 : SV, H.rd h775 (Addr.add (Addr.mk r1 0 none) 5) (Value.slice x781.a x781.len x781.cap) ∧
 ∃ x782 : SV, H.rd h775 (Addr.add (Addr.mk r1 0 none) 6) (Value.slice x782.a x782.len x782.cap) ∧
 VRet h775 (Value.agg (List.toArray [(Value.slice x776.a x776.len x776.cap), (Value.int .i64 x777), (Value.int .i64 x778), (Value.slice x779.a x779.len x779.cap), (Value.slice x780.a x780.len x780.cap), (Value.slice x781.a x781.len x781.cap), (Value.slice x782.a x782.len x782.cap)])) post)) ∧
 (
 0 ≤ p0_n ∧ p0_n ≤ p0_n ∧ ((8 : Nat) : Int) * p0_n ≤ 140737488355328 ∧ p0_n ≤ 1000000000 ∧
 H.new h730 (repl (p0_n).toNat [(Value.int .i64 0)]) fun r783 h784 =>
 (
 0 ≤ (8 : Int) ∧ (8 : Int) ≤ (8 : Int) ∧ ((8 : Nat) : Int) * (8 : Int) ≤ 140737488355328 ∧ (8 : Int) ≤ 1000000000 ∧
 H.new h784 (repl ((8 : Int)).toNat [(Value.int .i64 0)]) fun r785 h786 =>
 0 ≤ p0_n ∧ p0_n ≤ p0_n ∧ ((8 : Nat) : Int) * p0_n ≤ 140737488355328 ∧ p0_n ≤ 1000000000 ∧
 H.new h786 (repl (p0_n).toNat [(Value.int .i64 0)]) fun r787 h788 =>
 ([(Value.slice (some (Addr.mk r785 0 none)) (((8 : Int)).toNat) (((8 : Int)).toNat)), (Value.int .i64 0), (Value.int .i64 0), (Value.slice (some (Addr.mk r729 0 none)) ((p0_n).toNat) ((p0_n).toNat)), (Value.slice (some (Addr.mk r647 0 none)) ((p0_n).toNat) ((p0_n).toNat)), (Value.slice (some (Addr.mk r787 0 none)) ((p0_n).toNat) ((p0_n).toNat)), (Value.slice (some (Addr.mk r783 0 none)) ((p0_n).toNat) ((p0_n).toNat))]).length = 7 ∧ (Program.underlying Go.Proofs.Tryd.prog 49).isSome = true ∧
 H.wr h788 (Addr.mk r1 0 none) ([(Value.slice (some (Addr.mk r785 0 none)) (((8 : Int)).toNat) (((8 : Int)).toNat)), (Value.int .i64 0), (Value.int .i64 0), (Value.slice (some (Addr.mk r729 0 none)) ((p0_n).toNat) ((p0_n).toNat)), (Value.slice (some (Addr.mk r647 0 none)) ((p0_n).toNat) ((p0_n).toNat)), (Value.slice (some (Addr.mk r787 0 none)) ((p0_n).toNat) ((p0_n).toNat)), (Value.slice (some (Addr.mk r783 0 none)) ((p0_n).toNat) ((p0_n).toNat))]) fun h789 =>
 ∃ x790 : SV, H.rd h789 (Addr.add (Addr.mk r1 0 none) 0) (Value.slice x790.a x790.len x790.cap) ∧
 ∃ x791 : Int, H.rd h789 (Addr.add (Addr.mk r1 0 none) 1) (Value.int .i64 x791) ∧
 ∃ x792 : Int, H.rd h789 (Addr.add (Addr.mk r1 0 none) 2) (Value.int .i64 x792) ∧
 ∃ x793 : SV, H.rd h789 (Addr.add (Addr.mk r1 0 none) 3) (Value.slice x793.a x793.len x793.cap) ∧
 ∃ x794 : SV, H.rd h789 (Addr.add (Addr.mk r1 0 none) 4) (Value.slice x794.a x794.len x794.cap) ∧
 ∃ x795 : SV, H.rd h789 (Addr.add (Addr.mk r1 0 none) 5) (Value.slice x795.a x795.len x795.cap) ∧
 ∃ x796 : SV, H.rd h789 (Addr.add (Addr.mk r1 0 none) 6) (Value.slice x796.a x796.len x796.cap) ∧
 VRet h789 (Value.agg (List.toArray [(Value.slice x790.a x790.len x790.cap), (Value.int .i64 x791), (Value.int .i64 x792), (Value.slice x793.a x793.len x793.cap), (Value.slice x794.a x794.len x794.cap), (Value.slice x795.a x795.len x795.cap), (Value.slice x796.a x796.len x796.cap)])) post) ∧
 (
 0 ≤ p0_n ∧ p0_n ≤ p0_n ∧ ((8 : Nat) : Int) * p0_n ≤ 140737488355328 ∧ p0_n ≤ 1000000000 ∧
 H.new h784 (repl (p0_n).toNat [(Value.int .i64 0)]) fun r797 h798 =>
 0 ≤ (8 : Int) ∧ (8 : Int) ≤ (8 : Int) ∧ ((8 : Nat) : Int) * (8 : Int) ≤ 140737488355328 ∧ (8 : Int) ≤ 1000000000 ∧
 H.new h798 (repl ((8 : Int)).toNat [(Value.int .i64 0)]) fun r799 h800 =>
 ([(Value.slice (some (Addr.mk r799 0 none)) (((8 : Int)).toNat) (((8 : Int)).toNat)), (Value.int .i64 0), (Value.int .i64 0), (Value.slice (some (Addr.mk r729 0 none)) ((p0_n).toNat) ((p0_n).toNat)), (Value.slice (some (Addr.mk r647 0 none)) ((p0_n).toNat) ((p0_n).toNat)), (Value.slice (some (Addr.mk r797 0 none)) ((p0_n).toNat) ((p0_n).toNat)), (Value.slice (some (Addr.mk r783 0 none)) ((p0_n).toNat) ((p0_n).toNat))]).length = 7 ∧ (Program.underlying Go.Proofs.Tryd.prog 49).isSome = true ∧
 H.wr h800 (Addr.mk r1 0 none) ([(Value.slice (some (Addr.mk r799 0 none)) (((8 : Int)).toNat) (((8 : Int)).toNat)), (Value.int .i64 0), (Value.int .i64 0), (Value.slice (some (Addr.mk r729 0 none)) ((p0_n).toNat) ((p0_n).toNat)), (Value.slice (some (Addr.mk r647 0 none)) ((p0_n).toNat) ((p0_n).toNat)), (Value.slice (some (Addr.mk r797 0 none)) ((p0_n).toNat) ((p0_n).toNat)), (Value.slice (some (Addr.mk r783 0 none)) ((p0_n).toNat) ((p0_n).toNat))]) fun h801 =>
 ∃ x802 : SV, H.rd h801 (Addr.add (Addr.mk r1 0 none) 0) (Value.slice x802.a x802.len x802.cap) ∧
 ∃ x803 : Int, H.rd h801 (Addr.add (Addr.mk r1 0 none) 1) (Value.int .i64 x803) ∧
 ∃ x804 : Int, H.rd h801 (Addr.add (Addr.mk r1 0 none) 2) (Value.int .i64 x804) ∧
 ∃ x805 : SV, H.rd h801 (Addr.add (Addr.mk r1 0 none) 3) (Value.slice x805.a x805.len x805.cap) ∧
 ∃ x806 : SV, H.rd h801 (Addr.add (Addr.mk r1 0 none) 4) (Value.slice x806.a x806.len x806.cap) ∧
 ∃ x807 : SV, H.rd h801 (Addr.add (Addr.mk r1 0 none) 5) (Value.slice x807.a x807.len x807.cap) ∧
 ∃ x808 : SV, H.rd h801 (Addr.add (Addr.mk r1 0 none) 6) (Value.slice x808.a x808.len x808.cap) ∧
 VRet h801 (Value.agg (List.toArray [(Value.slice x802.a x802.len x802.cap), (Value.int .i64 x803), (Value.int .i64 x804), (Value.slice x805.a x805.len x805.cap), (Value.slice x806.a x806.len x806.cap), (Value.slice x807.a x807.len x807.cap), (Value.slice x808.a x808.len x808.cap)])) post)))) ∧
 (
 (
 0 ≤ p0_n ∧ p0_n ≤ p0_n ∧ ((8 : Nat) : Int) * p0_n ≤ 140737488355328 ∧ p0_n ≤ 1000000000 ∧
 H.new h648 (repl (p0_n).toNat [(Value.int .i64 0)]) fun r809 h810 =>
 (
 0 ≤ (8 : Int) ∧ (8 : Int) ≤ (8 : Int) ∧ ((8 : Nat) : Int) * (8 : Int) ≤ 140737488355328 ∧ (8 : Int) ≤ 1000000000 ∧
 H.new h810 (repl ((8 : Int)).toNat [(Value.int .i64 0)]) fun r811 h812 =>
 (
 0 ≤ p0_n ∧ p0_n ≤ p0_n ∧ ((8 : Nat) : Int) * p0_n ≤ 140737488355328 ∧ p0_n ≤ 1000000000 ∧
 H.new h812 (repl (p0_n).toNat [(Value.int .i64 0)]) fun r813 h814 =>
 0 ≤ p0_n ∧ p0_n ≤ p0_n ∧ ((8 : Nat) : Int) * p0_n ≤ 140737488355328 ∧ p0_n ≤ 1000000000 ∧
 H.new h814 (repl (p0_n).toNat [(Value.int .i64 0)]) fun r815 h816 =>
 ([(Value.slice (some (Addr.mk r811 0 none)) (((8 : Int)).toNat) (((8 : Int)).toNat)), (Value.int .i64 0), (Value.int .i64 0), (Value.slice (some (Addr.mk r813 0 none)) ((p0_n).toNat) ((p0_n).toNat)), (Value.slice (some (Addr.mk r647 0 none)) ((p0_n).toNat) ((p0_n).toNat)), (Value.slice (some (Addr.mk r809 0 none)) ((p0_n).toNat) ((p0_n).toNat)), (Value.slice (some (Addr.mk r815 0 none)) ((p0_n).toNat) ((p0_n).toNat))]).length = 7 ∧ (Program.underlying Go.Proofs.Tryd.prog 49).isSome = true ∧
 H.wr h816 (Addr.mk r1 0 none) ([(Value.slice (some (Addr.mk r811 0 none)) (((8 : Int)).toNat) (((8 : Int)).toNat)), (Value.int .i64 0), (Value.int .i64 0), (Value.slice (some (Addr.mk r813 0 none)) ((p0_n).toNat) ((p0_n).toNat)), (Value.slice (some (Addr.mk r647 0 none)) ((p0_n).toNat) ((p0_n).toNat)), (Value.slice (some (Addr.mk r809 0 none)) ((p0_n).toNat) ((p0_n).toNat)), (Value.slice (some (Addr.mk r815 0 none)) ((p0_n).toNat) ((p0_n).toNat))]) fun h817 =>
 ∃ x818 : SV, H.rd h817 (Addr.add (Addr.mk r1 0 none) 0) (Value.slice x818.a x818.len x818.cap) ∧
 ∃ x819 : Int, H.rd h817 (Addr.add (Addr.mk r1 0 none) 1) (Value.int .i64 x819) ∧
 ∃ x820 : Int, H.rd h817 (Addr.add (Addr.mk r1 0 none) 2) (Value.int .i64 x820) ∧
 ∃ x821 : SV, H.rd h817 (Addr.add (Addr.mk r1 0 none) 3) (Value.slice x821.a x821.len x821.cap) ∧
 ∃ x822 : SV, H.rd h817 (Addr.add (Addr.mk r1 0 none) 4) (Value.slice x822.a x822.len x822.cap) ∧
 ∃ x823 : SV, H.rd h817 (Addr.add (Addr.mk r1 0 none) 5) (Value.slice x823.a x823.len x823.cap) ∧
 ∃ x824 : SV, H.rd h817 (Addr.add (Addr.mk r1 0 none) 6) (Value.slice x824.a x824.len x824.cap) ∧
 VRet h817 (Value.agg (List.toArray [(Value.slice x818.a x818.len x818.cap), (Value.int .i64 x819), (Value.int .i64 x820), (Value.slice x821.a x821.len x821.cap), (Value.slice x822.a x822.len x822.cap), (Value.slice x823.a x823.len x823.cap), (Value.slice x824.a x824.len x824.cap)])) post) ∧
 (
 0 ≤ p0_n ∧ p0_n ≤ p0_n ∧ ((8 : Nat) : Int) * p0_n ≤ 140737488355328 ∧ p0_n ≤ 1000000000 ∧
 H.new h812 (repl (p0_n).toNat [(Value.int .i64 0)]) fun r825 h826 =>
 0 ≤ p0_n ∧ p0_n ≤ p0_n ∧ ((8 : Nat) : Int) * p0_n ≤ 140737488355328 ∧ p0_n ≤ 1000000000 ∧
 H.new h826 (repl (p0_n).toNat [(Value.int .i64 0)]) fun r827 h828 =>
 ([(Value.slice (some (Addr.mk r811 0 none)) (((8 : Int)).toNat) (((8 : Int)).toNat)), (Value.int .i64 0), (Value.int .i64 0), (Value.slice (some (Addr.mk r827 0 none)) ((p0_n).toNat) ((p0_n).toNat)), (Value.slice (some (Addr.mk r647 0 none)) ((p0_n).toNat) ((p0_n).toNat)), (Value.slice (some (Addr.mk r809 0 none)) ((p0_n).toNat) ((p0_n).toNat)), (Value.slice (some (Addr.mk r825 0 none)) ((p0_n).toNat) ((p0_n).toNat))]).length = 7 ∧ (Program.underlying Go.Proofs.Tryd.prog 49).isSome = true ∧
 H.wr h828 (Addr.mk r1 0 none) ([(Value.slice (some (Addr.mk r811 0 none)) (((8 : Int)).toNat) (((8 : Int)).toNat)), (Value.int .i64 0), (Value.int .i64 0), (Value.slice (some (Addr.mk r827 0 none)) ((p0_n).toNat) ((p0_n).toNat)), (Value.slice (some (Addr.mk r647 0 none)) ((p0_n).toNat) ((p0_n).toNat)), (Value.slice (some (Addr.mk r809 0 none)) ((p0_n).toNat) ((p0_n).toNat)), (Value.slice (some (Addr.mk r825 0 none)) ((p0_n).toNat) ((p0_n).toNat))]) fun h829 =>
 ∃ x830 : SV, H.rd h829 (Addr.add (Addr.mk r1 0 none) 0) (Value.slice x830.a x830.len x830.cap) ∧
 ∃ x831 : Int, H.rd h829 (Addr.add (Addr.mk r1 0 none) 1) (Value.int .i64 x831) ∧
 ∃ x832 : Int, H.rd h829 (Addr.add (Addr.mk r1 0 none) 2) (Value.int .i64 x832) ∧
 ∃ x833 : SV, H.rd h829 (Addr.add (Addr.mk r1 0 none) 3) (Value.slice x833.a x833.len x833.cap) ∧
 ∃ x834 : SV, H.rd h829 (Addr.add (Addr.mk r1 0 none) 4) (Value.slice x834.a x834.len x834.cap) ∧
 ∃ x835 : SV, H.rd h829 (Addr.add (Addr.mk r1 0 none) 5) (Value.slice x835.a x835.len x835.cap) ∧
 ∃ x836 : SV, H.rd h829 (Addr.add (Addr.mk r1 0 none) 6) (Value.slice x836.a x836.len x836.cap) ∧
 VRet h829 (Value.agg (List.toArray [(Value.slice x830.a x830.len x830.cap), (Value.int .i64 x831), (Value.int .i64 x832), (Value.slice x833.a x833.len x833.cap), (Value.slice x834.a x834.len x834.cap), (Value.slice x835.a x835.len x835.cap), (Value.slice x836.a x836.len x836.cap)])) post)) ∧
 (
 (
 0 ≤ p0_n ∧ p0_n ≤ p0_n ∧ ((8 : Nat) : Int) * p0_n ≤ 140737488355328 ∧ p0_n ≤ 1000000000 ∧
 H.new h810 (repl (p0_n).toNat [(Value.int .i64 0)]) fun r837 h838 =>
 (
 0 ≤ (8 : Int) ∧ (8 : Int) ≤ (8 : Int) ∧ ((8 : Nat) : Int) * (8 : Int) ≤ 140737488355328 ∧ (8 : Int) ≤ 1000000000 ∧
 H.new h838 (repl ((8 : Int)).toNat [(Value.int .i64 0)]) fun r839 h840 =>
 0 ≤ p0_n ∧ p0_n ≤ p0_n ∧ ((8 : Nat) : Int) * p0_n ≤ 140737488355328 ∧ p0_n ≤ 1000000000 ∧
 H.new h840 (repl (p0_n).toNat [(Value.int .i64 0)]) fun r841 h842 =>
 ([(Value.slice (some (Addr.mk r839 0 none)) (((8 : Int)).toNat) (((8 : Int)).toNat)), (Value.int .i64 0), (Value.int .i64 0), (Value.slice (some (Addr.mk r837 0 none)) ((p0_n).toNat) ((p0_n).toNat)), (Value.slice (some (Addr.mk r647 0 none)) ((p0_n).toNat) ((p0_n).toNat)), (Value.slice (some (Addr.mk r809 0 none)) ((p0_n).toNat) ((p0_n).toNat)), (Value.slice (some (Addr.mk r841 0 none)) ((p0_n).toNat) ((p0_n).toNat))]).length = 7 ∧ (Program.underlying Go.Proofs.Tryd.prog 49).isSome = true ∧
 H.wr h842 (Addr.mk r1 0 none) ([(Value.slice (some (Addr.mk r839 0 none)) (((8 : Int)).toNat) (((8 : Int)).toNat)), (Value.int .i64 0), (Value.int .i64 0), (Value.slice (some (Addr.mk r837 0 none)) ((p0_n).toNat) ((p0_n).toNat)), (Value.slice (some (Addr.mk r647 0 none)) ((p0_n).toNat) ((p0_n).toNat)), (Value.slice (some (Addr.mk r809 0 none)) ((p0_n).toNat) ((p0_n).toNat)), (Value.slice (some (Addr.mk r841 0 none)) ((p0_n).toNat) ((p0_n).toNat))]) fun h843 =>
 ∃ x844 : SV, H.rd h843 (Addr.add (Addr.mk r1 0 none) 0) (Value.slice x844.a x844.len x844.cap) ∧
 ∃ x845 : Int, H.rd h843 (Addr.add (Addr.mk r1 0 none) 1) (Value.int .i64 x845) ∧
 ∃ x846 : Int, H.rd h843 (Addr.add (Addr.mk r1 0 none) 2) (Value.int .i64 x846) ∧
 ∃ x847 : SV, H.rd h843 (Addr.add (Addr.mk r1 0 none) 3) (Value.slice x847.a x847.len x847.cap) ∧
 ∃ x848 : SV, H.rd h843 (Addr.add (Addr.mk r1 0 none) 4) (Value.slice x848.a x848.len x848.cap) ∧
 ∃ x849 : SV, H.rd h843 (Addr.add (Addr.mk r1 0 none) 5) (Value.slice x849.a x849.len x849.cap) ∧
 ∃ x850 : SV, H.rd h843 (Addr.add (Addr.mk r1 0 none) 6) (Value.slice x850.a x850.len x850.cap) ∧
 VRet h843 (Value.agg (List.toArray [(Value.slice x844.a x844.len x844.cap), (Value.int .i64 x845), (Value.int .i64 x846), (Value.slice x847.a x847.len x847.cap), (Value.slice x848.a x848.len x848.cap), (Value.slice x849.a x849.len x849.cap), (Value.slice x850.a x850.len x850.cap)])) post) ∧
 (
 0 ≤ p0_n ∧ p0_n ≤ p0_n ∧ ((8 : Nat) : Int) * p0_n ≤ 140737488355328 ∧ p0_n ≤ 1000000000 ∧
 H.new h838 (repl (p0_n).toNat [(Value.int .i64 0)]) fun r851 h852 =>
 0 ≤ (8 : Int) ∧ (8 : Int) ≤ (8 : Int) ∧ ((8 : Nat) : Int) * (8 : Int) ≤ 140737488355328 ∧ (8 : Int) ≤ 1000000000 ∧
 H.new h852 (repl ((8 : Int)).toNat [(Value.int .i64 0)]) fun r853 h854 =>
 ([(Value.slice (some (Addr.mk r853 0 none)) (((8 : Int)).toNat) (((8 : Int)).toNat)), (Value.int .i64 0), (Value.int .i64 0), (Value.slice (some (Addr.mk r837 0 none)) ((p0_n).toNat) ((p0_n).toNat)), (Value.slice (some (Addr.mk r647 0 none)) ((p0_n).toNat) ((p0_n).toNat)), (Value.slice (some (Addr.mk r809 0 none)) ((p0_n).toNat) ((p0_n).toNat)), (Value.slice (some (Addr.mk r851 0 none)) ((p0_n).toNat) ((p0_n).toNat))]).length = 7 ∧ (Program.underlying Go.Proofs.Tryd.prog 49).isSome = true ∧
 H.wr h854 (Addr.mk r1 0 none) ([(Value.slice (some (Addr.mk r853 0 none)) (((8 : Int)).toNat) (((8 : Int)).toNat)), (Value.int .i64 0), (Value.int .i64 0), (Value.slice (some (Addr.mk r837 0 none)) ((p0_n).toNat) ((p0_n).toNat)), (Value.slice (some (Addr.mk r647 0 none)) ((p0_n).toNat) ((p0_n).toNat)), (Value.slice (some (Addr.mk r809 0 none)) ((p0_n).toNat) ((p0_n).toNat)), (Value.slice (some (Addr.mk r851 0 none)) ((p0_n).toNat) ((p0_n).toNat))]) fun h855 =>
 ∃ x856 : SV, H.rd h855 (Addr.add (Addr.mk r1 0 none) 0) (Value.slice x856.a x856.len x856.cap) ∧
 ∃ x857 : Int, H.rd h855 (Addr.add (Addr.mk r1 0 none) 1) (Value.int .i64 x857) ∧
 ∃ x858 : Int, H.rd h855 (Addr.add (Addr.mk r1 0 none) 2) (Value.int .i64 x858) ∧
 ∃ x859 : SV, H.rd h855 (Addr.add (Addr.mk r1 0 none) 3) (Value.slice x859.a x859.len x859.cap) ∧
 ∃ x860 : SV, H.rd h855 (Addr.add (Addr.mk r1 0 none) 4) (Value.slice x860.a x860.len x860.cap) ∧
 ∃ x861 : SV, H.rd h855 (Addr.add (Addr.mk r1 0 none) 5) (Value.slice x861.a x861.len x861.cap) ∧
 ∃ x862 : SV, H.rd h855 (Addr.add (Addr.mk r1 0 none) 6) (Value.slice x862.a x862.len x862.cap) ∧
 VRet h855 (Value.agg (List.toArray [(Value.slice x856.a x856.len x856.cap), (Value.int .i64 x857), (Value.int .i64 x858), (Value.slice x859.a x859.len x859.cap), (Value.slice x860.a x860.len x860.cap), (Value.slice x861.a x861.len x861.cap), (Value.slice x862.a x862.len x862.cap)])) post)) ∧
 (
 0 ≤ p0_n ∧ p0_n ≤ p0_n ∧ ((8 : Nat) : Int) * p0_n ≤ 140737488355328 ∧ p0_n ≤ 1000000000 ∧
 H.new h810 (repl (p0_n).toNat [(Value.int .i64 0)]) fun r863 h864 =>
 (
 0 ≤ (8 : Int) ∧ (8 : Int) ≤ (8 : Int) ∧ ((8 : Nat) : Int) * (8 : Int) ≤ 140737488355328 ∧ (8 : Int) ≤ 1000000000 ∧
 H.new h864 (repl ((8 : Int)).toNat [(Value.int .i64 0)]) fun r865 h866 =>
 0 ≤ p0_n ∧ p0_n ≤ p0_n ∧ ((8 : Nat) : Int) * p0_n ≤ 140737488355328 ∧ p0_n ≤ 1000000000 ∧
 H.new h866 (repl (p0_n).toNat [(Value.int .i64 0)]) fun r867 h868 =>
 ([(Value.slice (some (Addr.mk r865 0 none)) (((8 : Int)).toNat) (((8 : Int)).toNat)), (Value.int .i64 0), (Value.int .i64 0), (Value.slice (some (Addr.mk r867 0 none)) ((p0_n).toNat) ((p0_n).toNat)), (Value.slice (some (Addr.mk r647 0 none)) ((p0_n).toNat) ((p0_n).toNat)), (Value.slice (some (Addr.mk r809 0 none)) ((p0_n).toNat) ((p0_n).toNat)), (Value.slice (some (Addr.mk r863 0 none)) ((p0_n).toNat) ((p0_n).toNat))]).length = 7 ∧ (Program.underlying Go.Proofs.Tryd.prog 49).isSome = true ∧
 H.wr h868 (Addr.mk r1 0 none) ([(Value.slice (some (Addr.mk r865 0 none)) (((8 : Int)).toNat) (((8 : Int)).toNat)), (Value.int .i64 0), (Value.int .i64 0), (Value.slice (some (Addr.mk r867 0 none)) ((p0_n).toNat) ((p0_n).toNat)), (Value.slice (some (Addr.mk r647 0 none)) ((p0_n).toNat) ((p0_n).toNat)), (Value.slice (some (Addr.mk r809 0 none)) ((p0_n).toNat) ((p0_n).toNat)), (Value.slice (some (Addr.mk r863 0 none)) ((p0_n).toNat) ((p0_n).toNat))]) fun h869 =>
 ∃ x870 : SV, H.rd h869 (Addr.add (Addr.mk r1 0 none) 0) (Value.slice x870.a x870.len x870.cap) ∧
 ∃ x871 : Int, H.rd h869 (Addr.add (Addr.mk r1 0 none) 1) (Value.int .i64 x871) ∧
 ∃ x872 : Int, H.rd h869 (Addr.add (Addr.mk r1 0 none) 2) (Value.int .i64 x872) ∧
 ∃ x873 : SV, H.rd h869 (Addr.add (Addr.mk r1 0 none) 3) (Value.slice x873.a x873.len x873.cap) ∧
 ∃ x874 : SV, H.rd h869 (Addr.add (Addr.mk r1 0 none) 4) (Value.slice x874.a x874.len x874.cap) ∧
 ∃ x875 : SV, H.rd h869 (Addr.add (Addr.mk r1 0 none) 5) (Value.slice x875.a x875.len x875.cap) ∧
 ∃ x876 : SV, H.rd h869 (Addr.add (Addr.mk r1 0 none) 6) (Value.slice x876.a x876.len x876.cap) ∧
 VRet h869 (Value.agg (List.toArray [(Value.slice x870.a x870.len x870.cap), (Value.int .i64 x871), (Value.int .i64 x872), (Value.slice x873.a x873.len x873.cap), (Value.slice x874.a x874.len x874.cap), (Value.slice x875.a x875.len x875.cap), (Value.slice x876.a x876.len x876.cap)])) post) ∧
 (
 0 ≤ p0_n ∧ p0_n ≤ p0_n ∧ ((8 : Nat) : Int) * p0_n ≤ 140737488355328 ∧ p0_n ≤ 1000000000 ∧
 H.new h864 (repl (p0_n).toNat [(Value.int .i64 0)]) fun r877 h878 =>
 0 ≤ (8 : Int) ∧ (8 : Int) ≤ (8 : Int) ∧ ((8 : Nat) : Int) * (8 : Int) ≤ 140737488355328 ∧ (8 : Int) ≤ 1000000000 ∧
 H.new h878 (repl ((8 : Int)).toNat [(Value.int .i64 0)]) fun r879 h880 =>
 ([(Value.slice (some (Addr.mk r879 0 none)) (((8 : Int)).toNat) (((8 : Int)).toNat)), (Value.int .i64 0), (Value.int .i64 0), (Value.slice (some (Addr.mk r877 0 none)) ((p0_n).toNat) ((p0_n).toNat)), (Value.slice (some (Addr.mk r647 0 none)) ((p0_n).toNat) ((p0_n).toNat)), (Value.slice (some (Addr.mk r809 0 none)) ((p0_n).toNat) ((p0_n).toNat)), (Value.slice (some (Addr.mk r863 0 none)) ((p0_n).toNat) ((p0_n).toNat))]).length = 7 ∧ (Program.underlying Go.Proofs.Tryd.prog 49).isSome = true ∧
 H.wr h880 (Addr.mk r1 0 none) ([(Value.slice (some (Addr.mk r879 0 none)) (((8 : Int)).toNat) (((8 : Int)).toNat)), (Value.int .i64 0), (Value.int .i64 0), (Value.slice (some (Addr.mk r877 0 none)) ((p0_n).toNat) ((p0_n).toNat)), (Value.slice (some (Addr.mk r647 0 none)) ((p0_n).toNat) ((p0_n).toNat)), (Value.slice (some (Addr.mk r809 0 none)) ((p0_n).toNat) ((p0_n).toNat)), (Value.slice (some (Addr.mk r863 0 none)) ((p0_n).toNat) ((p0_n).toNat))]) fun h881 =>
 ∃ x882 : SV, H.rd h881 (Addr.add (Addr.mk r1 0 none) 0) (Value.slice x882.a x882.len x882.cap) ∧
 ∃ x883 : Int, H.rd h881 (Addr.add (Addr.mk r1 0 none) 1) (Value.int .i64 x883) ∧
 ∃ x884 : Int, H.rd h881 (Addr.add (Addr.mk r1 0 none) 2) (Value.int .i64 x884) ∧
 ∃ x885 : SV, H.rd h881 (Addr.add (Addr.mk r1 0 none) 3) (Value.slice x885.a x885.len x885.cap) ∧
 ∃ x886 : SV, H.rd h881 (Addr.add (Addr.mk r1 0 none) 4) (Value.slice x886.a x886.len x886.cap) ∧
 ∃ x887 : SV, H.rd h881 (Addr.add (Addr.mk r1 0 none) 5) (Value.slice x887.a x887.len x887.cap) ∧
 ∃ x888 : SV, H.rd h881 (Addr.add (Addr.mk r1 0 none) 6) (Value.slice x888.a x888.len x888.cap) ∧
 VRet h881 (Value.agg (List.toArray [(Value.slice x882.a x882.len x882.cap), (Value.int .i64 x883), (Value.int .i64 x884), (Value.slice x885.a x885.len x885.cap), (Value.slice x886.a x886.len x886.cap), (Value.slice x887.a x887.len x887.cap), (Value.slice x888.a x888.len x888.cap)])) post)))) ∧
 (
 0 ≤ p0_n ∧ p0_n ≤ p0_n ∧ ((8 : Nat) : Int) * p0_n ≤ 140737488355328 ∧ p0_n ≤ 1000000000 ∧
 H.new h648 (repl (p0_n).toNat [(Value.int .i64 0)]) fun r889 h890 =>
 (
 0 ≤ (8 : Int) ∧ (8 : Int) ≤ (8 : Int) ∧ ((8 : Nat) : Int) * (8 : Int) ≤ 140737488355328 ∧ (8 : Int) ≤ 1000000000 ∧
 H.new h890 (repl ((8 : Int)).toNat [(Value.int .i64 0)]) fun r891 h892 =>
 (
 0 ≤ p0_n ∧ p0_n ≤ p0_n ∧ ((8 : Nat) : Int) * p0_n ≤ 140737488355328 ∧ p0_n ≤ 1000000000 ∧
 H.new h892 (repl (p0_n).toNat [(Value.int .i64 0)]) fun r893 h894 =>
 0 ≤ p0_n ∧ p0_n ≤ p0_n ∧ ((8 : Nat) : Int) * p0_n ≤ 140737488355328 ∧ p0_n ≤ 1000000000 ∧
 H.new h894 (repl (p0_n).toNat [(Value.int .i64 0)]) fun r895 h896 =>
 ([(Value.slice (some (Addr.mk r891 0 none)) (((8 : Int)).toNat) (((8 : Int)).toNat)), (Value.int .i64 0), (Value.int .i64 0), (Value.slice (some (Addr.mk r893 0 none)) ((p0_n).toNat) ((p0_n).toNat)), (Value.slice (some (Addr.mk r647 0 none)) ((p0_n).toNat) ((p0_n).toNat)), (Value.slice (some (Addr.mk r895 0 none)) ((p0_n).toNat) ((p0_n).toNat)), (Value.slice (some (Addr.mk r889 0 none)) ((p0_n).toNat) ((p0_n).toNat))]).length = 7 ∧ (Program.underlying Go.Proofs.Tryd.prog 49).isSome = true ∧
 H.wr h896 (Addr.mk r1 0 none) ([(Value.slice (some (Addr.mk r891 0 none)) (((8 : Int)).toNat) (((8 : Int)).toNat)), (Value.int .i64 0), (Value.int .i64 0), (Value.slice (some (Addr.mk r893 0 none)) ((p0_n).toNat) ((p0_n).toNat)), (Value.slice (some (Addr.mk r647 0 none)) ((p0_n).toNat) ((p0_n).toNat)), (Value.slice (some (Addr.mk r895 0 none)) ((p0_n).toNat) ((p0_n).toNat)), (Value.slice (some (Addr.mk r889 0 none)) ((p0_n).toNat) ((p0_n).toNat))]) fun h897 =>
 ∃ x898 : SV, H.rd h897 (Addr.add (Addr.mk r1 0 none) 0) (Value.slice x898.a x898.len x898.cap) ∧
 ∃ x899 : Int, H.rd h897 (Addr.add (Addr.mk r1 0 none) 1) (Value.int .i64 x899) ∧
 ∃ x900 : Int, H.rd h897 (Addr.add (Addr.mk r1 0 none) 2) (Value.int .i64 x900) ∧
 ∃ x901 : SV, H.rd h897 (Addr.add (Addr.mk r1 0 none) 3) (Value.slice x901.a x901.len x901.cap) ∧
 ∃ x902 : SV, H.rd h897 (Addr.add (Addr.mk r1 0 none) 4) (Value.slice x902.a x902.len x902.cap) ∧
 ∃ x903 : SV, H.rd h897 (Addr.add (Addr.mk r1 0 none) 5) (Value.slice x903.a x903.len x903.cap) ∧
 ∃ x904 : SV, H.rd h897 (Addr.add (Addr.mk r1 0 none) 6) (Value.slice x904.a x904.len x904.cap) ∧
 VRet h897 (Value.agg (List.toArray [(Value.slice x898.a x898.len x898.cap), (Value.int .i64 x899), (Value.int .i64 x900), (Value.slice x901.a x901.len x901.cap), (Value.slice x902.a x902.len x902.cap), (Value.slice x903.a x903.len x903.cap), (Value.slice x904.a x904.len x904.cap)])) post) ∧
 (
 0 ≤ p0_n ∧ p0_n ≤ p0_n ∧ ((8 : Nat) : Int) * p0_n ≤ 140737488355328 ∧ p0_n ≤ 1000000000 ∧
 H.new h892 (repl (p0_n).toNat [(Value.int .i64 0)]) fun r905 h906 =>
 0 ≤ p0_n ∧ p0_n ≤ p0_n ∧ ((8 : Nat) : Int) * p0_n ≤ 140737488355328 ∧ p0_n ≤ 1000000000 ∧
 H.new h906 (repl (p0_n).toNat [(Value.int .i64 0)]) fun r907 h908 =>
 ([(Value.slice (some (Addr.mk r891 0 none)) (((8 : Int)).toNat) (((8 : Int)).toNat)), (Value.int .i64 0), (Value.int .i64 0), (Value.slice (some (Addr.mk r907 0 none)) ((p0_n).toNat) ((p0_n).toNat)), (Value.slice (some (Addr.mk r647 0 none)) ((p0_n).toNat) ((p0_n).toNat)), (Value.slice (some (Addr.mk r905 0 none)) ((p0_n).toNat) ((p0_n).toNat)), (Value.slice (some (Addr.mk r889 0 none)) ((p0_n).toNat) ((p0_n).toNat))]).length = 7 ∧ (Program.underlying Go.Proofs.Tryd.prog 49).isSome = true ∧
 H.wr h908 (Addr.mk r1 0 none) ([(Value.slice (some (Addr.mk r891 0 none)) (((8 : Int)).toNat) (((8 : Int)).toNat)), (Value.int .i64 0), (Value.int .i64 0), (Value.slice (some (Addr.mk r907 0 none)) ((p0_n).toNat) ((p0_n).toNat)), (Value.slice (some (Addr.mk r647 0 none)) ((p0_n).toNat) ((p0_n).toNat)), (Value.slice (some (Addr.mk r905 0 none)) ((p0_n).toNat) ((p0_n).toNat)), (Value.slice (some (Addr.mk r889 0 none)) ((p0_n).toNat) ((p0_n).toNat))]) fun h909 =>
 ∃ x910 : SV, H.rd h909 (Addr.add (Addr.mk r1 0 none) 0) (Value.slice x910.a x910.len x910.cap) ∧
 ∃ x911 : Int, H.rd h909 (Addr.add (Addr.mk r1 0 none) 1) (Value.int .i64 x911) ∧
 ∃ x912 : Int, H.rd h909 (Addr.add (Addr.mk r1 0 none) 2) (Value.int .i64 x912) ∧
 ∃ x913 : SV, H.rd h909 (Addr.add (Addr.mk r1 0 none) 3) (Value.slice x913.a x913.len x913.cap) ∧
 ∃ x914 : SV, H.rd h909 (Addr.add (Addr.mk r1 0 none) 4) (Value.slice x914.a x914.len x914.cap) ∧
 ∃ x915 : SV, H.rd h909 (Addr.add (Addr.mk r1 0 none) 5) (Value.slice x915.a x915.len x915.cap) ∧
 ∃ x916 : SV, H.rd h909 (Addr.add (Addr.mk r1 0 none) 6) (Value.slice x916.a x916.len x916.cap) ∧
 VRet h909 (Value.agg (List.toArray [(Value.slice x910.a x910.len x910.cap), (Value.int .i64 x911), (Value.int .i64 x912), (Value.slice x913.a x913.len x913.cap), (Value.slice x914.a x914.len x914.cap), (Value.slice x915.a x915.len x915.cap), (Value.slice x916.a x916.len x916.cap)])) post)) ∧
 (
 (
 0 ≤ p0_n ∧ p0_n ≤ p0_n ∧ ((8 : Nat) : Int) * p0_n ≤ 140737488355328 ∧ p0_n ≤ 1000000000 ∧
 H.new h890 (repl (p0_n).toNat [(Value.int .i64 0)]) fun r917 h918 =>
 (
 0 ≤ (8 : Int) ∧ (8 : Int) ≤ (8 : Int) ∧ ((8 : Nat) : Int) * (8 : Int) ≤ 140737488355328 ∧ (8 : Int) ≤ 1000000000 ∧
 H.new h918 (repl ((8 : Int)).toNat [(Value.int .i64 0)]) fun r919 h920 =>
 0 ≤ p0_n ∧ p0_n ≤ p0_n ∧ ((8 : Nat) : Int) * p0_n ≤ 140737488355328 ∧ p0_n ≤ 1000000000 ∧
 H.new h920 (repl (p0_n).toNat [(Value.int .i64 0)]) fun r921 h922 =>
 ([(Value.slice (some (Addr.mk r919 0 none)) (((8 : Int)).toNat) (((8 : Int)).toNat)), (Value.int .i64 0), (Value.int .i64 0), (Value.slice (some (Addr.mk r917 0 none)) ((p0_n).toNat) ((p0_n).toNat)), (Value.slice (some (Addr.mk r647 0 none)) ((p0_n).toNat) ((p0_n).toNat)), (Value.slice (some (Addr.mk r921 0 none)) ((p0_n).toNat) ((p0_n).toNat)), (Value.slice (some (Addr.mk r889 0 none)) ((p0_n).toNat) ((p0_n).toNat))]).length = 7 ∧ (Program.underlying Go.Proofs.Tryd.prog 49).isSome = true ∧
 H.wr h922 (Addr.mk r1 0 none) ([(Value.slice (some (Addr.mk r919 0 none)) (((8 : Int)).toNat) (((8 : Int)).toNat)), (Value.int .i64 0), (Value.int .i64 0), (Value.slice (some (Addr.mk r917 0 none)) ((p0_n).toNat) ((p0_n).toNat)), (Value.slice (some (Addr.mk r647 0 none)) ((p0_n).toNat) ((p0_n).toNat)), (Value.slice (some (Addr.mk r921 0 none)) ((p0_n).toNat) ((p0_n).toNat)), (Value.slice (some (Addr.mk r889 0 none)) ((p0_n).toNat) ((p0_n).toNat))]) fun h923 =>
 ∃ x924 : SV, H.rd h923 (Addr.add (Addr.mk r1 0 none) 0) (Value.slice x924.a x924.len x924.cap) ∧
 ∃ x925 : Int, H.rd h923 (Addr.add (Addr.mk r1 0 none) 1) (Value.int .i64 x925) ∧
 ∃ x926 : Int, H.rd h923 (Addr.add (Addr.mk r1 0 none) 2) (Value.int .i64 x926) ∧
 ∃ x927 : SV, H.rd h923 (Addr.add (Addr.mk r1 0 none) 3) (Value.slice x927.a x927.len x927.cap) ∧
 ∃ x928 : SV, H.rd h923 (Addr.add (Addr.mk r1 0 none) 4) (Value.slice x928.a x928.len x928.cap) ∧
 ∃ x929 : SV, H.rd h923 (Addr.add (Addr.mk r1 0 none) 5) (Value.slice x929.a x929.len x929.cap) ∧
 ∃ x930 : SV, H.rd h923 (Addr.add (Addr.mk r1 0 none) 6) (Value.slice x930.a x930.len x930.cap) ∧
 VRet h923 (Value.agg (List.toArray [(Value.slice x924.a x924.len x924.cap), (Value.int .i64 x925), (Value.int .i64 x926), (Value.slice x927.a x927.len x927.cap), (Value.slice x928.a x928.len x928.cap), (Value.slice x929.a x929.len x929.cap), (Value.slice x930.a x930.len x930.cap)])) post) ∧
 (
 0 ≤ p0_n ∧ p0_n ≤ p0_n ∧ ((8 : Nat) : Int) * p0_n ≤ 140737488355328 ∧ p0_n ≤ 1000000000 ∧
 H.new h918 (repl (p0_n).toNat [(Value.int .i64 0)]) fun r931 h932 =>
 0 ≤ (8 : Int) ∧ (8 : Int) ≤ (8 : Int) ∧ ((8 : Nat) : Int) * (8 : Int) ≤ 140737488355328 ∧ (8 : Int) ≤ 1000000000 ∧
 H.new h932 (repl ((8 : Int)).toNat [(Value.int .i64 0)]) fun r933 h934 =>
 ([(Value.slice (some (Addr.mk r933 0 none)) (((8 : Int)).toNat) (((8 : Int)).toNat)), (Value.int .i64 0), (Value.int .i64 0), (Value.slice (some (Addr.mk r917 0 none)) ((p0_n).toNat) ((p0_n).toNat)), (Value.slice (some (Addr.mk r647 0 none)) ((p0_n).toNat) ((p0_n).toNat)), (Value.slice (some (Addr.mk r931 0 none)) ((p0_n).toNat) ((p0_n).toNat)), (Value.slice (some (Addr.mk r889 0 none)) ((p0_n).toNat) ((p0_n).toNat))]).length = 7 ∧ (Program.underlying Go.Proofs.Tryd.prog 49).isSome = true ∧
 H.wr h934 (Addr.mk r1 0 none) ([(Value.slice (some (Addr.mk r933 0 none)) (((8 : Int)).toNat) (((8 : Int)).toNat)), (Value.int .i64 0), (Value.int .i64 0), (Value.slice (some (Addr.mk r917 0 none)) ((p0_n).toNat) ((p0_n).toNat)), (Value.slice (some (Addr.mk r647 0 none)) ((p0_n).toNat) ((p0_n).toNat)), (Value.slice (some (Addr.mk r931 0 none)) ((p0_n).toNat) ((p0_n).toNat)), (Value.slice (some (Addr.mk r889 0 none)) ((p0_n).toNat) ((p0_n).toNat))]) fun h935 =>
 ∃ x936 : SV, H.rd h935 (Addr.add (Addr.mk r1 0 none) 0) (Value.slice x936.a x936.len x936.cap) ∧
 ∃ x937 : Int, H.rd h935 (Addr.add (Addr.mk r1 0 none) 1) (Value.int .i64 x937) ∧
 ∃ x938 : Int, H.rd h935 (Addr.add (Addr.mk r1 0 none) 2) (Value.int .i64 x938) ∧
 ∃ x939 : SV, H.rd h935 (Addr.add (Addr.mk r1 0 none) 3) (Value.slice x939.a x939.len x939.cap) ∧
 ∃ x940 : SV, H.rd h935 (Addr.add (Addr.mk r1 0 none) 4) (Value.slice x940.a x940.len x940.cap) ∧
 ∃ x941 : SV, H.rd h935 (Addr.add (Addr.mk r1 0 none) 5) (Value.slice x941.a x941.len x941.cap) ∧
 ∃ x942 : SV, H.rd h935 (Addr.add (Addr.mk r1 0 none) 6) (Value.slice x942.a x942.len x942.cap) ∧
 VRet h935 (Value.agg (List.toArray [(Value.slice x936.a x936.len x936.cap), (Value.int .i64 x937), (Value.int .i64 x938), (Value.slice x939.a x939.len x939.cap), (Value.slice x940.a x940.len x940.cap), (Value.slice x941.a x941.len x941.cap), (Value.slice x942.a x942.len x942.cap)])) post)) ∧
 (
 0 ≤ p0_n ∧ p0_n ≤ p0_n ∧ ((8 : Nat) : Int) * p0_n ≤ 140737488355328 ∧ p0_n ≤ 1000000000 ∧
 H.new h890 (repl (p0_n).toNat [(Value.int .i64 0)]) fun r943 h944 =>
 (
 0 ≤ (8 : Int) ∧ (8 : Int) ≤ (8 : Int) ∧ ((8 : Nat) : Int) * (8 : Int) ≤ 140737488355328 ∧ (8 : Int) ≤ 1000000000 ∧
 H.new h944 (repl ((8 : Int)).toNat [(Value.int .i64 0)]) fun r945 h946 =>
 0 ≤ p0_n ∧ p0_n ≤ p0_n ∧ ((8 : Nat) : Int) * p0_n ≤ 140737488355328 ∧ p0_n ≤ 1000000000 ∧
 H.new h946 (repl (p0_n).toNat [(Value.int .i64 0)]) fun r947 h948 =>
 ([(Value.slice (some (Addr.mk r945 0 none)) (((8 : Int)).toNat) (((8 : Int)).toNat)), (Value.int .i64 0), (Value.int .i64 0), (Value.slice (some (Addr.mk r947 0 none)) ((p0_n).toNat) ((p0_n).toNat)), (Value.slice (some (Addr.mk r647 0 none)) ((p0_n).toNat) ((p0_n).toNat)), (Value.slice (some (Addr.mk r943 0 none)) ((p0_n).toNat) ((p0_n).toNat)), (Value.slice (some (Addr.mk r889 0 none)) ((p0_n).toNat) ((p0_n).toNat))]).length = 7 ∧ (Program.underlying Go.Proofs.Tryd.prog 49).isSome = true ∧
 H.wr h948 (Addr.mk r1 0 none) ([(Value.slice (some (Addr.mk r945 0 none)) (((8 : Int)).toNat) (((8 : Int)).toNat)), (Value.int .i64 0), (Value.int .i64 0), (Value.slice (some (Addr.mk r947 0 none)) ((p0_n).toNat) ((p0_n).toNat)), (Value.slice (some (Addr.mk r647 0 none)) ((p0_n).toNat) ((p0_n).toNat)), (Value.slice (some (Addr.mk r943 0 none)) ((p0_n).toNat) ((p0_n).toNat)), (Value.slice (some (Addr.mk r889 0 none)) ((p0_n).toNat) ((p0_n).toNat))]) fun h949 =>
 ∃ x950 : SV, H.rd h949 (Addr.add (Addr.mk r1 0 none) 0) (Value.slice x950.a x950.len x950.cap) ∧
 ∃ x951 : Int, H.rd h949 (Addr.add (Addr.mk r1 0 none) 1) (Value.int .i64 x951) ∧
 ∃ x952 : Int, H.rd h949 (Addr.add (Addr.mk r1 0 none) 2) (Value.int .i64 x952) ∧
 ∃ x953 : SV, H.rd h949 (Addr.add (Addr.mk r1 0 none) 3) (Value.slice x953.a x953.len x953.cap) ∧
 ∃ x954 : SV, H.rd h949 (Addr.add (Addr.mk r1 0 none) 4) (Value.slice x954.a x954.len x954.cap) ∧
 ∃ x955 : SV, H.rd h949 (Addr.add (Addr.mk r1 0 none) 5) (Value.slice x955.a x955.len x955.cap) ∧
 ∃ x956 : SV, H.rd h949 (Addr.add (Addr.mk r1 0 none) 6) (Value.slice x956.a x956.len x956.cap) ∧
 VRet h949 (Value.agg (List.toArray [(Value.slice x950.a x950.len x950.cap), (Value.int .i64 x951), (Value.int .i64 x952), (Value.slice x953.a x953.len x953.cap), (Value.slice x954.a x954.len x954.cap), (Value.slice x955.a x955.len x955.cap), (Value.slice x956.a x956.len x956.cap)])) post) ∧
 (
 0 ≤ p0_n ∧ p0_n ≤ p0_n ∧ ((8 : Nat) : Int) * p0_n ≤ 140737488355328 ∧ p0_n ≤ 1000000000 ∧
 H.new h944 (repl (p0_n).toNat [(Value.int .i64 0)]) fun r957 h958 =>
 0 ≤ (8 : Int) ∧ (8 : Int) ≤ (8 : Int) ∧ ((8 : Nat) : Int) * (8 : Int) ≤ 140737488355328 ∧ (8 : Int) ≤ 1000000000 ∧
 H.new h958 (repl ((8 : Int)).toNat [(Value.int .i64 0)]) fun r959 h960 =>
 ([(Value.slice (some (Addr.mk r959 0 none)) (((8 : Int)).toNat) (((8 : Int)).toNat)), (Value.int .i64 0), (Value.int .i64 0), (Value.slice (some (Addr.mk r957 0 none)) ((p0_n).toNat) ((p0_n).toNat)), (Value.slice (some (Addr.mk r647 0 none)) ((p0_n).toNat) ((p0_n).toNat)), (Value.slice (some (Addr.mk r943 0 none)) ((p0_n).toNat) ((p0_n).toNat)), (Value.slice (some (Addr.mk r889 0 none)) ((p0_n).toNat) ((p0_n).toNat))]).length = 7 ∧ (Program.underlying Go.Proofs.Tryd.prog 49).isSome = true ∧
 H.wr h960 (Addr.mk r1 0 none) ([(Value.slice (some (Addr.mk r959 0 none)) (((8 : Int)).toNat) (((8 : Int)).toNat)), (Value.int .i64 0), (Value.int .i64 0), (Value.slice (some (Addr.mk r957 0 none)) ((p0_n).toNat) ((p0_n).toNat)), (Value.slice (some (Addr.mk r647 0 none)) ((p0_n).toNat) ((p0_n).toNat)), (Value.slice (some (Addr.mk r943 0 none)) ((p0_n).toNat) ((p0_n).toNat)), (Value.slice (some (Addr.mk r889 0 none)) ((p0_n).toNat) ((p0_n).toNat))]) fun h961 =>
 ∃ x962 : SV, H.rd h961 (Addr.add (Addr.mk r1 0 none) 0) (Value.slice x962.a x962.len x962.cap) ∧
 ∃ x963 : Int, H.rd h961 (Addr.add (Addr.mk r1 0 none) 1) (Value.int .i64 x963) ∧
 ∃ x964 : Int, H.rd h961 (Addr.add (Addr.mk r1 0 none) 2) (Value.int .i64 x964) ∧
 ∃ x965 : SV, H.rd h961 (Addr.add (Addr.mk r1 0 none) 3) (Value.slice x965.a x965.len x965.cap) ∧
 ∃ x966 : SV, H.rd h961 (Addr.add (Addr.mk r1 0 none) 4) (Value.slice x966.a x966.len x966.cap) ∧
 ∃ x967 : SV, H.rd h961 (Addr.add (Addr.mk r1 0 none) 5) (Value.slice x967.a x967.len x967.cap) ∧
 ∃ x968 : SV, H.rd h961 (Addr.add (Addr.mk r1 0 none) 6) (Value.slice x968.a x968.len x968.cap) ∧
 VRet h961 (Value.agg (List.toArray [(Value.slice x962.a x962.len x962.cap), (Value.int .i64 x963), (Value.int .i64 x964), (Value.slice x965.a x965.len x965.cap), (Value.slice x966.a x966.len x966.cap), (Value.slice x967.a x967.len x967.cap), (Value.slice x968.a x968.len x968.cap)])) post))))))) ∧
 (
 (
 0 ≤ p0_n ∧ p0_n ≤ p0_n ∧ ((8 : Nat) : Int) * p0_n ≤ 140737488355328 ∧ p0_n ≤ 1000000000 ∧
 H.new h2 (repl (p0_n).toNat [(Value.int .i64 0)]) fun r969 h970 =>
 (
 0 ≤ (8 : Int) ∧ (8 : Int) ≤ (8 : Int) ∧ ((8 : Nat) : Int) * (8 : Int) ≤ 140737488355328 ∧ (8 : Int) ≤ 1000000000 ∧
 H.new h970 (repl ((8 : Int)).toNat [(Value.int .i64 0)]) fun r971 h972 =>
 (
 0 ≤ p0_n ∧ p0_n ≤ p0_n ∧ ((8 : Nat) : Int) * p0_n ≤ 140737488355328 ∧ p0_n ≤ 1000000000 ∧
 H.new h972 (repl (p0_n).toNat [(Value.int .i64 0)]) fun r973 h974 =>
 (
 0 ≤ p0_n ∧ p0_n ≤ p0_n ∧ ((8 : Nat) : Int) * p0_n ≤ 140737488355328 ∧ p0_n ≤ 1000000000 ∧
 H.new h974 (repl (p0_n).toNat [(Value.int .i64 0)]) fun r975 h976 =>
 0 ≤ p0_n ∧ p0_n ≤ p0_n ∧ ((8 : Nat) : Int) * p0_n ≤ 140737488355328 ∧ p0_n ≤ 1000000000 ∧
 H.new h976 (repl (p0_n).toNat [(Value.int .i64 0)]) fun r977 h978 =>
 ([(Value.slice (some (Addr.mk r971 0 none)) (((8 : Int)).toNat) (((8 : Int)).toNat)), (Value.int .i64 0), (Value.int .i64 0), (Value.slice (some (Addr.mk r973 0 none)) ((p0_n).toNat) ((p0_n).toNat)), (Value.slice (some (Addr.mk r975 0 none)) ((p0_n).toNat) ((p0_n).toNat)), (Value.slice (some (Addr.mk r969 0 none)) ((p0_n).toNat) ((p0_n).toNat)), (Value.slice (some (Addr.mk r977 0 none)) ((p0_n).toNat) ((p0_n).toNat))]).length = 7 ∧ (Program.underlying Go.Proofs.Tryd.prog 49).isSome = true ∧
 H.wr h978 (Addr.mk r1 0 none) ([(Value.slice (some (Addr.mk r971 0 none)) (((8 : Int)).toNat) (((8 : Int)).toNat)), (Value.int .i64 0), (Value.int .i64 0), (Value.slice (some (Addr.mk r973 0 none)) ((p0_n).toNat) ((p0_n).toNat)), (Value.slice (some (Addr.mk r975 0 none)) ((p0_n).toNat) ((p0_n).toNat)), (Value.slice (some (Addr.mk r969 0 none)) ((p0_n).toNat) ((p0_n).toNat)), (Value.slice (some (Addr.mk r977 0 none)) ((p0_n).toNat) ((p0_n).toNat))]) fun h979 =>
 ∃ x980 : SV, H.rd h979 (Addr.add (Addr.mk r1 0 none) 0) (Value.slice x980.a x980.len x980.cap) ∧
 ∃ x981 : Int, H.rd h979 (Addr.add (Addr.mk r1 0 none) 1) (Value.int .i64 x981) ∧
 ∃ x982 : Int, H.rd h979 (Addr.add (Addr.mk r1 0 none) 2) (Value.int .i64 x982) ∧
 ∃ x983 : SV, H.rd h979 (Addr.add (Addr.mk r1 0 none) 3) (Value.slice x983.a x983.len x983.cap) ∧
 ∃ x984 : SV, H.rd h979 (Addr.add (Addr.mk r1 0 none) 4) (Value.slice x984.a x984.len x984.cap) ∧
 ∃ x985 : SV, H.rd h979 (Addr.add (Addr.mk r1 0 none) 5) (Value.slice x985.a x985.len x985.cap) ∧
 ∃ x986 : SV, H.rd h979 (Addr.add (Addr.mk r1 0 none) 6) (Value.slice x986.a x986.len x986.cap) ∧
 VRet h979 (Value.agg (List.toArray [(Value.slice x980.a x980.len x980.cap), (Value.int .i64 x981), (Value.int .i64 x982), (Value.slice x983.a x983.len x983.cap), (Value.slice x984.a x984.len x984.cap), (Value.slice x985.a x985.len x985.cap), (Value.slice x986.a x986.len x986.cap)])) post) ∧
 (
 0 ≤ p0_n ∧ p0_n ≤ p0_n ∧ ((8 : Nat) : Int) * p0_n ≤ 140737488355328 ∧ p0_n ≤ 1000000000 ∧
 H.new h974 (repl (p0_n).toNat [(Value.int .i64 0)]) fun r987 h988 =>
 0 ≤ p0_n ∧ p0_n ≤ p0_n ∧ ((8 : Nat) : Int) * p0_n ≤ 140737488355328 ∧ p0_n ≤ 1000000000 ∧
 H.new h988 (repl (p0_n).toNat [(Value.int .i64 0)]) fun r989 h990 =>
 ([(Value.slice (some (Addr.mk r971 0 none)) (((8 : Int)).toNat) (((8 : Int)).toNat)), (Value.int .i64 0), (Value.int .i64 0), (Value.slice (some (Addr.mk r973 0 none)) ((p0_n).toNat) ((p0_n).toNat)), (Value.slice (some (Addr.mk r989 0 none)) ((p0_n).toNat) ((p0_n).toNat)), (Value.slice (some (Addr.mk r969 0 none)) ((p0_n).toNat) ((p0_n).toNat)), (Value.slice (some (Addr.mk r987 0 none)) ((p0_n).toNat) ((p0_n).toNat))]).length = 7 ∧ (Program.underlying Go.Proofs.Tryd.prog 49).isSome = true ∧
 H.wr h990 (Addr.mk r1 0 none) ([(Value.slice (some (Addr.mk r971 0 none)) (((8 : Int)).toNat) (((8 : Int)).toNat)), (Value.int .i64 0), (Value.int .i64 0), (Value.slice (some (Addr.mk r973 0 none)) ((p0_n).toNat) ((p0_n).toNat)), (Value.slice (some (Addr.mk r989 0 none)) ((p0_n).toNat) ((p0_n).toNat)), (Value.slice (some (Addr.mk r969 0 none)) ((p0_n).toNat) ((p0_n).toNat)), (Value.slice (some (Addr.mk r987 0 none)) ((p0_n).toNat) ((p0_n).toNat))]) fun h991 =>
 ∃ x992 : SV, H.rd h991 (Addr.add (Addr.mk r1 0 none) 0) (Value.slice x992.a x992.len x992.cap) ∧
 ∃ x993 : Int, H.rd h991 (Addr.add (Addr.mk r1 0 none) 1) (Value.int .i64 x993) ∧
 ∃ x994 : Int, H.rd h991 (Addr.add (Addr.mk r1 0 none) 2) (Value.int .i64 x994) ∧
 ∃ x995 : SV, H.rd h991 (Addr.add (Addr.mk r1 0 none) 3) (Value.slice x995.a x995.len x995.cap) ∧
 ∃ x996 : SV, H.rd h991 (Addr.add (Addr.mk r1 0 none) 4) (Value.slice x996.a x996.len x996.cap) ∧
 ∃ x997 : SV, H.rd h991 (Addr.add (Addr.mk r1 0 none) 5) (Value.slice x997.a x997.len x997.cap) ∧
 ∃ x998 : SV, H.rd h991 (Addr.add (Addr.mk r1 0 none) 6) (Value.slice x998.a x998.len x998.cap) ∧
 VRet h991 (Value.agg (List.toArray [(Value.slice x992.a x992.len x992.cap), (Value.int .i64 x993), (Value.int .i64 x994), (Value.slice x995.a x995.len x995.cap), (Value.slice x996.a x996.len x996.cap), (Value.slice x997.a x997.len x997.cap), (Value.slice x998.a x998.len x998.cap)])) post)) ∧
 (
 (
 0 ≤ p0_n ∧ p0_n ≤ p0_n ∧ ((8 : Nat) : Int) * p0_n ≤ 140737488355328 ∧ p0_n ≤ 1000000000 ∧
 H.new h972 (repl (p0_n).toNat [(Value.int .i64 0)]) fun r999 h1000 =>
 (
 0 ≤ p0_n ∧ p0_n ≤ p0_n ∧ ((8 : Nat) : Int) * p0_n ≤ 140737488355328 ∧ p0_n ≤ 1000000000 ∧
 H.new h1000 (repl (p0_n).toNat [(Value.int .i64 0)]) fun r1001 h1002 =>
 0 ≤ p0_n ∧ p0_n ≤ p0_n ∧ ((8 : Nat) : Int) * p0_n ≤ 140737488355328 ∧ p0_n ≤ 1000000000 ∧
 H.new h1002 (repl (p0_n).toNat [(Value.int .i64 0)]) fun r1003 h1004 =>
 ([(Value.slice (some (Addr.mk r971 0 none)) (((8 : Int)).toNat) (((8 : Int)).toNat)), (Value.int .i64 0), (Value.int .i64 0), (Value.slice (some (Addr.mk r1001 0 none)) ((p0_n).toNat) ((p0_n).toNat)), (Value.slice (some (Addr.mk r999 0 none)) ((p0_n).toNat) ((p0_n).toNat)), (Value.slice (some (Addr.mk r969 0 none)) ((p0_n).toNat) ((p0_n).toNat)), (Value.slice (some (Addr.mk r1003 0 none)) ((p0_n).toNat) ((p0_n).toNat))]).length = 7 ∧ (Program.underlying Go.Proofs.Tryd.prog 49).isSome = true ∧
 H.wr h1004 (Addr.mk r1 0 none) ([(Value.slice (some (Addr.mk r971 0 none)) (((8 : Int)).toNat) (((8 : Int)).toNat)), (Value.int .i64 0), (Value.int .i64 0), (Value.slice (some (Addr.mk r1001 0 none)) ((p0_n).toNat) ((p0_n).toNat)), (Value.slice (some (Addr.mk r999 0 none)) ((p0_n).toNat) ((p0_n).toNat)), (Value.slice (some (Addr.mk r969 0 none)) ((p0_n).toNat) ((p0_n).toNat)), (Value.slice (some (Addr.mk r1003 0 none)) ((p0_n).toNat) ((p0_n).toNat))]) fun h1005 =>
 ∃ x1006 : SV, H.rd h1005 (Addr.add (Addr.mk r1 0 none) 0) (Value.slice x1006.a x1006.len x1006.cap) ∧
 ∃ x1007 : Int, H.rd h1005 (Addr.add (Addr.mk r1 0 none) 1) (Value.int .i64 x1007) ∧
 ∃ x1008 : Int, H.rd h1005 (Addr.add (Addr.mk r1 0 none) 2) (Value.int .i64 x1008) ∧
 ∃ x1009 : SV, H.rd h1005 (Addr.add (Addr.mk r1 0 none) 3) (Value.slice x1009.a x1009.len x1009.cap) ∧
 ∃ x1010 : SV, H.rd h1005 (Addr.add (Addr.mk r1 0 none) 4) (Value.slice x1010.a x1010.len x1010.cap) ∧
 ∃ x1011 : SV, H.rd h1005 (Addr.add (Addr.mk r1 0 none) 5) (Value.slice x1011.a x1011.len x1011.cap) ∧
 ∃ x1012 : SV, H.rd h1005 (Addr.add (Addr.mk r1 0 none) 6) (Value.slice x1012.a x1012.len x1012.cap) ∧
 VRet h1005 (Value.agg (List.toArray [(Value.slice x1006.a x1006.len x1006.cap), (Value.int .i64 x1007), (Value.int .i64 x1008), (Value.slice x1009.a x1009.len x1009.cap), (Value.slice x1010.a x1010.len x1010.cap), (Value.slice x1011.a x1011.len x1011.cap), (Value.slice x1012.a x1012.len x1012.cap)])) post) ∧
 (
 0 ≤ p0_n ∧ p0_n ≤ p0_n ∧ ((8 : Nat) : Int) * p0_n ≤ 140737488355328 ∧ p0_n ≤ 1000000000 ∧
 H.new h1000 (repl (p0_n).toNat [(Value.int .i64 0)]) fun r1013 h1014 =>
 0 ≤ p0_n ∧ p0_n ≤ p0_n ∧ ((8 : Nat) : Int) * p0_n ≤ 140737488355328 ∧ p0_n ≤ 1000000000 ∧
 H.new h1014 (repl (p0_n).toNat [(Value.int .i64 0)]) fun r1015 h1016 =>
 ([(Value.slice (some (Addr.mk r971 0 none)) (((8 : Int)).toNat) (((8 : Int)).toNat)), (Value.int .i64 0), (Value.int .i64 0), (Value.slice (some (Addr.mk r1015 0 none)) ((p0_n).toNat) ((p0_n).toNat)), (Value.slice (some (Addr.mk r999 0 none)) ((p0_n).toNat) ((p0_n).toNat)), (Value.slice (some (Addr.mk r969 0 none)) ((p0_n).toNat) ((p0_n).toNat)), (Value.slice (some (Addr.mk r1013 0 none)) ((p0_n).toNat) ((p0_n).toNat))]).length = 7 ∧ (Program.underlying Go.Proofs.Tryd.prog 49).isSome = true ∧
 H.wr h1016 (Addr.mk r1 0 none) ([(Value.slice (some (Addr.mk r971 0 none)) (((8 : Int)).toNat) (((8 : Int)).toNat)), (Value.int .i64 0), (Value.int .i64 0), (Value.slice (some (Addr.mk r1015 0 none)) ((p0_n).toNat) ((p0_n).toNat)), (Value.slice (some (Addr.mk r999 0 none)) ((p0_n).toNat) ((p0_n).toNat)), (Value.slice (some (Addr.mk r969 0 none)) ((p0_n).toNat) ((p0_n).toNat)), (Value.slice (some (Addr.mk r1013 0 none)) ((p0_n).toNat) ((p0_n).toNat))]) fun h1017 =>
 ∃ x1018 : SV, H.rd h1017 (Addr.add (Addr.mk r1 0 none) 0) (Value.slice x1018.a x1018.len x1018.cap) ∧
 ∃ x1019 : Int, H.rd h1017 (Addr.add (Addr.mk r1 0 none) 1) (Value.int .i64 x1019) ∧
 ∃ x1020 : Int, H.rd h1017 (Addr.add (Addr.mk r1 0 none) 2) (Value.int .i64 x1020) ∧
 ∃ x1021 : SV, H.rd h1017 (Addr.add (Addr.mk r1 0 none) 3) (Value.slice x1021.a x1021.len x1021.cap) ∧
 ∃ x1022 : SV, H.rd h1017 (Addr.add (Addr.mk r1 0 none) 4) (Value.slice x1022.a x1022.len x1022.cap) ∧
 ∃ x1023 : SV, H.rd h1017 (Addr.add (Addr.mk r1 0 none) 5) (Value.slice x1023.a x1023.len x1023.cap) ∧
 ∃ x1024 : SV, H.rd h1017 (Addr.add (Addr.mk r1 0 none) 6) (Value.slice x1024.a x1024.len x1024.cap) ∧
 VRet h1017 (Value.agg (List.toArray [(Value.slice x1018.a x1018.len x1018.cap), (Value.int .i64 x1019), (Value.int .i64 x1020), (Value.slice x1021.a x1021.len x1021.cap), (Value.slice x1022.a x1022.len x1022.cap), (Value.slice x1023.a x1023.len x1023.cap), (Value.slice x1024.a x1024.len x1024.cap)])) post)) ∧
 (
 0 ≤ p0_n ∧ p0_n ≤ p0_n ∧ ((8 : Nat) : Int) * p0_n ≤ 140737488355328 ∧ p0_n ≤ 1000000000 ∧
 H.new h972 (repl (p0_n).toNat [(Value.int .i64 0)]) fun r1025 h1026 =>
 (
 0 ≤ p0_n ∧ p0_n ≤ p0_n ∧ ((8 : Nat) : Int) * p0_n ≤ 140737488355328 ∧ p0_n ≤ 1000000000 ∧
 H.new h1026 (repl (p0_n).toNat [(Value.int .i64 0)]) fun r1027 h1028 =>
 0 ≤ p0_n ∧ p0_n ≤ p0_n ∧ ((8 : Nat) : Int) * p0_n ≤ 140737488355328 ∧ p0_n ≤ 1000000000 ∧
 H.new h1028 (repl (p0_n).toNat [(Value.int .i64 0)]) fun r1029 h1030 =>
 ([(Value.slice (some (Addr.mk r971 0 none)) (((8 : Int)).toNat) (((8 : Int)).toNat)), (Value.int .i64 0), (Value.int .i64 0), (Value.slice (some (Addr.mk r1027 0 none)) ((p0_n).toNat) ((p0_n).toNat)), (Value.slice (some (Addr.mk r1029 0 none)) ((p0_n).toNat) ((p0_n).toNat)), (Value.slice (some (Addr.mk r969 0 none)) ((p0_n).toNat) ((p0_n).toNat)), (Value.slice (some (Addr.mk r1025 0 none)) ((p0_n).toNat) ((p0_n).toNat))]).length = 7 ∧ (Program.underlying Go.Proofs.Tryd.prog 49).isSome = true ∧
 H.wr h1030 (Addr.mk r1 0 none) ([(Value.slice (some (Addr.mk r971 0 none)) (((8 : Int)).toNat) (((8 : Int)).toNat)), (Value.int .i64 0), (Value.int .i64 0), (Value.slice (some (Addr.mk r1027 0 none)) ((p0_n).toNat) ((p0_n).toNat)), (Value.slice (some (Addr.mk r1029 0 none)) ((p0_n).toNat) ((p0_n).toNat)), (Value.slice (some (Addr.mk r969 0 none)) ((p0_n).toNat) ((p0_n).toNat)), (Value.slice (some (Addr.mk r1025 0 none)) ((p0_n).toNat) ((p0_n).toNat))]) fun h1031 =>
 ∃ x1032 : SV, H.rd h1031 (Addr.add (Addr.mk r1 0 none) 0) (Value.slice x1032.a x1032.len x1032.cap) ∧
 ∃ x1033 : Int, H.rd h1031 (Addr.add (Addr.mk r1 0 none) 1) (Value.int .i64 x1033) ∧
 ∃ x1034 : Int, H.rd h1031 (Addr.add (Addr.mk r1 0 none) 2) (Value.int .i64 x1034) ∧
 ∃ x1035 : SV, H.rd h1031 (Addr.add (Addr.mk r1 0 none) 3) (Value.slice x1035.a x1035.len x1035.cap) ∧
 ∃ x1036 : SV, H.rd h1031 (Addr.add (Addr.mk r1 0 none) 4) (Value.slice x1036.a x1036.len x1036.cap) ∧
 ∃ x1037 : SV, H.rd h1031 (Addr.add (Addr.mk r1 0 none) 5) (Value.slice x1037.a x1037.len x1037.cap) ∧
 ∃ x1038 : SV, H.rd h1031 (Addr.add (Addr.mk r1 0 none) 6) (Value.slice x1038.a x1038.len x1038.cap) ∧
 VRet h1031 (Value.agg (List.toArray [(Value.slice x1032.a x1032.len x1032.cap), (Value.int .i64 x1033), (Value.int .i64 x1034), (Value.slice x1035.a x1035.len x1035.cap), (Value.slice x1036.a x1036.len x1036.cap), (Value.slice x1037.a x1037.len x1037.cap), (Value.slice x1038.a x1038.len x1038.cap)])) post) ∧
 (
 0 ≤ p0_n ∧ p0_n ≤ p0_n ∧ ((8 : Nat) : Int) * p0_n ≤ 140737488355328 ∧ p0_n ≤ 1000000000 ∧
 H.new h1026 (repl (p0_n).toNat [(Value.int .i64 0)]) fun r1039 h1040 =>
 0 ≤ p0_n ∧ p0_n ≤ p0_n ∧ ((8 : Nat) : Int) * p0_n ≤ 140737488355328 ∧ p0_n ≤ 1000000000 ∧
 H.new h1040 (repl (p0_n).toNat [(Value.int .i64 0)]) fun r1041 h1042 =>
 ([(Value.slice (some (Addr.mk r971 0 none)) (((8 : Int)).toNat) (((8 : Int)).toNat)), (Value.int .i64 0), (Value.int .i64 0), (Value.slice (some (Addr.mk r1041 0 none)) ((p0_n).toNat) ((p0_n).toNat)), (Value.slice (some (Addr.mk r1039 0 none)) ((p0_n).toNat) ((p0_n).toNat)), (Value.slice (some (Addr.mk r969 0 none)) ((p0_n).toNat) ((p0_n).toNat)), (Value.slice (some (Addr.mk r1025 0 none)) ((p0_n).toNat) ((p0_n).toNat))]).length = 7 ∧ (Program.underlying Go.Proofs.Tryd.prog 49).isSome = true ∧
 H.wr h1042 (Addr.mk r1 0 none) ([(Value.slice (some (Addr.mk r971 0 none)) (((8 : Int)).toNat) (((8 : Int)).toNat)), (Value.int .i64 0), (Value.int .i64 0), (Value.slice (some (Addr.mk r1041 0 none)) ((p0_n).toNat) ((p0_n).toNat)), (Value.slice (some (Addr.mk r1039 0 none)) ((p0_n).toNat) ((p0_n).toNat)), (Value.slice (some (Addr.mk r969 0 none)) ((p0_n).toNat) ((p0_n).toNat)), (Value.slice (some (Addr.mk r1025 0 none)) ((p0_n).toNat) ((p0_n).toNat))]) fun h1043 =>
 ∃ x1044 : SV, H.rd h1043 (Addr.add (Addr.mk r1 0 none) 0) (Value.slice x1044.a x1044.len x1044.cap) ∧
 ∃ x1045 : Int, H.rd h1043 (Addr.add (Addr.mk r1 0 none) 1) (Value.int .i64 x1045) ∧
 ∃ x1046 : Int, H.rd h1043 (Addr.add (Addr.mk r1 0 none) 2) (Value.int .i64 x1046) ∧
 ∃ x1047 : SV, H.rd h1043 (Addr.add (Addr.mk r1 0 none) 3) (Value.slice x1047.a x1047.len x1047.cap) ∧
 ∃ x1048 : SV, H.rd h1043 (Addr.add (Addr.mk r1 0 none) 4) (Value.slice x1048.a x1048.len x1048.cap) ∧
 ∃ x1049 : SV, H.rd h1043 (Addr.add (Addr.mk r1 0 none) 5) (Value.slice x1049.a x1049.len x1049.cap) ∧
 ∃ x1050 : SV, H.rd h1043 (Addr.add (Addr.mk r1 0 none) 6) (Value.slice x1050.a x1050.len x1050.cap) ∧
 VRet h1043 (Value.agg (List.toArray [(Value.slice x1044.a x1044.len x1044.cap), (Value.int .i64 x1045), (Value.int .i64 x1046), (Value.slice x1047.a x1047.len x1047.cap), (Value.slice x1048.a x1048.len x1048.cap), (Value.slice x1049.a x1049.len x1049.cap), (Value.slice x1050.a x1050.len x1050.cap)])) post)))) ∧
 (
 (
 0 ≤ p0_n ∧ p0_n ≤ p0_n ∧ ((8 : Nat) : Int) * p0_n ≤ 140737488355328 ∧ p0_n ≤ 1000000000 ∧
 H.new h970 (repl (p0_n).toNat [(Value.int .i64 0)]) fun r1051 h1052 =>
 (
 0 ≤ (8 : Int) ∧ (8 : Int) ≤ (8 : Int) ∧ ((8 : Nat) : Int) * (8 : Int) ≤ 140737488355328 ∧ (8 : Int) ≤ 1000000000 ∧
 H.new h1052 (repl ((8 : Int)).toNat [(Value.int .i64 0)]) fun r1053 h1054 =>
 (
 0 ≤ p0_n ∧ p0_n ≤ p0_n ∧ ((8 : Nat) : Int) * p0_n ≤ 140737488355328 ∧ p0_n ≤ 1000000000 ∧
 H.new h1054 (repl (p0_n).toNat [(Value.int .i64 0)]) fun r1055 h1056 =>
 0 ≤ p0_n ∧ p0_n ≤ p0_n ∧ ((8 : Nat) : Int) * p0_n ≤ 140737488355328 ∧ p0_n ≤ 1000000000 ∧
 H.new h1056 (repl (p0_n).toNat [(Value.int .i64 0)]) fun r1057 h1058 =>
 ([(Value.slice (some (Addr.mk r1053 0 none)) (((8 : Int)).toNat) (((8 : Int)).toNat)), (Value.int .i64 0), (Value.int .i64 0), (Value.slice (some (Addr.mk r1051 0 none)) ((p0_n).toNat) ((p0_n).toNat)), (Value.slice (some (Addr.mk r1055 0 none)) ((p0_n).toNat) ((p0_n).toNat)), (Value.slice (some (Addr.mk r969 0 none)) ((p0_n).toNat) ((p0_n).toNat)), (Value.slice (some (Addr.mk r1057 0 none)) ((p0_n).toNat) ((p0_n).toNat))]).length = 7 ∧ (Program.underlying Go.Proofs.Tryd.prog 49).isSome = true ∧
 H.wr h1058 (Addr.mk r1 0 none) ([(Value.slice (some (Addr.mk r1053 0 none)) (((8 : Int)).toNat) (((8 : Int)).toNat)), (Value.int .i64 0), (Value.int .i64 0), (Value.slice (some (Addr.mk r1051 0 none)) ((p0_n).toNat) ((p0_n).toNat)), (Value.slice (some (Addr.mk r1055 0 none)) ((p0_n).toNat) ((p0_n).toNat)), (Value.slice (some (Addr.mk r969 0 none)) ((p0_n).toNat) ((p0_n).toNat)), (Value.slice (some (Addr.mk r1057 0 none)) ((p0_n).toNat) ((p0_n).toNat))]) fun h1059 =>
 ∃ x1060 : SV, H.rd h1059 (Addr.add (Addr.mk r1 0 none) 0) (Value.slice x1060.a x1060.len x1060.cap) ∧
 ∃ x1061 : Int, H.rd h1059 (Addr.add (Addr.mk r1 0 none) 1) (Value.int .i64 x1061) ∧
 ∃ x1062 : Int, H.rd h1059 (Addr.add (Addr.mk r1 0 none) 2) (Value.int .i64 x1062) ∧
 ∃ x1063 : SV, H.rd h1059 (Addr.add (Addr.mk r1 0 none) 3) (Value.slice x1063.a x1063.len x1063.cap) ∧
 ∃ x1064 : SV, H.rd h1059 (Addr.add (Addr.mk r1 0 none) 4) (Value.slice x1064.a x1064.len x1064.cap) ∧
 ∃ x1065 : SV, H.rd h1059 (Addr.add (Addr.mk r1 0 none) 5) (Value.slice x1065.a x1065.len x1065.cap) ∧
 ∃ x1066 : SV, H.rd h1059 (Addr.add (Addr.mk r1 0 none) 6) (Value.slice x1066.a x1066.len x1066.cap) ∧
 VRet h1059 (Value.agg (List.toArray [(Value.slice x1060.a x1060.len x1060.cap), (Value.int .i64 x1061), (Value.int .i64 x1062), (Value.slice x1063.a x1063.len x1063.cap), (Value.slice x1064.a x1064.len x1064.cap), (Value.slice x1065.a x1065.len x1065.cap), (Value.slice x1066.a x1066.len x1066.cap)])) post) ∧
 (
 0 ≤ p0_n ∧ p0_n ≤ p0_n ∧ ((8 : Nat) : Int) * p0_n ≤ 140737488355328 ∧ p0_n ≤ 1000000000 ∧
 H.new h1054 (repl (p0_n).toNat [(Value.int .i64 0)]) fun r1067 h1068 =>
 0 ≤ p0_n ∧ p0_n ≤ p0_n ∧ ((8 : Nat) : Int) * p0_n ≤ 140737488355328 ∧ p0_n ≤ 1000000000 ∧
 H.new h1068 (repl (p0_n).toNat [(Value.int .i64 0)]) fun r1069 h1070 =>
 ([(Value.slice (some (Addr.mk r1053 0 none)) (((8 : Int)).toNat) (((8 : Int)).toNat)), (Value.int .i64 0), (Value.int .i64 0), (Value.slice (some (Addr.mk r1051 0 none)) ((p0_n).toNat) ((p0_n).toNat)), (Value.slice (some (Addr.mk r1069 0 none)) ((p0_n).toNat) ((p0_n).toNat)), (Value.slice (some (Addr.mk r969 0 none)) ((p0_n).toNat) ((p0_n).toNat)), (Value.slice (some (Addr.mk r1067 0 none)) ((p0_n).toNat) ((p0_n).toNat))]).length = 7 ∧ (Program.underlying Go.Proofs.Tryd.prog 49).isSome = true ∧
 H.wr h1070 (Addr.mk r1 0 none) ([(Value.slice (some (Addr.mk r1053 0 none)) (((8 : Int)).toNat) (((8 : Int)).toNat)), (Value.int .i64 0), (Value.int .i64 0), (Value.slice (some (Addr.mk r1051 0 none)) ((p0_n).toNat) ((p0_n).toNat)), (Value.slice (some (Addr.mk r1069 0 none)) ((p0_n).toNat) ((p0_n).toNat)), (Value.slice (some (Addr.mk r969 0 none)) ((p0_n).toNat) ((p0_n).toNat)), (Value.slice (some (Addr.mk r1067 0 none)) ((p0_n).toNat) ((p0_n).toNat))]) fun h1071 =>
 ∃ x1072 : SV, H.rd h1071 (Addr.add (Addr.mk r1 0 none) 0) (Value.slice x1072.a x1072.len x1072.cap) ∧
 ∃ x1073 : Int, H.rd h1071 (Addr.add (Addr.mk r1 0 none) 1) (Value.int .i64 x1073) ∧
 ∃ x1074 : Int, H.rd h1071 (Addr.add (Addr.mk r1 0 none) 2) (Value.int .i64 x1074) ∧
 ∃ x1075 : SV, H.rd h1071 (Addr.add (Addr.mk r1 0 none) 3) (Value.slice x1075.a x1075.len x1075.cap) ∧
 ∃ x1076 : SV, H.rd h1071 (Addr.add (Addr.mk r1 0 none) 4) (Value.slice x1076.a x1076.len x1076.cap) ∧
 ∃ x1077 : SV, H.rd h1071 (Addr.add (Addr.mk r1 0 none) 5) (Value.slice x1077.a x1077.len x1077.cap) ∧
 ∃ x1078 : SV, H.rd h1071 (Addr.add (Addr.mk r1 0 none) 6) (Value.slice x1078.a x1078.len x1078.cap) ∧
 VRet h1071 (Value.agg (List.toArray [(Value.slice x1072.a x1072.len x1072.cap), (Value.int .i64 x1073), (Value.int .i64 x1074), (Value.slice x1075.a x1075.len x1075.cap), (Value.slice x1076.a x1076.len x1076.cap), (Value.slice x1077.a x1077.len x1077.cap), (Value.slice x1078.a x1078.len x1078.cap)])) post)) ∧
 (
 (
 0 ≤ p0_n ∧ p0_n ≤ p0_n ∧ ((8 : Nat) : Int) * p0_n ≤ 140737488355328 ∧ p0_n ≤ 1000000000 ∧
 H.new h1052 (repl (p0_n).toNat [(Value.int .i64 0)]) fun r1079 h1080 =>
 (
 0 ≤ (8 : Int) ∧ (8 : Int) ≤ (8 : Int) ∧ ((8 : Nat) : Int) * (8 : Int) ≤ 140737488355328 ∧ (8 : Int) ≤ 1000000000 ∧
 H.new h1080 (repl ((8 : Int)).toNat [(Value.int .i64 0)]) fun r1081 h1082 =>
 0 ≤ p0_n ∧ p0_n ≤ p0_n ∧ ((8 : Nat) : Int) * p0_n ≤ 140737488355328 ∧ p0_n ≤ 1000000000 ∧
 H.new h1082 (repl (p0_n).toNat [(Value.int .i64 0)]) fun r1083 h1084 =>
 ([(Value.slice (some (Addr.mk r1081 0 none)) (((8 : Int)).toNat) (((8 : Int)).toNat)), (Value.int .i64 0), (Value.int .i64 0), (Value.slice (some (Addr.mk r1051 0 none)) ((p0_n).toNat) ((p0_n).toNat)), (Value.slice (some (Addr.mk r1079 0 none)) ((p0_n).toNat) ((p0_n).toNat)), (Value.slice (some (Addr.mk r969 0 none)) ((p0_n).toNat) ((p0_n).toNat)), (Value.slice (some (Addr.mk r1083 0 none)) ((p0_n).toNat) ((p0_n).toNat))]).length = 7 ∧ (Program.underlying Go.Proofs.Tryd.prog 49).isSome = true ∧
 H.wr h1084 (Addr.mk r1 0 none) ([(Value.slice (some (Addr.mk r1081 0 none)) (((8 : Int)).toNat) (((8 : Int)).toNat)), (Value.int .i64 0), (Value.int .i64 0), (Value.slice (some (Addr.mk r1051 0 none)) ((p0_n).toNat) ((p0_n).toNat)), (Value.slice (some (Addr.mk r1079 0 none)) ((p0_n).toNat) ((p0_n).toNat)), (Value.slice (some (Addr.mk r969 0 none)) ((p0_n).toNat) ((p0_n).toNat)), (Value.slice (some (Addr.mk r1083 0 none)) ((p0_n).toNat) ((p0_n).toNat))]) fun h1085 =>
 ∃ x1086 : SV, H.rd h1085 (Addr.add (Addr.mk r1 0 none) 0) (Value.slice x1086.a x1086.len x1086.cap) ∧
 ∃ x1087 : Int, H.rd h1085 (Addr.add (Addr.mk r1 0 none) 1) (Value.int .i64 x1087) ∧
 ∃ x1088 : Int, H.rd h1085 (Addr.add (Addr.mk r1 0 none) 2) (Value.int .i64 x1088) ∧
 ∃ x1089 : SV, H.rd h1085 (Addr.add (Addr.mk r1 0 none) 3) (Value.slice x1089.a x1089.len x1089.cap) ∧
 ∃ x1090 : SV, H.rd h1085 (Addr.add (Addr.mk r1 0 none) 4) (Value.slice x1090.a x1090.len x1090.cap) ∧
 ∃ x1091 : SV, H.rd h1085 (Addr.add (Addr.mk r1 0 none) 5) (Value.slice x1091.a x1091.len x1091.cap) ∧
 ∃ x1092 : SV, H.rd h1085 (Addr.add (Addr.mk r1 0 none) 6) (Value.slice x1092.a x1092.len x1092.cap) ∧
 VRet h1085 (Value.agg (List.toArray [(Value.slice x1086.a x1086.len x1086.cap), (Value.int .i64 x1087), (Value.int .i64 x1088), (Value.slice x1089.a x1089.len x1089.cap), (Value.slice x1090.a x1090.len x1090.cap), (Value.slice x1091.a x1091.len x1091.cap), (Value.slice x1092.a x1092.len x1092.cap)])) post) ∧
 (
 0 ≤ p0_n ∧ p0_n ≤ p0_n ∧ ((8 : Nat) : Int) * p0_n ≤ 140737488355328 ∧ p0_n ≤ 1000000000 ∧
 H.new h1080 (repl (p0_n).toNat [(Value.int .i64 0)]) fun r1093 h1094 =>
 0 ≤ (8 : Int) ∧ (8 : Int) ≤ (8 : Int) ∧ ((8 : Nat) : Int) * (8 : Int) ≤ 140737488355328 ∧ (8 : Int) ≤ 1000000000 ∧
 H.new h1094 (repl ((8 : Int)).toNat [(Value.int .i64 0)]) fun r1095 h1096 =>
 ([(Value.slice (some (Addr.mk r1095 0 none)) (((8 : Int)).toNat) (((8 : Int)).toNat)), (Value.int .i64 0), (Value.int .i64 0), (Value.slice (some (Addr.mk r1051 0 none)) ((p0_n).toNat) ((p0_n).toNat)), (Value.slice (some (Addr.mk r1079 0 none)) ((p0_n).toNat) ((p0_n).toNat)), (Value.slice (some (Addr.mk r969 0 none)) ((p0_n).toNat) ((p0_n).toNat)), (Value.slice (some (Addr.mk r1093 0 none)) ((p0_n).toNat) ((p0_n).toNat))]).length = 7 ∧ (Program.underlying Go.Proofs.Tryd.prog 49).isSome = true ∧
 H.wr h1096 (Addr.mk r1 0 none) ([(Value.slice (some (Addr.mk r1095 0 none)) (((8 : Int)).toNat) (((8 : Int)).toNat)), (Value.int .i64 0), (Value.int .i64 0), (Value.slice (some (Addr.mk r1051 0 none)) ((p0_n).toNat) ((p0_n).toNat)), (Value.slice (some (Addr.mk r1079 0 none)) ((p0_n).toNat) ((p0_n).toNat)), (Value.slice (some (Addr.mk r969 0 none)) ((p0_n).toNat) ((p0_n).toNat)), (Value.slice (some (Addr.mk r1093 0 none)) ((p0_n).toNat) ((p0_n).toNat))]) fun h1097 =>
 ∃ x1098 : SV, H.rd h1097 (Addr.add (Addr.mk r1 0 none) 0) (Value.slice x1098.a x1098.len x1098.cap) ∧
 ∃ x1099 : Int, H.rd h1097 (Addr.add (Addr.mk r1 0 none) 1) (Value.int .i64 x1099) ∧
 ∃ x1100 : Int, H.rd h1097 (Addr.add (Addr.mk r1 0 none) 2) (Value.int .i64 x1100) ∧
 ∃ x1101 : SV, H.rd h1097 (Addr.add (Addr.mk r1 0 none) 3) (Value.slice x1101.a x1101.len x1101.cap) ∧
 ∃ x1102 : SV, H.rd h1097 (Addr.add (Addr.mk r1 0 none) 4) (Value.slice x1102.a x1102.len x1102.cap) ∧
 ∃ x1103 : SV, H.rd h1097 (Addr.add (Addr.mk r1 0 none) 5) (Value.slice x1103.a x1103.len x1103.cap) ∧
 ∃ x1104 : SV, H.rd h1097 (Addr.add (Addr.mk r1 0 none) 6) (Value.slice x1104.a x1104.len x1104.cap) ∧
 VRet h1097 (Value.agg (List.toArray [(Value.slice x1098.a x1098.len x1098.cap), (Value.int .i64 x1099), (Value.int .i64 x1100), (Value.slice x1101.a x1101.len x1101.cap), (Value.slice x1102.a x1102.len x1102.cap), (Value.slice x1103.a x1103.len x1103.cap), (Value.slice x1104.a x1104.len x1104.cap)])) post)) ∧
 (
 0 ≤ p0_n ∧ p0_n ≤ p0_n ∧ ((8 : Nat) : Int) * p0_n ≤ 140737488355328 ∧ p0_n ≤ 1000000000 ∧
 H.new h1052 (repl (p0_n).toNat [(Value.int .i64 0)]) fun r1105 h1106 =>
 (
 0 ≤ (8 : Int) ∧ (8 : Int) ≤ (8 : Int) ∧ ((8 : Nat) : Int) * (8 : Int) ≤ 140737488355328 ∧ (8 : Int) ≤ 1000000000 ∧
 H.new h1106 (repl ((8 : Int)).toNat [(Value.int .i64 0)]) fun r1107 h1108 =>
 0 ≤ p0_n ∧ p0_n ≤ p0_n ∧ ((8 : Nat) : Int) * p0_n ≤ 140737488355328 ∧ p0_n ≤ 1000000000 ∧
 H.new h1108 (repl (p0_n).toNat [(Value.int .i64 0)]) fun r1109 h1110 =>
 ([(Value.slice (some (Addr.mk r1107 0 none)) (((8 : Int)).toNat) (((8 : Int)).toNat)), (Value.int .i64 0), (Value.int .i64 0), (Value.slice (some (Addr.mk r1051 0 none)) ((p0_n).toNat) ((p0_n).toNat)), (Value.slice (some (Addr.mk r1109 0 none)) ((p0_n).toNat) ((p0_n).toNat)), (Value.slice (some (Addr.mk r969 0 none)) ((p0_n).toNat) ((p0_n).toNat)), (Value.slice (some (Addr.mk r1105 0 none)) ((p0_n).toNat) ((p0_n).toNat))]).length = 7 ∧ (Program.underlying Go.Proofs.Tryd.prog 49).isSome = true ∧
 H.wr h1110 (Addr.mk r1 0 none) ([(Value.slice (some (Addr.mk r1107 0 none)) (((8 : Int)).toNat) (((8 : Int)).toNat)), (Value.int .i64 0), (Value.int .i64 0), (Value.slice (some (Addr.mk r1051 0 none)) ((p0_n).toNat) ((p0_n).toNat)), (Value.slice (some (Addr.mk r1109 0 none)) ((p0_n).toNat) ((p0_n).toNat)), (Value.slice (some (Addr.mk r969 0 none)) ((p0_n).toNat) ((p0_n).toNat)), (Value.slice (some (Addr.mk r1105 0 none)) ((p0_n).toNat) ((p0_n).toNat))]) fun h1111 =>
 ∃ x1112 : SV, H.rd h1111 (Addr.add (Addr.mk r1 0 none) 0) (Value.slice x1112.a x1112.len x1112.cap) ∧
 ∃ x1113 : Int, H.rd h1111 (Addr.add (Addr.mk r1 0 none) 1) (Value.int .i64 x1113) ∧
 ∃ x1114 : Int, H.rd h1111 (Addr.add (Addr.mk r1 0 none) 2) (Value.int .i64 x1114) ∧
 ∃ x1115 : SV, H.rd h1111 (Addr.add (Addr.mk r1 0 none) 3) (Value.slice x1115.a x1115.len x1115.cap) ∧
 ∃ x1116 : SV, H.rd h1111 (Addr.add (Addr.mk r1 0 none) 4) (Value.slice x1116.a x1116.len x1116.cap) ∧
 ∃ x1117 : SV, H.rd h1111 (Addr.add (Addr.mk r1 0 none) 5) (Value.slice x1117.a x1117.len x1117.cap) ∧
 ∃ x1118 : SV, H.rd h1111 (Addr.add (Addr.mk r1 0 none) 6) (Value.slice x1118.a x1118.len x1118.cap) ∧
 VRet h1111 (Value.agg (List.toArray [(Value.slice x1112.a x1112.len x1112.cap), (Value.int .i64 x1113), (Value.int .i64 x1114), (Value.slice x1115.a x1115.len x1115.cap), (Value.slice x1116.a x1116.len x1116.cap), (Value.slice x1117.a x1117.len x1117.cap), (Value.slice x1118.a x1118.len x1118.cap)])) post) ∧
 (
 0 ≤ p0_n ∧ p0_n ≤ p0_n ∧ ((8 : Nat) : Int) * p0_n ≤ 140737488355328 ∧ p0_n ≤ 1000000000 ∧
 H.new h1106 (repl (p0_n).toNat [(Value.int .i64 0)]) fun r1119 h1120 =>
 0 ≤ (8 : Int) ∧ (8 : Int) ≤ (8 : Int) ∧ ((8 : Nat) : Int) * (8 : Int) ≤ 140737488355328 ∧ (8 : Int) ≤ 1000000000 ∧
 H.new h1120 (repl ((8 : Int)).toNat [(Value.int .i64 0)]) fun r1121 h1122 =>
 ([(Value.slice (some (Addr.mk r1121 0 none)) (((8 : Int)).toNat) (((8 : Int)).toNat)), (Value.int .i64 0), (Value.int .i64 0), (Value.slice (some (Addr.mk r1051 0 none)) ((p0_n).toNat) ((p0_n).toNat)), (Value.slice (some (Addr.mk r1119 0 none)) ((p0_n).toNat) ((p0_n).toNat)), (Value.slice (some (Addr.mk r969 0 none)) ((p0_n).toNat) ((p0_n).toNat)), (Value.slice (some (Addr.mk r1105 0 none)) ((p0_n).toNat) ((p0_n).toNat))]).length = 7 ∧ (Program.underlying Go.Proofs.Tryd.prog 49).isSome = true ∧
 H.wr h1122 (Addr.mk r1 0 none) ([(Value.slice (some (Addr.mk r1121 0 none)) (((8 : Int)).toNat) (((8 : Int)).toNat)), (Value.int .i64 0), (Value.int .i64 0), (Value.slice (some (Addr.mk r1051 0 none)) ((p0_n).toNat) ((p0_n).toNat)), (Value.slice (some (Addr.mk r1119 0 none)) ((p0_n).toNat) ((p0_n).toNat)), (Value.slice (some (Addr.mk r969 0 none)) ((p0_n).toNat) ((p0_n).toNat)), (Value.slice (some (Addr.mk r1105 0 none)) ((p0_n).toNat) ((p0_n).toNat))]) fun h1123 =>
 ∃ x1124 : SV, H.rd h1123 (Addr.add (Addr.mk r1 0 none) 0) (Value.slice x1124.a x1124.len x1124.cap) ∧
 ∃ x1125 : Int, H.rd h1123 (Addr.add (Addr.mk r1 0 none) 1) (Value.int .i64 x1125) ∧
 ∃ x1126 : Int, H.rd h1123 (Addr.add (Addr.mk r1 0 none) 2) (Value.int .i64 x1126) ∧
 ∃ x1127 : SV, H.rd h1123 (Addr.add (Addr.mk r1 0 none) 3) (Value.slice x1127.a x1127.len x1127.cap) ∧
 ∃ x1128 : SV, H.rd h1123 (Addr.add (Addr.mk r1 0 none) 4) (Value.slice x1128.a x1128.len x1128.cap) ∧
 ∃ x1129 : SV, H.rd h1123 (Addr.add (Addr.mk r1 0 none) 5) (Value.slice x1129.a x1129.len x1129.cap) ∧
 ∃ x1130 : SV, H.rd h1123 (Addr.add (Addr.mk r1 0 none) 6) (Value.slice x1130.a x1130.len x1130.cap) ∧
 VRet h1123 (Value.agg (List.toArray [(Value.slice x1124.a x1124.len x1124.cap), (Value.int .i64 x1125), (Value.int .i64 x1126), (Value.slice x1127.a x1127.len x1127.cap), (Value.slice x1128.a x1128.len x1128.cap), (Value.slice x1129.a x1129.len x1129.cap), (Value.slice x1130.a x1130.len x1130.cap)])) post)))) ∧
 (
 (
 0 ≤ p0_n ∧ p0_n ≤ p0_n ∧ ((8 : Nat) : Int) * p0_n ≤ 140737488355328 ∧ p0_n ≤ 1000000000 ∧
 H.new h970 (repl (p0_n).toNat [(Value.int .i64 0)]) fun r1131 h1132 =>
 (
 0 ≤ (8 : Int) ∧ (8 : Int) ≤ (8 : Int) ∧ ((8 : Nat) : Int) * (8 : Int) ≤ 140737488355328 ∧ (8 : Int) ≤ 1000000000 ∧
 H.new h1132 (repl ((8 : Int)).toNat [(Value.int .i64 0)]) fun r1133 h1134 =>
 (
 0 ≤ p0_n ∧ p0_n ≤ p0_n ∧ ((8 : Nat) : Int) * p0_n ≤ 140737488355328 ∧ p0_n ≤ 1000000000 ∧
 H.new h1134 (repl (p0_n).toNat [(Value.int .i64 0)]) fun r1135 h1136 =>
 0 ≤ p0_n ∧ p0_n ≤ p0_n ∧ ((8 : Nat) : Int) * p0_n ≤ 140737488355328 ∧ p0_n ≤ 1000000000 ∧
 H.new h1136 (repl (p0_n).toNat [(Value.int .i64 0)]) fun r1137 h1138 =>
 ([(Value.slice (some (Addr.mk r1133 0 none)) (((8 : Int)).toNat) (((8 : Int)).toNat)), (Value.int .i64 0), (Value.int .i64 0), (Value.slice (some (Addr.mk r1135 0 none)) ((p0_n).toNat) ((p0_n).toNat)), (Value.slice (some (Addr.mk r1131 0 none)) ((p0_n).toNat) ((p0_n).toNat)), (Value.slice (some (Addr.mk r969 0 none)) ((p0_n).toNat) ((p0_n).toNat)), (Value.slice (some (Addr.mk r1137 0 none)) ((p0_n).toNat) ((p0_n).toNat))]).length = 7 ∧ (Program.underlying Go.Proofs.Tryd.prog 49).isSome = true ∧
 H.wr h1138 (Addr.mk r1 0 none) ([(Value.slice (some (Addr.mk r1133 0 none)) (((8 : Int)).toNat) (((8 : Int)).toNat)), (Value.int .i64 0), (Value.int .i64 0), (Value.slice (some (Addr.mk r1135 0 none)) ((p0_n).toNat) ((p0_n).toNat)), (Value.slice (some (Addr.mk r1131 0 none)) ((p0_n).toNat) ((p0_n).toNat)), (Value.slice (some (Addr.mk r969 0 none)) ((p0_n).toNat) ((p0_n).toNat)), (Value.slice (some (Addr.mk r1137 0 none)) ((p0_n).toNat) ((p0_n).toNat))]) fun h1139 =>
 ∃ x1140 : SV, H.rd h1139 (Addr.add (Addr.mk r1 0 none) 0) (Value.slice x1140.a x1140.len x1140.cap) ∧
 ∃ x1141 : Int, H.rd h1139 (Addr.add (Addr.mk r1 0 none) 1) (Value.int .i64 x1141) ∧
 ∃ x1142 : Int, H.rd h1139 (Addr.add (Addr.mk r1 0 none) 2) (Value.int .i64 x1142) ∧
 ∃ x1143 : SV, H.rd h1139 (Addr.add (Addr.mk r1 0 none) 3) (Value.slice x1143.a x1143.len x1143.cap) ∧
 ∃ x1144 : SV, H.rd h1139 (Addr.add (Addr.mk r1 0 none) 4) (Value.slice x1144.a x1144.len x1144.cap) ∧
 ∃ x1145 : SV, H.rd h1139 (Addr.add (Addr.mk r1 0 none) 5) (Value.slice x1145.a x1145.len x1145.cap) ∧
 ∃ x1146 : SV, H.rd h1139 (Addr.add (Addr.mk r1 0 none) 6) (Value.slice x1146.a x1146.len x1146.cap) ∧
 VRet h1139 (Value.agg (List.toArray [(Value.slice x1140.a x1140.len x1140.cap), (Value.int .i64 x1141), (Value.int .i64 x1142), (Value.slice x1143.a x1143.len x1143.cap), (Value.slice x1144.a x1144.len x1144.cap), (Value.slice x1145.a x1145.len x1145.cap), (Value.slice x1146.a x1146.len x1146.cap)])) post) ∧
 (
 0 ≤ p0_n ∧ p0_n ≤ p0_n ∧ ((8 : Nat) : Int) * p0_n ≤ 140737488355328 ∧ p0_n ≤ 1000000000 ∧
 H.new h1134 (repl (p0_n).toNat [(Value.int .i64 0)]) fun r1147 h1148 =>
 0 ≤ p0_n ∧ p0_n ≤ p0_n ∧ ((8 : Nat) : Int) * p0_n ≤ 140737488355328 ∧ p0_n ≤ 1000000000 ∧
 H.new h1148 (repl (p0_n).toNat [(Value.int .i64 0)]) fun r1149 h1150 =>
 ([(Value.slice (some (Addr.mk r1133 0 none)) (((8 : Int)).toNat) (((8 : Int)).toNat)), (Value.int .i64 0), (Value.int .i64 0), (Value.slice (some (Addr.mk r1149 0 none)) ((p0_n).toNat) ((p0_n).toNat)), (Value.slice (some (Addr.mk r1131 0 none)) ((p0_n).toNat) ((p0_n).toNat)), (Value.slice (some (Addr.mk r969 0 none)) ((p0_n).toNat) ((p0_n).toNat)), (Value.slice (some (Addr.mk r1147 0 none)) ((p0_n).toNat) ((p0_n).toNat))]).length = 7 ∧ (Program.underlying Go.Proofs.Tryd.prog 49).isSome = true ∧
 H.wr h1150 (Addr.mk r1 0 none) ([(Value.slice (some (Addr.mk r1133 0 none)) (((8 : Int)).toNat) (((8 : Int)).toNat)), (Value.int .i64 0), (Value.int .i64 0), (Value.slice (some (Addr.mk r1149 0 none)) ((p0_n).toNat) ((p0_n).toNat)), (Value.slice (some (Addr.mk r1131 0 none)) ((p0_n).toNat) ((p0_n).toNat)), (Value.slice (some (Addr.mk r969 0 none)) ((p0_n).toNat) ((p0_n).toNat)), (Value.slice (some (Addr.mk r1147 0 none)) ((p0_n).toNat) ((p0_n).toNat))]) fun h1151 =>
 ∃ x1152 : SV, H.rd h1151 (Addr.add (Addr.mk r1 0 none) 0) (Value.slice x1152.a x1152.len x1152.cap) ∧
 ∃ x1153 : Int, H.rd h1151 (Addr.add (Addr.mk r1 0 none) 1) (Value.int .i64 x1153) ∧
 ∃ x1154 : Int, H.rd h1151 (Addr.add (Addr.mk r1 0 none) 2) (Value.int .i64 x1154) ∧
 ∃ x1155 : SV, H.rd h1151 (Addr.add (Addr.mk r1 0 none) 3) (Value.slice x1155.a x1155.len x1155.cap) ∧
 ∃ x1156 : SV, H.rd h1151 (Addr.add (Addr.mk r1 0 none) 4) (Value.slice x1156.a x1156.len x1156.cap) ∧
 ∃ x1157 : SV, H.rd h1151 (Addr.add (Addr.mk r1 0 none) 5) (Value.slice x1157.a x1157.len x1157.cap) ∧
 ∃ x1158 : SV, H.rd h1151 (Addr.add (Addr.mk r1 0 none) 6) (Value.slice x1158.a x1158.len x1158.cap) ∧
 VRet h1151 (Value.agg (List.toArray [(Value.slice x1152.a x1152.len x1152.cap), (Value.int .i64 x1153), (Value.int .i64 x1154), (Value.slice x1155.a x1155.len x1155.cap), (Value.slice x1156.a x1156.len x1156.cap), (Value.slice x1157.a x1157.len x1157.cap), (Value.slice x1158.a x1158.len x1158.cap)])) post)) ∧
 (
 (
 0 ≤ p0_n ∧ p0_n ≤ p0_n ∧ ((8 : Nat) : Int) * p0_n ≤ 140737488355328 ∧ p0_n ≤ 1000000000 ∧
 H.new h1132 (repl (p0_n).toNat [(Value.int .i64 0)]) fun r1159 h1160 =>
 (
 0 ≤ (8 : Int) ∧ (8 : Int) ≤ (8 : Int) ∧ ((8 : Nat) : Int) * (8 : Int) ≤ 140737488355328 ∧ (8 : Int) ≤ 1000000000 ∧
 H.new h1160 (repl ((8 : Int)).toNat [(Value.int .i64 0)]) fun r1161 h1162 =>
 0 ≤ p0_n ∧ p0_n ≤ p0_n ∧ ((8 : Nat) : Int) * p0_n ≤ 140737488355328 ∧ p0_n ≤ 1000000000 ∧
 H.new h1162 (repl (p0_n).toNat [(Value.int .i64 0)]) fun r1163 h1164 =>
 ([(Value.slice (some (Addr.mk r1161 0 none)) (((8 : Int)).toNat) (((8 : Int)).toNat)), (Value.int .i64 0), (Value.int .i64 0), (Value.slice (some (Addr.mk r1159 0 none)) ((p0_n).toNat) ((p0_n).toNat)), (Value.slice (some (Addr.mk r1131 0 none)) ((p0_n).toNat) ((p0_n).toNat)), (Value.slice (some (Addr.mk r969 0 none)) ((p0_n).toNat) ((p0_n).toNat)), (Value.slice (some (Addr.mk r1163 0 none)) ((p0_n).toNat) ((p0_n).toNat))]).length = 7 ∧ (Program.underlying Go.Proofs.Tryd.prog 49).isSome = true ∧
 H.wr h1164 (Addr.mk r1 0 none) ([(Value.slice (some (Addr.mk r1161 0 none)) (((8 : Int)).toNat) (((8 : Int)).toNat)), (Value.int .i64 0), (Value.int .i64 0), (Value.slice (some (Addr.mk r1159 0 none)) ((p0_n).toNat) ((p0_n).toNat)), (Value.slice (some (Addr.mk r1131 0 none)) ((p0_n).toNat) ((p0_n).toNat)), (Value.slice (some (Addr.mk r969 0 none)) ((p0_n).toNat) ((p0_n).toNat)), (Value.slice (some (Addr.mk r1163 0 none)) ((p0_n).toNat) ((p0_n).toNat))]) fun h1165 =>
 ∃ x1166 : SV, H.rd h1165 (Addr.add (Addr.mk r1 0 none) 0) (Value.slice x1166.a x1166.len x1166.cap) ∧
 ∃ x1167 : Int, H.rd h1165 (Addr.add (Addr.mk r1 0 none) 1) (Value.int .i64 x1167) ∧
 ∃ x1168 : Int, H.rd h1165 (Addr.add (Addr.mk r1 0 none) 2) (Value.int .i64 x1168) ∧
 ∃ x1169 : SV, H.rd h1165 (Addr.add (Addr.mk r1 0 none) 3) (Value.slice x1169.a x1169.len x1169.cap) ∧
 ∃ x1170 : SV, H.rd h1165 (Addr.add (Addr.mk r1 0 none) 4) (Value.slice x1170.a x1170.len x1170.cap) ∧
 ∃ x1171 : SV, H.rd h1165 (Addr.add (Addr.mk r1 0 none) 5) (Value.slice x1171.a x1171.len x1171.cap) ∧
 ∃ x1172 : SV, H.rd h1165 (Addr.add (Addr.mk r1 0 none) 6) (Value.slice x1172.a x1172.len x1172.cap) ∧
 VRet h1165 (Value.agg (List.toArray [(Value.slice x1166.a x1166.len x1166.cap), (Value.int .i64 x1167), (Value.int .i64 x1168), (Value.slice x1169.a x1169.len x1169.cap), (Value.slice x1170.a x1170.len x1170.cap), (Value.slice x1171.a x1171.len x1171.cap), (Value.slice x1172.a x1172.len x1172.cap)])) post) ∧
 (
 0 ≤ p0_n ∧ p0_n ≤ p0_n ∧ ((8 : Nat) : Int) * p0_n ≤ 140737488355328 ∧ p0_n ≤ 1000000000 ∧
 H.new h1160 (repl (p0_n).toNat [(Value.int .i64 0)]) fun r1173 h1174 =>
 0 ≤ (8 : Int) ∧ (8 : Int) ≤ (8 : Int) ∧ ((8 : Nat) : Int) * (8 : Int) ≤ 140737488355328 ∧ (8 : Int) ≤ 1000000000 ∧
 H.new h1174 (repl ((8 : Int)).toNat [(Value.int .i64 0)]) fun r1175 h1176 =>
 ([(Value.slice (some (Addr.mk r1175 0 none)) (((8 : Int)).toNat) (((8 : Int)).toNat)), (Value.int .i64 0), (Value.int .i64 0), (Value.slice (some (Addr.mk r1159 0 none)) ((p0_n).toNat) ((p0_n).toNat)), (Value.slice (some (Addr.mk r1131 0 none)) ((p0_n).toNat) ((p0_n).toNat)), (Value.slice (some (Addr.mk r969 0 none)) ((p0_n).toNat) ((p0_n).toNat)), (Value.slice (some (Addr.mk r1173 0 none)) ((p0_n).toNat) ((p0_n).toNat))]).length = 7 ∧ (Program.underlying Go.Proofs.Tryd.prog 49).isSome = true ∧
 H.wr h1176 (Addr.mk r1 0 none) ([(Value.slice (some (Addr.mk r1175 0 none)) (((8 : Int)).toNat) (((8 : Int)).toNat)), (Value.int .i64 0), (Value.int .i64 0), (Value.slice (some (Addr.mk r1159 0 none)) ((p0_n).toNat) ((p0_n).toNat)), (Value.slice (some (Addr.mk r1131 0 none)) ((p0_n).toNat) ((p0_n).toNat)), (Value.slice (some (Addr.mk r969 0 none)) ((p0_n).toNat) ((p0_n).toNat)), (Value.slice (some (Addr.mk r1173 0 none)) ((p0_n).toNat) ((p0_n).toNat))]) fun h1177 =>
 ∃ x1178 : SV, H.rd h1177 (Addr.add (Addr.mk r1 0 none) 0) (Value.slice x1178.a x1178.len x1178.cap) ∧
 ∃ x1179 : Int, H.rd h1177 (Addr.add (Addr.mk r1 0 none) 1) (Value.int .i64 x1179) ∧
 ∃ x1180 : Int, H.rd h1177 (Addr.add (Addr.mk r1 0 none) 2) (Value.int .i64 x1180) ∧
 ∃ x1181 : SV, H.rd h1177 (Addr.add (Addr.mk r1 0 none) 3) (Value.slice x1181.a x1181.len x1181.cap) ∧
 ∃ x1182 : SV, H.rd h1177 (Addr.add (Addr.mk r1 0 none) 4) (Value.slice x1182.a x1182.len x1182.cap) ∧
 ∃ x1183 : SV, H.rd h1177 (Addr.add (Addr.mk r1 0 none) 5) (Value.slice x1183.a x1183.len x1183.cap) ∧
 ∃ x1184 : SV, H.rd h1177 (Addr.add (Addr.mk r1 0 none) 6) (Value.slice x1184.a x1184.len x1184.cap) ∧
 VRet h1177 (Value.agg (List.toArray [(Value.slice x1178.a x1178.len x1178.cap), (Value.int .i64 x1179), (Value.int .i64 x1180), (Value.slice x1181.a x1181.len x1181.cap), (Value.slice x1182.a x1182.len x1182.cap), (Value.slice x1183.a x1183.len x1183.cap), (Value.slice x1184.a x1184.len x1184.cap)])) post)) ∧
 (
 0 ≤ p0_n ∧ p0_n ≤ p0_n ∧ ((8 : Nat) : Int) * p0_n ≤ 140737488355328 ∧ p0_n ≤ 1000000000 ∧
 H.new h1132 (repl (p0_n).toNat [(Value.int .i64 0)]) fun r1185 h1186 =>
 (
 0 ≤ (8 : Int) ∧ (8 : Int) ≤ (8 : Int) ∧ ((8 : Nat) : Int) * (8 : Int) ≤ 140737488355328 ∧ (8 : Int) ≤ 1000000000 ∧
 H.new h1186 (repl ((8 : Int)).toNat [(Value.int .i64 0)]) fun r1187 h1188 =>
 0 ≤ p0_n ∧ p0_n ≤ p0_n ∧ ((8 : Nat) : Int) * p0_n ≤ 140737488355328 ∧ p0_n ≤ 1000000000 ∧
 H.new h1188 (repl (p0_n).toNat [(Value.int .i64 0)]) fun r1189 h1190 =>
 ([(Value.slice (some (Addr.mk r1187 0 none)) (((8 : Int)).toNat) (((8 : Int)).toNat)), (Value.int .i64 0), (Value.int .i64 0), (Value.slice (some (Addr.mk r1189 0 none)) ((p0_n).toNat) ((p0_n).toNat)), (Value.slice (some (Addr.mk r1131 0 none)) ((p0_n).toNat) ((p0_n).toNat)), (Value.slice (some (Addr.mk r969 0 none)) ((p0_n).toNat) ((p0_n).toNat)), (Value.slice (some (Addr.mk r1185 0 none)) ((p0_n).toNat) ((p0_n).toNat))]).length = 7 ∧ (Program.underlying Go.Proofs.Tryd.prog 49).isSome = true ∧
 H.wr h1190 (Addr.mk r1 0 none) ([(Value.slice (some (Addr.mk r1187 0 none)) (((8 : Int)).toNat) (((8 : Int)).toNat)), (Value.int .i64 0), (Value.int .i64 0), (Value.slice (some (Addr.mk r1189 0 none)) ((p0_n).toNat) ((p0_n).toNat)), (Value.slice (some (Addr.mk r1131 0 none)) ((p0_n).toNat) ((p0_n).toNat)), (Value.slice (some (Addr.mk r969 0 none)) ((p0_n).toNat) ((p0_n).toNat)), (Value.slice (some (Addr.mk r1185 0 none)) ((p0_n).toNat) ((p0_n).toNat))]) fun h1191 =>
 ∃ x1192 : SV, H.rd h1191 (Addr.add (Addr.mk r1 0 none) 0) (Value.slice x1192.a x1192.len x1192.cap) ∧
 ∃ x1193 : Int, H.rd h1191 (Addr.add (Addr.mk r1 0 none) 1) (Value.int .i64 x1193) ∧
 ∃ x1194 : Int, H.rd h1191 (Addr.add (Addr.mk r1 0 none) 2) (Value.int .i64 x1194) ∧
 ∃ x1195 : SV, H.rd h1191 (Addr.add (Addr.mk r1 0 none) 3) (Value.slice x1195.a x1195.len x1195.cap) ∧
 ∃ x1196 : SV, H.rd h1191 (Addr.add (Addr.mk r1 0 none) 4) (Value.slice x1196.a x1196.len x1196.cap) ∧
 ∃ x1197 : SV, H.rd h1191 (Addr.add (Addr.mk r1 0 none) 5) (Value.slice x1197.a x1197.len x1197.cap) ∧
 ∃ x1198 : SV, H.rd h1191 (Addr.add (Addr.mk r1 0 none) 6) (Value.slice x1198.a x1198.len x1198.cap) ∧
 VRet h1191 (Value.agg (List.toArray [(Value.slice x1192.a x1192.len x1192.cap), (Value.int .i64 x1193), (Value.int .i64 x1194), (Value.slice x1195.a x1195.len x1195.cap), (Value.slice x1196.a x1196.len x1196.cap), (Value.slice x1197.a x1197.len x1197.cap), (Value.slice x1198.a x1198.len x1198.cap)])) post) ∧
 (
 0 ≤ p0_n ∧ p0_n ≤ p0_n ∧ ((8 : Nat) : Int) * p0_n ≤ 140737488355328 ∧ p0_n ≤ 1000000000 ∧
 H.new h1186 (repl (p0_n).toNat [(Value.int .i64 0)]) fun r1199 h1200 =>
 0 ≤ (8 : Int) ∧ (8 : Int) ≤ (8 : Int) ∧ ((8 : Nat) : Int) * (8 : Int) ≤ 140737488355328 ∧ (8 : Int) ≤ 1000000000 ∧
 H.new h1200 (repl ((8 : Int)).toNat [(Value.int .i64 0)]) fun r1201 h1202 =>
 ([(Value.slice (some (Addr.mk r1201 0 none)) (((8 : Int)).toNat) (((8 : Int)).toNat)), (Value.int .i64 0), (Value.int .i64 0), (Value.slice (some (Addr.mk r1199 0 none)) ((p0_n).toNat) ((p0_n).toNat)), (Value.slice (some (Addr.mk r1131 0 none)) ((p0_n).toNat) ((p0_n).toNat)), (Value.slice (some (Addr.mk r969 0 none)) ((p0_n).toNat) ((p0_n).toNat)), (Value.slice (some (Addr.mk r1185 0 none)) ((p0_n).toNat) ((p0_n).toNat))]).length = 7 ∧ (Program.underlying Go.Proofs.Tryd.prog 49).isSome = true ∧
 H.wr h1202 (Addr.mk r1 0 none) ([(Value.slice (some (Addr.mk r1201 0 none)) (((8 : Int)).toNat) (((8 : Int)).toNat)), (Value.int .i64 0), (Value.int .i64 0), (Value.slice (some (Addr.mk r1199 0 none)) ((p0_n).toNat) ((p0_n).toNat)), (Value.slice (some (Addr.mk r1131 0 none)) ((p0_n).toNat) ((p0_n).toNat)), (Value.slice (some (Addr.mk r969 0 none)) ((p0_n).toNat) ((p0_n).toNat)), (Value.slice (some (Addr.mk r1185 0 none)) ((p0_n).toNat) ((p0_n).toNat))]) fun h1203 =>
 ∃ x1204 : SV, H.rd h1203 (Addr.add (Addr.mk r1 0 none) 0) (Value.slice x1204.a x1204.len x1204.cap) ∧
 ∃ x1205 : Int, H.rd h1203 (Addr.add (Addr.mk r1 0 none) 1) (Value.int .i64 x1205) ∧
 ∃ x1206 : Int, H.rd h1203 (Addr.add (Addr.mk r1 0 none) 2) (Value.int .i64 x1206) ∧
 ∃ x1207 : SV, H.rd h1203 (Addr.add (Addr.mk r1 0 none) 3) (Value.slice x1207.a x1207.len x1207.cap) ∧
 ∃ x1208 : SV, H.rd h1203 (Addr.add (Addr.mk r1 0 none) 4) (Value.slice x1208.a x1208.len x1208.cap) ∧
 ∃ x1209 : SV, H.rd h1203 (Addr.add (Addr.mk r1 0 none) 5) (Value.slice x1209.a x1209.len x1209.cap) ∧
 ∃ x1210 : SV, H.rd h1203 (Addr.add (Addr.mk r1 0 none) 6) (Value.slice x1210.a x1210.len x1210.cap) ∧
 VRet h1203 (Value.agg (List.toArray [(Value.slice x1204.a x1204.len x1204.cap), (Value.int .i64 x1205), (Value.int .i64 x1206), (Value.slice x1207.a x1207.len x1207.cap), (Value.slice x1208.a x1208.len x1208.cap), (Value.slice x1209.a x1209.len x1209.cap), (Value.slice x1210.a x1210.len x1210.cap)])) post)))) ∧
 (
 0 ≤ p0_n ∧ p0_n ≤ p0_n ∧ ((8 : Nat) : Int) * p0_n ≤ 140737488355328 ∧ p0_n ≤ 1000000000 ∧
 H.new h970 (repl (p0_n).toNat [(Value.int .i64 0)]) fun r1211 h1212 =>
 (
 0 ≤ (8 : Int) ∧ (8 : Int) ≤ (8 : Int) ∧ ((8 : Nat) : Int) * (8 : Int) ≤ 140737488355328 ∧ (8 : Int) ≤ 1000000000 ∧
 H.new h1212 (repl ((8 : Int)).toNat [(Value.int .i64 0)]) fun r1213 h1214 =>
 (
 0 ≤ p0_n ∧ p0_n ≤ p0_n ∧ ((8 : Nat) : Int) * p0_n ≤ 140737488355328 ∧ p0_n ≤ 1000000000 ∧
 H.new h1214 (repl (p0_n).toNat [(Value.int .i64 0)]) fun r1215 h1216 =>
 0 ≤ p0_n ∧ p0_n ≤ p0_n ∧ ((8 : Nat) : Int) * p0_n ≤ 140737488355328 ∧ p0_n ≤ 1000000000 ∧
 H.new h1216 (repl (p0_n).toNat [(Value.int .i64 0)]) fun r1217 h1218 =>
 ([(Value.slice (some (Addr.mk r1213 0 none)) (((8 : Int)).toNat) (((8 : Int)).toNat)), (Value.int .i64 0), (Value.int .i64 0), (Value.slice (some (Addr.mk r1215 0 none)) ((p0_n).toNat) ((p0_n).toNat)), (Value.slice (some (Addr.mk r1217 0 none)) ((p0_n).toNat) ((p0_n).toNat)), (Value.slice (some (Addr.mk r969 0 none)) ((p0_n).toNat) ((p0_n).toNat)), (Value.slice (some (Addr.mk r1211 0 none)) ((p0_n).toNat) ((p0_n).toNat))]).length = 7 ∧ (Program.underlying Go.Proofs.Tryd.prog 49).isSome = true ∧
 H.wr h1218 (Addr.mk r1 0 none) ([(Value.slice (some (Addr.mk r1213 0 none)) (((8 : Int)).toNat) (((8 : Int)).toNat)), (Value.int .i64 0), (Value.int .i64 0), (Value.slice (some (Addr.mk r1215 0 none)) ((p0_n).toNat) ((p0_n).toNat)), (Value.slice (some (Addr.mk r1217 0 none)) ((p0_n).toNat) ((p0_n).toNat)), (Value.slice (some (Addr.mk r969 0 none)) ((p0_n).toNat) ((p0_n).toNat)), (Value.slice (some (Addr.mk r1211 0 none)) ((p0_n).toNat) ((p0_n).toNat))]) fun h1219 =>
 ∃ x1220 : SV, H.rd h1219 (Addr.add (Addr.mk r1 0 none) 0) (Value.slice x1220.a x1220.len x1220.cap) ∧
 ∃ x1221 : Int, H.rd h1219 (Addr.add (Addr.mk r1 0 none) 1) (Value.int .i64 x1221) ∧
 ∃ x1222 : Int, H.rd h1219 (Addr.add (Addr.mk r1 0 none) 2) (Value.int .i64 x1222) ∧
 ∃ x1223 : SV, H.rd h1219 (Addr.add (Addr.mk r1 0 none) 3) (Value.slice x1223.a x1223.len x1223.cap) ∧
 ∃ x1224 : SV, H.rd h1219 (Addr.add (Addr.mk r1 0 none) 4) (Value.slice x1224.a x1224.len x1224.cap) ∧
 ∃ x1225 : SV, H.rd h1219 (Addr.add (Addr.mk r1 0 none) 5) (Value.slice x1225.a x1225.len x1225.cap) ∧
 ∃ x1226 : SV, H.rd h1219 (Addr.add (Addr.mk r1 0 none) 6) (Value.slice x1226.a x1226.len x1226.cap) ∧
 VRet h1219 (Value.agg (List.toArray [(Value.slice x1220.a x1220.len x1220.cap), (Value.int .i64 x1221), (Value.int .i64 x1222), (Value.slice x1223.a x1223.len x1223.cap), (Value.slice x1224.a x1224.len x1224.cap), (Value.slice x1225.a x1225.len x1225.cap), (Value.slice x1226.a x1226.len x1226.cap)])) post) ∧
 (
 0 ≤ p0_n ∧ p0_n ≤ p0_n ∧ ((8 : Nat) : Int) * p0_n ≤ 140737488355328 ∧ p0_n ≤ 1000000000 ∧
 H.new h1214 (repl (p0_n).toNat [(Value.int .i64 0)]) fun r1227 h1228 =>
 0 ≤ p0_n ∧ p0_n ≤ p0_n ∧ ((8 : Nat) : Int) * p0_n ≤ 140737488355328 ∧ p0_n ≤ 1000000000 ∧
 H.new h1228 (repl (p0_n).toNat [(Value.int .i64 0)]) fun r1229 h1230 =>
 ([(Value.slice (some (Addr.mk r1213 0 none)) (((8 : Int)).toNat) (((8 : Int)).toNat)), (Value.int .i64 0), (Value.int .i64 0), (Value.slice (some (Addr.mk r1229 0 none)) ((p0_n).toNat) ((p0_n).toNat)), (Value.slice (some (Addr.mk r1227 0 none)) ((p0_n).toNat) ((p0_n).toNat)), (Value.slice (some (Addr.mk r969 0 none)) ((p0_n).toNat) ((p0_n).toNat)), (Value.slice (some (Addr.mk r1211 0 none)) ((p0_n).toNat) ((p0_n).toNat))]).length = 7 ∧ (Program.underlying Go.Proofs.Tryd.prog 49).isSome = true ∧
 H.wr h1230 (Addr.mk r1 0 none) ([(Value.slice (some (Addr.mk r1213 0 none)) (((8 : Int)).toNat) (((8 : Int)).toNat)), (Value.int .i64 0), (Value.int .i64 0), (Value.slice (some (Addr.mk r1229 0 none)) ((p0_n).toNat) ((p0_n).toNat)), (Value.slice (some (Addr.mk r1227 0 none)) ((p0_n).toNat) ((p0_n).toNat)), (Value.slice (some (Addr.mk r969 0 none)) ((p0_n).toNat) ((p0_n).toNat)), (Value.slice (some (Addr.mk r1211 0 none)) ((p0_n).toNat) ((p0_n).toNat))]) fun h1231 =>
 ∃ x1232 : SV, H.rd h1231 (Addr.add (Addr.mk r1 0 none) 0) (Value.slice x1232.a x1232.len x1232.cap) ∧
 ∃ x1233 : Int, H.rd h1231 (Addr.add (Addr.mk r1 0 none) 1) (Value.int .i64 x1233) ∧
 ∃ x1234 : Int, H.rd h1231 (Addr.add (Addr.mk r1 0 none) 2) (Value.int .i64 x1234) ∧
 ∃ x1235 : SV, H.rd h1231 (Addr.add (Addr.mk r1 0 none) 3) (Value.slice x1235.a x1235.len x1235.cap) ∧
 ∃ x1236 : SV, H.rd h1231 (Addr.add (Addr.mk r1 0 none) 4) (Value.slice x1236.a x1236.len x1236.cap) ∧
 ∃ x1237 : SV, H.rd h1231 (Addr.add (Addr.mk r1 0 none) 5) (Value.slice x1237.a x1237.len x1237.cap) ∧
 ∃ x1238 : SV, H.rd h1231 (Addr.add (Addr.mk r1 0 none) 6) (Value.slice x1238.a x1238.len x1238.cap) ∧
 VRet h1231 (Value.agg (List.toArray [(Value.slice x1232.a x1232.len x1232.cap), (Value.int .i64 x1233), (Value.int .i64 x1234), (Value.slice x1235.a x1235.len x1235.cap), (Value.slice x1236.a x1236.len x1236.cap), (Value.slice x1237.a x1237.len x1237.cap), (Value.slice x1238.a x1238.len x1238.cap)])) post)) ∧
 (
 (
 0 ≤ p0_n ∧ p0_n ≤ p0_n ∧ ((8 : Nat) : Int) * p0_n ≤ 140737488355328 ∧ p0_n ≤ 1000000000 ∧
 H.new h1212 (repl (p0_n).toNat [(Value.int .i64 0)]) fun r1239 h1240 =>
 (
 0 ≤ (8 : Int) ∧ (8 : Int) ≤ (8 : Int) ∧ ((8 : Nat) : Int) * (8 : Int) ≤ 140737488355328 ∧ (8 : Int) ≤ 1000000000 ∧
 H.new h1240 (repl ((8 : Int)).toNat [(Value.int .i64 0)]) fun r1241 h1242 =>
 0 ≤ p0_n ∧ p0_n ≤ p0_n ∧ ((8 : Nat) : Int) * p0_n ≤ 140737488355328 ∧ p0_n ≤ 1000000000 ∧
 H.new h1242 (repl (p0_n).toNat [(Value.int .i64 0)]) fun r1243 h1244 =>
 ([(Value.slice (some (Addr.mk r1241 0 none)) (((8 : Int)).toNat) (((8 : Int)).toNat)), (Value.int .i64 0), (Value.int .i64 0), (Value.slice (some (Addr.mk r1239 0 none)) ((p0_n).toNat) ((p0_n).toNat)), (Value.slice (some (Addr.mk r1243 0 none)) ((p0_n).toNat) ((p0_n).toNat)), (Value.slice (some (Addr.mk r969 0 none)) ((p0_n).toNat) ((p0_n).toNat)), (Value.slice (some (Addr.mk r1211 0 none)) ((p0_n).toNat) ((p0_n).toNat))]).length = 7 ∧ (Program.underlying Go.Proofs.Tryd.prog 49).isSome = true ∧
 H.wr h1244 (Addr.mk r1 0 none) ([(Value.slice (some (Addr.mk r1241 0 none)) (((8 : Int)).toNat) (((8 : Int)).toNat)), (Value.int .i64 0), (Value.int .i64 0), (Value.slice (some (Addr.mk r1239 0 none)) ((p0_n).toNat) ((p0_n).toNat)), (Value.slice (some (Addr.mk r1243 0 none)) ((p0_n).toNat) ((p0_n).toNat)), (Value.slice (some (Addr.mk r969 0 none)) ((p0_n).toNat) ((p0_n).toNat)), (Value.slice (some (Addr.mk r1211 0 none)) ((p0_n).toNat) ((p0_n).toNat))]) fun h1245 =>
 ∃ x1246 : SV, H.rd h1245 (Addr.add (Addr.mk r1 0 none) 0) (Value.slice x1246.a x1246.len x1246.cap) ∧
 ∃ x1247 : Int, H.rd h1245 (Addr.add (Addr.mk r1 0 none) 1) (Value.int .i64 x1247) ∧
 ∃ x1248 : Int, H.rd h1245 (Addr.add (Addr.mk r1 0 none) 2) (Value.int .i64 x1248) ∧
 ∃ x1249 : SV, H.rd h1245 (Addr.add (Addr.mk r1 0 none) 3) (Value.slice x1249.a x1249.len x1249.cap) ∧
 ∃ x1250 : SV, H.rd h1245 (Addr.add (Addr.mk r1 0 none) 4) (Value.slice x1250.a x1250.len x1250.cap) ∧
 ∃ x1251 : SV, H.rd h1245 (Addr.add (Addr.mk r1 0 none) 5) (Value.slice x1251.a x1251.len x1251.cap) ∧
 ∃ x1252 : SV, H.rd h1245 (Addr.add (Addr.mk r1 0 none) 6) (Value.slice x1252.a x1252.len x1252.cap) ∧
 VRet h1245 (Value.agg (List.toArray [(Value.slice x1246.a x1246.len x1246.cap), (Value.int .i64 x1247), (Value.int .i64 x1248), (Value.slice x1249.a x1249.len x1249.cap), (Value.slice x1250.a x1250.len x1250.cap), (Value.slice x1251.a x1251.len x1251.cap), (Value.slice x1252.a x1252.len x1252.cap)])) post) ∧
 (
 0 ≤ p0_n ∧ p0_n ≤ p0_n ∧ ((8 : Nat) : Int) * p0_n ≤ 140737488355328 ∧ p0_n ≤ 1000000000 ∧
 H.new h1240 (repl (p0_n).toNat [(Value.int .i64 0)]) fun r1253 h1254 =>
 0 ≤ (8 : Int) ∧ (8 : Int) ≤ (8 : Int) ∧ ((8 : Nat) : Int) * (8 : Int) ≤ 140737488355328 ∧ (8 : Int) ≤ 1000000000 ∧
 H.new h1254 (repl ((8 : Int)).toNat [(Value.int .i64 0)]) fun r1255 h1256 =>
 ([(Value.slice (some (Addr.mk r1255 0 none)) (((8 : Int)).toNat) (((8 : Int)).toNat)), (Value.int .i64 0), (Value.int .i64 0), (Value.slice (some (Addr.mk r1239 0 none)) ((p0_n).toNat) ((p0_n).toNat)), (Value.slice (some (Addr.mk r1253 0 none)) ((p0_n).toNat) ((p0_n).toNat)), (Value.slice (some (Addr.mk r969 0 none)) ((p0_n).toNat) ((p0_n).toNat)), (Value.slice (some (Addr.mk r1211 0 none)) ((p0_n).toNat) ((p0_n).toNat))]).length = 7 ∧ (Program.underlying Go.Proofs.Tryd.prog 49).isSome = true ∧
 H.wr h1256 (Addr.mk r1 0 none) ([(Value.slice (some (Addr.mk r1255 0 none)) (((8 : Int)).toNat) (((8 : Int)).toNat)), (Value.int .i64 0), (Value.int .i64 0), (Value.slice (some (Addr.mk r1239 0 none)) ((p0_n).toNat) ((p0_n).toNat)), (Value.slice (some (Addr.mk r1253 0 none)) ((p0_n).toNat) ((p0_n).toNat)), (Value.slice (some (Addr.mk r969 0 none)) ((p0_n).toNat) ((p0_n).toNat)), (Value.slice (some (Addr.mk r1211 0 none)) ((p0_n).toNat) ((p0_n).toNat))]) fun h1257 =>
 ∃ x1258 : SV, H.rd h1257 (Addr.add (Addr.mk r1 0 none) 0) (Value.slice x1258.a x1258.len x1258.cap) ∧
 ∃ x1259 : Int, H.rd h1257 (Addr.add (Addr.mk r1 0 none) 1) (Value.int .i64 x1259) ∧
 ∃ x1260 : Int, H.rd h1257 (Addr.add (Addr.mk r1 0 none) 2) (Value.int .i64 x1260) ∧
 ∃ x1261 : SV, H.rd h1257 (Addr.add (Addr.mk r1 0 none) 3) (Value.slice x1261.a x1261.len x1261.cap) ∧
 ∃ x1262 : SV, H.rd h1257 (Addr.add (Addr.mk r1 0 none) 4) (Value.slice x1262.a x1262.len x1262.cap) ∧
 ∃ x1263 : SV, H.rd h1257 (Addr.add (Addr.mk r1 0 none) 5) (Value.slice x1263.a x1263.len x1263.cap) ∧
 ∃ x1264 : SV, H.rd h1257 (Addr.add (Addr.mk r1 0 none) 6) (Value.slice x1264.a x1264.len x1264.cap) ∧
 VRet h1257 (Value.agg (List.toArray [(Value.slice x1258.a x1258.len x1258.cap), (Value.int .i64 x1259), (Value.int .i64 x1260), (Value.slice x1261.a x1261.len x1261.cap), (Value.slice x1262.a x1262.len x1262.cap), (Value.slice x1263.a x1263.len x1263.cap), (Value.slice x1264.a x1264.len x1264.cap)])) post)) ∧
 (
 0 ≤ p0_n ∧ p0_n ≤ p0_n ∧ ((8 : Nat) : Int) * p0_n ≤ 140737488355328 ∧ p0_n ≤ 1000000000 ∧
 H.new h1212 (repl (p0_n).toNat [(Value.int .i64 0)]) fun r1265 h1266 =>
 (
 0 ≤ (8 : Int) ∧ (8 : Int) ≤ (8 : Int) ∧ ((8 : Nat) : Int) * (8 : Int) ≤ 140737488355328 ∧ (8 : Int) ≤ 1000000000 ∧
 H.new h1266 (repl ((8 : Int)).toNat [(Value.int .i64 0)]) fun r1267 h1268 =>
 0 ≤ p0_n ∧ p0_n ≤ p0_n ∧ ((8 : Nat) : Int) * p0_n ≤ 140737488355328 ∧ p0_n ≤ 1000000000 ∧
 H.new h1268 (repl (p0_n).toNat [(Value.int .i64 0)]) fun r1269 h1270 =>
 ([(Value.slice (some (Addr.mk r1267 0 none)) (((8 : Int)).toNat) (((8 : Int)).toNat)), (Value.int .i64 0), (Value.int .i64 0), (Value.slice (some (Addr.mk r1269 0 none)) ((p0_n).toNat) ((p0_n).toNat)), (Value.slice (some (Addr.mk r1265 0 none)) ((p0_n).toNat) ((p0_n).toNat)), (Value.slice (some (Addr.mk r969 0 none)) ((p0_n).toNat) ((p0_n).toNat)), (Value.slice (some (Addr.mk r1211 0 none)) ((p0_n).toNat) ((p0_n).toNat))]).length = 7 ∧ (Program.underlying Go.Proofs.Tryd.prog 49).isSome = true ∧
 H.wr h1270 (Addr.mk r1 0 none) ([(Value.slice (some (Addr.mk r1267 0 none)) (((8 : Int)).toNat) (((8 : Int)).toNat)), (Value.int .i64 0), (Value.int .i64 0), (Value.slice (some (Addr.mk r1269 0 none)) ((p0_n).toNat) ((p0_n).toNat)), (Value.slice (some (Addr.mk r1265 0 none)) ((p0_n).toNat) ((p0_n).toNat)), (Value.slice (some (Addr.mk r969 0 none)) ((p0_n).toNat) ((p0_n).toNat)), (Value.slice (some (Addr.mk r1211 0 none)) ((p0_n).toNat) ((p0_n).toNat))]) fun h1271 =>
 ∃ x1272 : SV, H.rd h1271 (Addr.add (Addr.mk r1 0 none) 0) (Value.slice x1272.a x1272.len x1272.cap) ∧
 ∃ x1273 : Int, H.rd h1271 (Addr.add (Addr.mk r1 0 none) 1) (Value.int .i64 x1273) ∧
 ∃ x1274 : Int, H.rd h1271 (Addr.add (Addr.mk r1 0 none) 2) (Value.int .i64 x1274) ∧
 ∃ x1275 : SV, H.rd h1271 (Addr.add (Addr.mk r1 0 none) 3) (Value.slice x1275.a x1275.len x1275.cap) ∧
 ∃ x1276 : SV, H.rd h1271 (Addr.add (Addr.mk r1 0 none) 4) (Value.slice x1276.a x1276.len x1276.cap) ∧
 ∃ x1277 : SV, H.rd h1271 (Addr.add (Addr.mk r1 0 none) 5) (Value.slice x1277.a x1277.len x1277.cap) ∧
 ∃ x1278 : SV, H.rd h1271 (Addr.add (Addr.mk r1 0 none) 6) (Value.slice x1278.a x1278.len x1278.cap) ∧
 VRet h1271 (Value.agg (List.toArray [(Value.slice x1272.a x1272.len x1272.cap), (Value.int .i64 x1273), (Value.int .i64 x1274), (Value.slice x1275.a x1275.len x1275.cap), (Value.slice x1276.a x1276.len x1276.cap), (Value.slice x1277.a x1277.len x1277.cap), (Value.slice x1278.a x1278.len x1278.cap)])) post) ∧
 (
 0 ≤ p0_n ∧ p0_n ≤ p0_n ∧ ((8 : Nat) : Int) * p0_n ≤ 140737488355328 ∧ p0_n ≤ 1000000000 ∧
 H.new h1266 (repl (p0_n).toNat [(Value.int .i64 0)]) fun r1279 h1280 =>
 0 ≤ (8 : Int) ∧ (8 : Int) ≤ (8 : Int) ∧ ((8 : Nat) : Int) * (8 : Int) ≤ 140737488355328 ∧ (8 : Int) ≤ 1000000000 ∧
 H.new h1280 (repl ((8 : Int)).toNat [(Value.int .i64 0)]) fun r1281 h1282 =>
 ([(Value.slice (some (Addr.mk r1281 0 none)) (((8 : Int)).toNat) (((8 : Int)).toNat)), (Value.int .i64 0), (Value.int .i64 0), (Value.slice (some (Addr.mk r1279 0 none)) ((p0_n).toNat) ((p0_n).toNat)), (Value.slice (some (Addr.mk r1265 0 none)) ((p0_n).toNat) ((p0_n).toNat)), (Value.slice (some (Addr.mk r969 0 none)) ((p0_n).toNat) ((p0_n).toNat)), (Value.slice (some (Addr.mk r1211 0 none)) ((p0_n).toNat) ((p0_n).toNat))]).length = 7 ∧ (Program.underlying Go.Proofs.Tryd.prog 49).isSome = true ∧
 H.wr h1282 (Addr.mk r1 0 none) ([(Value.slice (some (Addr.mk r1281 0 none)) (((8 : Int)).toNat) (((8 : Int)).toNat)), (Value.int .i64 0), (Value.int .i64 0), (Value.slice (some (Addr.mk r1279 0 none)) ((p0_n).toNat) ((p0_n).toNat)), (Value.slice (some (Addr.mk r1265 0 none)) ((p0_n).toNat) ((p0_n).toNat)), (Value.slice (some (Addr.mk r969 0 none)) ((p0_n).toNat) ((p0_n).toNat)), (Value.slice (some (Addr.mk r1211 0 none)) ((p0_n).toNat) ((p0_n).toNat))]) fun h1283 =>
 ∃ x1284 : SV, H.rd h1283 (Addr.add (Addr.mk r1 0 none) 0) (Value.slice x1284.a x1284.len x1284.cap) ∧
 ∃ x1285 : Int, H.rd h1283 (Addr.add (Addr.mk r1 0 none) 1) (Value.int .i64 x1285) ∧
 ∃ x1286 : Int, H.rd h1283 (Addr.add (Addr.mk r1 0 none) 2) (Value.int .i64 x1286) ∧
 ∃ x1287 : SV, H.rd h1283 (Addr.add (Addr.mk r1 0 none) 3) (Value.slice x1287.a x1287.len x1287.cap) ∧
 ∃ x1288 : SV, H.rd h1283 (Addr.add (Addr.mk r1 0 none) 4) (Value.slice x1288.a x1288.len x1288.cap) ∧
 ∃ x1289 : SV, H.rd h1283 (Addr.add (Addr.mk r1 0 none) 5) (Value.slice x1289.a x1289.len x1289.cap) ∧
 ∃ x1290 : SV, H.rd h1283 (Addr.add (Addr.mk r1 0 none) 6) (Value.slice x1290.a x1290.len x1290.cap) ∧
 VRet h1283 (Value.agg (List.toArray [(Value.slice x1284.a x1284.len x1284.cap), (Value.int .i64 x1285), (Value.int .i64 x1286), (Value.slice x1287.a x1287.len x1287.cap), (Value.slice x1288.a x1288.len x1288.cap), (Value.slice x1289.a x1289.len x1289.cap), (Value.slice x1290.a x1290.len x1290.cap)])) post))))))) ∧
 (
 0 ≤ p0_n ∧ p0_n ≤ p0_n ∧ ((8 : Nat) : Int) * p0_n ≤ 140737488355328 ∧ p0_n ≤ 1000000000 ∧
 H.new h2 (repl (p0_n).toNat [(Value.int .i64 0)]) fun r1291 h1292 =>
 (
 0 ≤ (8 : Int) ∧ (8 : Int) ≤ (8 : Int) ∧ ((8 : Nat) : Int) * (8 : Int) ≤ 140737488355328 ∧ (8 : Int) ≤ 1000000000 ∧
 H.new h1292 (repl ((8 : Int)).toNat [(Value.int .i64 0)]) fun r1293 h1294 =>
 (
 0 ≤ p0_n ∧ p0_n ≤ p0_n ∧ ((8 : Nat) : Int) * p0_n ≤ 140737488355328 ∧ p0_n ≤ 1000000000 ∧
 H.new h1294 (repl (p0_n).toNat [(Value.int .i64 0)]) fun r1295 h1296 =>
 (
 0 ≤ p0_n ∧ p0_n ≤ p0_n ∧ ((8 : Nat) : Int) * p0_n ≤ 140737488355328 ∧ p0_n ≤ 1000000000 ∧
 H.new h1296 (repl (p0_n).toNat [(Value.int .i64 0)]) fun r1297 h1298 =>
 0 ≤ p0_n ∧ p0_n ≤ p0_n ∧ ((8 : Nat) : Int) * p0_n ≤ 140737488355328 ∧ p0_n ≤ 1000000000 ∧
 H.new h1298 (repl (p0_n).toNat [(Value.int .i64 0)]) fun r1299 h1300 =>
 ([(Value.slice (some (Addr.mk r1293 0 none)) (((8 : Int)).toNat) (((8 : Int)).toNat)), (Value.int .i64 0), (Value.int .i64 0), (Value.slice (some (Addr.mk r1295 0 none)) ((p0_n).toNat) ((p0_n).toNat)), (Value.slice (some (Addr.mk r1297 0 none)) ((p0_n).toNat) ((p0_n).toNat)), (Value.slice (some (Addr.mk r1299 0 none)) ((p0_n).toNat) ((p0_n).toNat)), (Value.slice (some (Addr.mk r1291 0 none)) ((p0_n).toNat) ((p0_n).toNat))]).length = 7 ∧ (Program.underlying Go.Proofs.Tryd.prog 49).isSome = true ∧
 H.wr h1300 (Addr.mk r1 0 none) ([(Value.slice (some (Addr.mk r1293 0 none)) (((8 : Int)).toNat) (((8 : Int)).toNat)), (Value.int .i64 0), (Value.int .i64 0), (Value.slice (some (Addr.mk r1295 0 none)) ((p0_n).toNat) ((p0_n).toNat)), (Value.slice (some (Addr.mk r1297 0 none)) ((p0_n).toNat) ((p0_n).toNat)), (Value.slice (some (Addr.mk r1299 0 none)) ((p0_n).toNat) ((p0_n).toNat)), (Value.slice (some (Addr.mk r1291 0 none)) ((p0_n).toNat) ((p0_n).toNat))]) fun h1301 =>
 ∃ x1302 : SV, H.rd h1301 (Addr.add (Addr.mk r1 0 none) 0) (Value.slice x1302.a x1302.len x1302.cap) ∧
 ∃ x1303 : Int, H.rd h1301 (Addr.add (Addr.mk r1 0 none) 1) (Value.int .i64 x1303) ∧
 ∃ x1304 : Int, H.rd h1301 (Addr.add (Addr.mk r1 0 none) 2) (Value.int .i64 x1304) ∧
 ∃ x1305 : SV, H.rd h1301 (Addr.add (Addr.mk r1 0 none) 3) (Value.slice x1305.a x1305.len x1305.cap) ∧
 ∃ x1306 : SV, H.rd h1301 (Addr.add (Addr.mk r1 0 none) 4) (Value.slice x1306.a x1306.len x1306.cap) ∧
 ∃ x1307 : SV, H.rd h1301 (Addr.add (Addr.mk r1 0 none) 5) (Value.slice x1307.a x1307.len x1307.cap) ∧
 ∃ x1308 : SV, H.rd h1301 (Addr.add (Addr.mk r1 0 none) 6) (Value.slice x1308.a x1308.len x1308.cap) ∧
 VRet h1301 (Value.agg (List.toArray [(Value.slice x1302.a x1302.len x1302.cap), (Value.int .i64 x1303), (Value.int .i64 x1304), (Value.slice x1305.a x1305.len x1305.cap), (Value.slice x1306.a x1306.len x1306.cap), (Value.slice x1307.a x1307.len x1307.cap), (Value.slice x1308.a x1308.len x1308.cap)])) post) ∧
 (
 0 ≤ p0_n ∧ p0_n ≤ p0_n ∧ ((8 : Nat) : Int) * p0_n ≤ 140737488355328 ∧ p0_n ≤ 1000000000 ∧
 H.new h1296 (repl (p0_n).toNat [(Value.int .i64 0)]) fun r1309 h1310 =>
 0 ≤ p0_n ∧ p0_n ≤ p0_n ∧ ((8 : Nat) : Int) * p0_n ≤ 140737488355328 ∧ p0_n ≤ 1000000000 ∧
 H.new h1310 (repl (p0_n).toNat [(Value.int .i64 0)]) fun r1311 h1312 =>
 ([(Value.slice (some (Addr.mk r1293 0 none)) (((8 : Int)).toNat) (((8 : Int)).toNat)), (Value.int .i64 0), (Value.int .i64 0), (Value.slice (some (Addr.mk r1295 0 none)) ((p0_n).toNat) ((p0_n).toNat)), (Value.slice (some (Addr.mk r1311 0 none)) ((p0_n).toNat) ((p0_n).toNat)), (Value.slice (some (Addr.mk r1309 0 none)) ((p0_n).toNat) ((p0_n).toNat)), (Value.slice (some (Addr.mk r1291 0 none)) ((p0_n).toNat) ((p0_n).toNat))]).length = 7 ∧ (Program.underlying Go.Proofs.Tryd.prog 49).isSome = true ∧
 H.wr h1312 (Addr.mk r1 0 none) ([(Value.slice (some (Addr.mk r1293 0 none)) (((8 : Int)).toNat) (((8 : Int)).toNat)), (Value.int .i64 0), (Value.int .i64 0), (Value.slice (some (Addr.mk r1295 0 none)) ((p0_n).toNat) ((p0_n).toNat)), (Value.slice (some (Addr.mk r1311 0 none)) ((p0_n).toNat) ((p0_n).toNat)), (Value.slice (some (Addr.mk r1309 0 none)) ((p0_n).toNat) ((p0_n).toNat)), (Value.slice (some (Addr.mk r1291 0 none)) ((p0_n).toNat) ((p0_n).toNat))]) fun h1313 =>
 ∃ x1314 : SV, H.rd h1313 (Addr.add (Addr.mk r1 0 none) 0) (Value.slice x1314.a x1314.len x1314.cap) ∧
 ∃ x1315 : Int, H.rd h1313 (Addr.add (Addr.mk r1 0 none) 1) (Value.int .i64 x1315) ∧
 ∃ x1316 : Int, H.rd h1313 (Addr.add (Addr.mk r1 0 none) 2) (Value.int .i64 x1316) ∧
 ∃ x1317 : SV, H.rd h1313 (Addr.add (Addr.mk r1 0 none) 3) (Value.slice x1317.a x1317.len x1317.cap) ∧
 ∃ x1318 : SV, H.rd h1313 (Addr.add (Addr.mk r1 0 none) 4) (Value.slice x1318.a x1318.len x1318.cap) ∧
 ∃ x1319 : SV, H.rd h1313 (Addr.add (Addr.mk r1 0 none) 5) (Value.slice x1319.a x1319.len x1319.cap) ∧
 ∃ x1320 : SV, H.rd h1313 (Addr.add (Addr.mk r1 0 none) 6) (Value.slice x1320.a x1320.len x1320.cap) ∧
 VRet h1313 (Value.agg (List.toArray [(Value.slice x1314.a x1314.len x1314.cap), (Value.int .i64 x1315), (Value.int .i64 x1316), (Value.slice x1317.a x1317.len x1317.cap), (Value.slice x1318.a x1318.len x1318.cap), (Value.slice x1319.a x1319.len x1319.cap), (Value.slice x1320.a x1320.len x1320.cap)])) post)) ∧
 (
 (
 0 ≤ p0_n ∧ p0_n ≤ p0_n ∧ ((8 : Nat) : Int) * p0_n ≤ 140737488355328 ∧ p0_n ≤ 1000000000 ∧
 H.new h1294 (repl (p0_n).toNat [(Value.int .i64 0)]) fun r1321 h1322 =>
 (
 0 ≤ p0_n ∧ p0_n ≤ p0_n ∧ ((8 : Nat) : Int) * p0_n ≤ 140737488355328 ∧ p0_n ≤ 1000000000 ∧
 H.new h1322 (repl (p0_n).toNat [(Value.int .i64 0)]) fun r1323 h1324 =>
 0 ≤ p0_n ∧ p0_n ≤ p0_n ∧ ((8 : Nat) : Int) * p0_n ≤ 140737488355328 ∧ p0_n ≤ 1000000000 ∧
 H.new h1324 (repl (p0_n).toNat [(Value.int .i64 0)]) fun r1325 h1326 =>
 ([(Value.slice (some (Addr.mk r1293 0 none)) (((8 : Int)).toNat) (((8 : Int)).toNat)), (Value.int .i64 0), (Value.int .i64 0), (Value.slice (some (Addr.mk r1323 0 none)) ((p0_n).toNat) ((p0_n).toNat)), (Value.slice (some (Addr.mk r1321 0 none)) ((p0_n).toNat) ((p0_n).toNat)), (Value.slice (some (Addr.mk r1325 0 none)) ((p0_n).toNat) ((p0_n).toNat)), (Value.slice (some (Addr.mk r1291 0 none)) ((p0_n).toNat) ((p0_n).toNat))]).length = 7 ∧ (Program.underlying Go.Proofs.Tryd.prog 49).isSome = true ∧
 H.wr h1326 (Addr.mk r1 0 none) ([(Value.slice (some (Addr.mk r1293 0 none)) (((8 : Int)).toNat) (((8 : Int)).toNat)), (Value.int .i64 0), (Value.int .i64 0), (Value.slice (some (Addr.mk r1323 0 none)) ((p0_n).toNat) ((p0_n).toNat)), (Value.slice (some (Addr.mk r1321 0 none)) ((p0_n).toNat) ((p0_n).toNat)), (Value.slice (some (Addr.mk r1325 0 none)) ((p0_n).toNat) ((p0_n).toNat)), (Value.slice (some (Addr.mk r1291 0 none)) ((p0_n).toNat) ((p0_n).toNat))]) fun h1327 =>
 ∃ x1328 : SV, H.rd h1327 (Addr.add (Addr.mk r1 0 none) 0) (Value.slice x1328.a x1328.len x1328.cap) ∧
 ∃ x1329 : Int, H.rd h1327 (Addr.add (Addr.mk r1 0 none) 1) (Value.int .i64 x1329) ∧
 ∃ x1330 : Int, H.rd h1327 (Addr.add (Addr.mk r1 0 none) 2) (Value.int .i64 x1330) ∧
 ∃ x1331 : SV, H.rd h1327 (Addr.add (Addr.mk r1 0 none) 3) (Value.slice x1331.a x1331.len x1331.cap) ∧
 ∃ x1332 : SV, H.rd h1327 (Addr.add (Addr.mk r1 0 none) 4) (Value.slice x1332.a x1332.len x1332.cap) ∧
 ∃ x1333 : SV, H.rd h1327 (Addr.add (Addr.mk r1 0 none) 5) (Value.slice x1333.a x1333.len x1333.cap) ∧
 ∃ x1334 : SV, H.rd h1327 (Addr.add (Addr.mk r1 0 none) 6) (Value.slice x1334.a x1334.len x1334.cap) ∧
 VRet h1327 (Value.agg (List.toArray [(Value.slice x1328.a x1328.len x1328.cap), (Value.int .i64 x1329), (Value.int .i64 x1330), (Value.slice x1331.a x1331.len x1331.cap), (Value.slice x1332.a x1332.len x1332.cap), (Value.slice x1333.a x1333.len x1333.cap), (Value.slice x1334.a x1334.len x1334.cap)])) post) ∧
 (
 0 ≤ p0_n ∧ p0_n ≤ p0_n ∧ ((8 : Nat) : Int) * p0_n ≤ 140737488355328 ∧ p0_n ≤ 1000000000 ∧
 H.new h1322 (repl (p0_n).toNat [(Value.int .i64 0)]) fun r1335 h1336 =>
 0 ≤ p0_n ∧ p0_n ≤ p0_n ∧ ((8 : Nat) : Int) * p0_n ≤ 140737488355328 ∧ p0_n ≤ 1000000000 ∧
 H.new h1336 (repl (p0_n).toNat [(Value.int .i64 0)]) fun r1337 h1338 =>
 ([(Value.slice (some (Addr.mk r1293 0 none)) (((8 : Int)).toNat) (((8 : Int)).toNat)), (Value.int .i64 0), (Value.int .i64 0), (Value.slice (some (Addr.mk r1337 0 none)) ((p0_n).toNat) ((p0_n).toNat)), (Value.slice (some (Addr.mk r1321 0 none)) ((p0_n).toNat) ((p0_n).toNat)), (Value.slice (some (Addr.mk r1335 0 none)) ((p0_n).toNat) ((p0_n).toNat)), (Value.slice (some (Addr.mk r1291 0 none)) ((p0_n).toNat) ((p0_n).toNat))]).length = 7 ∧ (Program.underlying Go.Proofs.Tryd.prog 49).isSome = true ∧
 H.wr h1338 (Addr.mk r1 0 none) ([(Value.slice (some (Addr.mk r1293 0 none)) (((8 : Int)).toNat) (((8 : Int)).toNat)), (Value.int .i64 0), (Value.int .i64 0), (Value.slice (some (Addr.mk r1337 0 none)) ((p0_n).toNat) ((p0_n).toNat)), (Value.slice (some (Addr.mk r1321 0 none)) ((p0_n).toNat) ((p0_n).toNat)), (Value.slice (some (Addr.mk r1335 0 none)) ((p0_n).toNat) ((p0_n).toNat)), (Value.slice (some (Addr.mk r1291 0 none)) ((p0_n).toNat) ((p0_n).toNat))]) fun h1339 =>
 ∃ x1340 : SV, H.rd h1339 (Addr.add (Addr.mk r1 0 none) 0) (Value.slice x1340.a x1340.len x1340.cap) ∧
 ∃ x1341 : Int, H.rd h1339 (Addr.add (Addr.mk r1 0 none) 1) (Value.int .i64 x1341) ∧
 ∃ x1342 : Int, H.rd h1339 (Addr.add (Addr.mk r1 0 none) 2) (Value.int .i64 x1342) ∧
 ∃ x1343 : SV, H.rd h1339 (Addr.add (Addr.mk r1 0 none) 3) (Value.slice x1343.a x1343.len x1343.cap) ∧
 ∃ x1344 : SV, H.rd h1339 (Addr.add (Addr.mk r1 0 none) 4) (Value.slice x1344.a x1344.len x1344.cap) ∧
 ∃ x1345 : SV, H.rd h1339 (Addr.add (Addr.mk r1 0 none) 5) (Value.slice x1345.a x1345.len x1345.cap) ∧
 ∃ x1346 : SV, H.rd h1339 (Addr.add (Addr.mk r1 0 none) 6) (Value.slice x1346.a x1346.len x1346.cap) ∧
 VRet h1339 (Value.agg (List.toArray [(Value.slice x1340.a x1340.len x1340.cap), (Value.int .i64 x1341), (Value.int .i64 x1342), (Value.slice x1343.a x1343.len x1343.cap), (Value.slice x1344.a x1344.len x1344.cap), (Value.slice x1345.a x1345.len x1345.cap), (Value.slice x1346.a x1346.len x1346.cap)])) post)) ∧
 (
 0 ≤ p0_n ∧ p0_n ≤ p0_n ∧ ((8 : Nat) : Int) * p0_n ≤ 140737488355328 ∧ p0_n ≤ 1000000000 ∧
 H.new h1294 (repl (p0_n).toNat [(Value.int .i64 0)]) fun r1347 h1348 =>
 (
 0 ≤ p0_n ∧ p0_n ≤ p0_n ∧ ((8 : Nat) : Int) * p0_n ≤ 140737488355328 ∧ p0_n ≤ 1000000000 ∧
 H.new h1348 (repl (p0_n).toNat [(Value.int .i64 0)]) fun r1349 h1350 =>
 0 ≤ p0_n ∧ p0_n ≤ p0_n ∧ ((8 : Nat) : Int) * p0_n ≤ 140737488355328 ∧ p0_n ≤ 1000000000 ∧
 H.new h1350 (repl (p0_n).toNat [(Value.int .i64 0)]) fun r1351 h1352 =>
 ([(Value.slice (some (Addr.mk r1293 0 none)) (((8 : Int)).toNat) (((8 : Int)).toNat)), (Value.int .i64 0), (Value.int .i64 0), (Value.slice (some (Addr.mk r1349 0 none)) ((p0_n).toNat) ((p0_n).toNat)), (Value.slice (some (Addr.mk r1351 0 none)) ((p0_n).toNat) ((p0_n).toNat)), (Value.slice (some (Addr.mk r1347 0 none)) ((p0_n).toNat) ((p0_n).toNat)), (Value.slice (some (Addr.mk r1291 0 none)) ((p0_n).toNat) ((p0_n).toNat))]).length = 7 ∧ (Program.underlying Go.Proofs.Tryd.prog 49).isSome = true ∧
 H.wr h1352 (Addr.mk r1 0 none) ([(Value.slice (some (Addr.mk r1293 0 none)) (((8 : Int)).toNat) (((8 : Int)).toNat)), (Value.int .i64 0), (Value.int .i64 0), (Value.slice (some (Addr.mk r1349 0 none)) ((p0_n).toNat) ((p0_n).toNat)), (Value.slice (some (Addr.mk r1351 0 none)) ((p0_n).toNat) ((p0_n).toNat)), (Value.slice (some (Addr.mk r1347 0 none)) ((p0_n).toNat) ((p0_n).toNat)), (Value.slice (some (Addr.mk r1291 0 none)) ((p0_n).toNat) ((p0_n).toNat))]) fun h1353 =>
 ∃ x1354 : SV, H.rd h1353 (Addr.add (Addr.mk r1 0 none) 0) (Value.slice x1354.a x1354.len x1354.cap) ∧
 ∃ x1355 : Int, H.rd h1353 (Addr.add (Addr.mk r1 0 none) 1) (Value.int .i64 x1355) ∧
 ∃ x1356 : Int, H.rd h1353 (Addr.add (Addr.mk r1 0 none) 2) (Value.int .i64 x1356) ∧
 ∃ x1357 : SV, H.rd h1353 (Addr.add (Addr.mk r1 0 none) 3) (Value.slice x1357.a x1357.len x1357.cap) ∧
 ∃ x1358 : SV, H.rd h1353 (Addr.add (Addr.mk r1 0 none) 4) (Value.slice x1358.a x1358.len x1358.cap) ∧
 ∃ x1359 : SV, H.rd h1353 (Addr.add (Addr.mk r1 0 none) 5) (Value.slice x1359.a x1359.len x1359.cap) ∧
 ∃ x1360 : SV, H.rd h1353 (Addr.add (Addr.mk r1 0 none) 6) (Value.slice x1360.a x1360.len x1360.cap) ∧
 VRet h1353 (Value.agg (List.toArray [(Value.slice x1354.a x1354.len x1354.cap), (Value.int .i64 x1355), (Value.int .i64 x1356), (Value.slice x1357.a x1357.len x1357.cap), (Value.slice x1358.a x1358.len x1358.cap), (Value.slice x1359.a x1359.len x1359.cap), (Value.slice x1360.a x1360.len x1360.cap)])) post) ∧
 (
 0 ≤ p0_n ∧ p0_n ≤ p0_n ∧ ((8 : Nat) : Int) * p0_n ≤ 140737488355328 ∧ p0_n ≤ 1000000000 ∧
 H.new h1348 (repl (p0_n).toNat [(Value.int .i64 0)]) fun r1361 h1362 =>
 0 ≤ p0_n ∧ p0_n ≤ p0_n ∧ ((8 : Nat) : Int) * p0_n ≤ 140737488355328 ∧ p0_n ≤ 1000000000 ∧
 H.new h1362 (repl (p0_n).toNat [(Value.int .i64 0)]) fun r1363 h1364 =>
 ([(Value.slice (some (Addr.mk r1293 0 none)) (((8 : Int)).toNat) (((8 : Int)).toNat)), (Value.int .i64 0), (Value.int .i64 0), (Value.slice (some (Addr.mk r1363 0 none)) ((p0_n).toNat) ((p0_n).toNat)), (Value.slice (some (Addr.mk r1361 0 none)) ((p0_n).toNat) ((p0_n).toNat)), (Value.slice (some (Addr.mk r1347 0 none)) ((p0_n).toNat) ((p0_n).toNat)), (Value.slice (some (Addr.mk r1291 0 none)) ((p0_n).toNat) ((p0_n).toNat))]).length = 7 ∧ (Program.underlying Go.Proofs.Tryd.prog 49).isSome = true ∧
 H.wr h1364 (Addr.mk r1 0 none) ([(Value.slice (some (Addr.mk r1293 0 none)) (((8 : Int)).toNat) (((8 : Int)).toNat)), (Value.int .i64 0), (Value.int .i64 0), (Value.slice (some (Addr.mk r1363 0 none)) ((p0_n).toNat) ((p0_n).toNat)), (Value.slice (some (Addr.mk r1361 0 none)) ((p0_n).toNat) ((p0_n).toNat)), (Value.slice (some (Addr.mk r1347 0 none)) ((p0_n).toNat) ((p0_n).toNat)), (Value.slice (some (Addr.mk r1291 0 none)) ((p0_n).toNat) ((p0_n).toNat))]) fun h1365 =>
 ∃ x1366 : SV, H.rd h1365 (Addr.add (Addr.mk r1 0 none) 0) (Value.slice x1366.a x1366.len x1366.cap) ∧
 ∃ x1367 : Int, H.rd h1365 (Addr.add (Addr.mk r1 0 none) 1) (Value.int .i64 x1367) ∧
 ∃ x1368 : Int, H.rd h1365 (Addr.add (Addr.mk r1 0 none) 2) (Value.int .i64 x1368) ∧
 ∃ x1369 : SV, H.rd h1365 (Addr.add (Addr.mk r1 0 none) 3) (Value.slice x1369.a x1369.len x1369.cap) ∧
 ∃ x1370 : SV, H.rd h1365 (Addr.add (Addr.mk r1 0 none) 4) (Value.slice x1370.a x1370.len x1370.cap) ∧
 ∃ x1371 : SV, H.rd h1365 (Addr.add (Addr.mk r1 0 none) 5) (Value.slice x1371.a x1371.len x1371.cap) ∧
 ∃ x1372 : SV, H.rd h1365 (Addr.add (Addr.mk r1 0 none) 6) (Value.slice x1372.a x1372.len x1372.cap) ∧
 VRet h1365 (Value.agg (List.toArray [(Value.slice x1366.a x1366.len x1366.cap), (Value.int .i64 x1367), (Value.int .i64 x1368), (Value.slice x1369.a x1369.len x1369.cap), (Value.slice x1370.a x1370.len x1370.cap), (Value.slice x1371.a x1371.len x1371.cap), (Value.slice x1372.a x1372.len x1372.cap)])) post)))) ∧
 (
 (
 0 ≤ p0_n ∧ p0_n ≤ p0_n ∧ ((8 : Nat) : Int) * p0_n ≤ 140737488355328 ∧ p0_n ≤ 1000000000 ∧
 H.new h1292 (repl (p0_n).toNat [(Value.int .i64 0)]) fun r1373 h1374 =>
 (
 0 ≤ (8 : Int) ∧ (8 : Int) ≤ (8 : Int) ∧ ((8 : Nat) : Int) * (8 : Int) ≤ 140737488355328 ∧ (8 : Int) ≤ 1000000000 ∧
 H.new h1374 (repl ((8 : Int)).toNat [(Value.int .i64 0)]) fun r1375 h1376 =>
 (
 0 ≤ p0_n ∧ p0_n ≤ p0_n ∧ ((8 : Nat) : Int) * p0_n ≤ 140737488355328 ∧ p0_n ≤ 1000000000 ∧
 H.new h1376 (repl (p0_n).toNat [(Value.int .i64 0)]) fun r1377 h1378 =>
 0 ≤ p0_n ∧ p0_n ≤ p0_n ∧ ((8 : Nat) : Int) * p0_n ≤ 140737488355328 ∧ p0_n ≤ 1000000000 ∧
 H.new h1378 (repl (p0_n).toNat [(Value.int .i64 0)]) fun r1379 h1380 =>
 ([(Value.slice (some (Addr.mk r1375 0 none)) (((8 : Int)).toNat) (((8 : Int)).toNat)), (Value.int .i64 0), (Value.int .i64 0), (Value.slice (some (Addr.mk r1373 0 none)) ((p0_n).toNat) ((p0_n).toNat)), (Value.slice (some (Addr.mk r1377 0 none)) ((p0_n).toNat) ((p0_n).toNat)), (Value.slice (some (Addr.mk r1379 0 none)) ((p0_n).toNat) ((p0_n).toNat)), (Value.slice (some (Addr.mk r1291 0 none)) ((p0_n).toNat) ((p0_n).toNat))]).length = 7 ∧ (Program.underlying Go.Proofs.Tryd.prog 49).isSome = true ∧
 H.wr h1380 (Addr.mk r1 0 none) ([(Value.slice (some (Addr.mk r1375 0 none)) (((8 : Int)).toNat) (((8 : Int)).toNat)), (Value.int .i64 0), (Value.int .i64 0), (Value.slice (some (Addr.mk r1373 0 none)) ((p0_n).toNat) ((p0_n).toNat)), (Value.slice (some (Addr.mk r1377 0 none)) ((p0_n).toNat) ((p0_n).toNat)), (Value.slice (some (Addr.mk r1379 0 none)) ((p0_n).toNat) ((p0_n).toNat)), (Value.slice (some (Addr.mk r1291 0 none)) ((p0_n).toNat) ((p0_n).toNat))]) fun h1381 =>
 ∃ x1382 : SV, H.rd h1381 (Addr.add (Addr.mk r1 0 none) 0) (Value.slice x1382.a x1382.len x1382.cap) ∧
 ∃ x1383 : Int, H.rd h1381 (Addr.add (Addr.mk r1 0 none) 1) (Value.int .i64 x1383) ∧
 ∃ x1384 : Int, H.rd h1381 (Addr.add (Addr.mk r1 0 none) 2) (Value.int .i64 x1384) ∧
 ∃ x1385 : SV, H.rd h1381 (Addr.add (Addr.mk r1 0 none) 3) (Value.slice x1385.a x1385.len x1385.cap) ∧
 ∃ x1386 : SV, H.rd h1381 (Addr.add (Addr.mk r1 0 none) 4) (Value.slice x1386.a x1386.len x1386.cap) ∧
 ∃ x1387 : SV, H.rd h1381 (Addr.add (Addr.mk r1 0 none) 5) (Value.slice x1387.a x1387.len x1387.cap) ∧
 ∃ x1388 : SV, H.rd h1381 (Addr.add (Addr.mk r1 0 none) 6) (Value.slice x1388.a x1388.len x1388.cap) ∧
 VRet h1381 (Value.agg (List.toArray [(Value.slice x1382.a x1382.len x1382.cap), (Value.int .i64 x1383), (Value.int .i64 x1384), (Value.slice x1385.a x1385.len x1385.cap), (Value.slice x1386.a x1386.len x1386.cap), (Value.slice x1387.a x1387.len x1387.cap), (Value.slice x1388.a x1388.len x1388.cap)])) post) ∧
 (
 0 ≤ p0_n ∧ p0_n ≤ p0_n ∧ ((8 : Nat) : Int) * p0_n ≤ 140737488355328 ∧ p0_n ≤ 1000000000 ∧
 H.new h1376 (repl (p0_n).toNat [(Value.int .i64 0)]) fun r1389 h1390 =>
 0 ≤ p0_n ∧ p0_n ≤ p0_n ∧ ((8 : Nat) : Int) * p0_n ≤ 140737488355328 ∧ p0_n ≤ 1000000000 ∧
 H.new h1390 (repl (p0_n).toNat [(Value.int .i64 0)]) fun r1391 h1392 =>
 ([(Value.slice (some (Addr.mk r1375 0 none)) (((8 : Int)).toNat) (((8 : Int)).toNat)), (Value.int .i64 0), (Value.int .i64 0), (Value.slice (some (Addr.mk r1373 0 none)) ((p0_n).toNat) ((p0_n).toNat)), (Value.slice (some (Addr.mk r1391 0 none)) ((p0_n).toNat) ((p0_n).toNat)), (Value.slice (some (Addr.mk r1389 0 none)) ((p0_n).toNat) ((p0_n).toNat)), (Value.slice (some (Addr.mk r1291 0 none)) ((p0_n).toNat) ((p0_n).toNat))]).length = 7 ∧ (Program.underlying Go.Proofs.Tryd.prog 49).isSome = true ∧
 H.wr h1392 (Addr.mk r1 0 none) ([(Value.slice (some (Addr.mk r1375 0 none)) (((8 : Int)).toNat) (((8 : Int)).toNat)), (Value.int .i64 0), (Value.int .i64 0), (Value.slice (some (Addr.mk r1373 0 none)) ((p0_n).toNat) ((p0_n).toNat)), (Value.slice (some (Addr.mk r1391 0 none)) ((p0_n).toNat) ((p0_n).toNat)), (Value.slice (some (Addr.mk r1389 0 none)) ((p0_n).toNat) ((p0_n).toNat)), (Value.slice (some (Addr.mk r1291 0 none)) ((p0_n).toNat) ((p0_n).toNat))]) fun h1393 =>
 ∃ x1394 : SV, H.rd h1393 (Addr.add (Addr.mk r1 0 none) 0) (Value.slice x1394.a x1394.len x1394.cap) ∧
 ∃ x1395 : Int, H.rd h1393 (Addr.add (Addr.mk r1 0 none) 1) (Value.int .i64 x1395) ∧
 ∃ x1396 : Int, H.rd h1393 (Addr.add (Addr.mk r1 0 none) 2) (Value.int .i64 x1396) ∧
 ∃ x1397 : SV, H.rd h1393 (Addr.add (Addr.mk r1 0 none) 3) (Value.slice x1397.a x1397.len x1397.cap) ∧
 ∃ x1398 : SV, H.rd h1393 (Addr.add (Addr.mk r1 0 none) 4) (Value.slice x1398.a x1398.len x1398.cap) ∧
 ∃ x1399 : SV, H.rd h1393 (Addr.add (Addr.mk r1 0 none) 5) (Value.slice x1399.a x1399.len x1399.cap) ∧
 ∃ x1400 : SV, H.rd h1393 (Addr.add (Addr.mk r1 0 none) 6) (Value.slice x1400.a x1400.len x1400.cap) ∧
 VRet h1393 (Value.agg (List.toArray [(Value.slice x1394.a x1394.len x1394.cap), (Value.int .i64 x1395), (Value.int .i64 x1396), (Value.slice x1397.a x1397.len x1397.cap), (Value.slice x1398.a x1398.len x1398.cap), (Value.slice x1399.a x1399.len x1399.cap), (Value.slice x1400.a x1400.len x1400.cap)])) post)) ∧
 (
 (
 0 ≤ p0_n ∧ p0_n ≤ p0_n ∧ ((8 : Nat) : Int) * p0_n ≤ 140737488355328 ∧ p0_n ≤ 1000000000 ∧
 H.new h1374 (repl (p0_n).toNat [(Value.int .i64 0)]) fun r1401 h1402 =>
 (
 0 ≤ (8 : Int) ∧ (8 : Int) ≤ (8 : Int) ∧ ((8 : Nat) : Int) * (8 : Int) ≤ 140737488355328 ∧ (8 : Int) ≤ 1000000000 ∧
 H.new h1402 (repl ((8 : Int)).toNat [(Value.int .i64 0)]) fun r1403 h1404 =>
 0 ≤ p0_n ∧ p0_n ≤ p0_n ∧ ((8 : Nat) : Int) * p0_n ≤ 140737488355328 ∧ p0_n ≤ 1000000000 ∧
 H.new h1404 (repl (p0_n).toNat [(Value.int .i64 0)]) fun r1405 h1406 =>
 ([(Value.slice (some (Addr.mk r1403 0 none)) (((8 : Int)).toNat) (((8 : Int)).toNat)), (Value.int .i64 0), (Value.int .i64 0), (Value.slice (some (Addr.mk r1373 0 none)) ((p0_n).toNat) ((p0_n).toNat)), (Value.slice (some (Addr.mk r1401 0 none)) ((p0_n).toNat) ((p0_n).toNat)), (Value.slice (some (Addr.mk r1405 0 none)) ((p0_n).toNat) ((p0_n).toNat)), (Value.slice (some (Addr.mk r1291 0 none)) ((p0_n).toNat) ((p0_n).toNat))]).length = 7 ∧ (Program.underlying Go.Proofs.Tryd.prog 49).isSome = true ∧
 H.wr h1406 (Addr.mk r1 0 none) ([(Value.slice (some (Addr.mk r1403 0 none)) (((8 : Int)).toNat) (((8 : Int)).toNat)), (Value.int .i64 0), (Value.int .i64 0), (Value.slice (some (Addr.mk r1373 0 none)) ((p0_n).toNat) ((p0_n).toNat)), (Value.slice (some (Addr.mk r1401 0 none)) ((p0_n).toNat) ((p0_n).toNat)), (Value.slice (some (Addr.mk r1405 0 none)) ((p0_n).toNat) ((p0_n).toNat)), (Value.slice (some (Addr.mk r1291 0 none)) ((p0_n).toNat) ((p0_n).toNat))]) fun h1407 =>
 ∃ x1408 : SV, H.rd h1407 (Addr.add (Addr.mk r1 0 none) 0) (Value.slice x1408.a x1408.len x1408.cap) ∧
 ∃ x1409 : Int, H.rd h1407 (Addr.add (Addr.mk r1 0 none) 1) (Value.int .i64 x1409) ∧
 ∃ x1410 : Int, H.rd h1407 (Addr.add (Addr.mk r1 0 none) 2) (Value.int .i64 x1410) ∧
 ∃ x1411 : SV, H.rd h1407 (Addr.add (Addr.mk r1 0 none) 3) (Value.slice x1411.a x1411.len x1411.cap) ∧
 ∃ x1412 : SV, H.rd h1407 (Addr.add (Addr.mk r1 0 none) 4) (Value.slice x1412.a x1412.len x1412.cap) ∧
 ∃ x1413 : SV, H.rd h1407 (Addr.add (Addr.mk r1 0 none) 5) (Value.slice x1413.a x1413.len x1413.cap) ∧
 ∃ x1414 : SV, H.rd h1407 (Addr.add (Addr.mk r1 0 none) 6) (Value.slice x1414.a x1414.len x1414.cap) ∧
 VRet h1407 (Value.agg (List.toArray [(Value.slice x1408.a x1408.len x1408.cap), (Value.int .i64 x1409), (Value.int .i64 x1410), (Value.slice x1411.a x1411.len x1411.cap), (Value.slice x1412.a x1412.len x1412.cap), (Value.slice x1413.a x1413.len x1413.cap), (Value.slice x1414.a x1414.len x1414.cap)])) post) ∧
 (
 0 ≤ p0_n ∧ p0_n ≤ p0_n ∧ ((8 : Nat) : Int) * p0_n ≤ 140737488355328 ∧ p0_n ≤ 1000000000 ∧
 H.new h1402 (repl (p0_n).toNat [(Value.int .i64 0)]) fun r1415 h1416 =>
 0 ≤ (8 : Int) ∧ (8 : Int) ≤ (8 : Int) ∧ ((8 : Nat) : Int) * (8 : Int) ≤ 140737488355328 ∧ (8 : Int) ≤ 1000000000 ∧
 H.new h1416 (repl ((8 : Int)).toNat [(Value.int .i64 0)]) fun r1417 h1418 =>
 ([(Value.slice (some (Addr.mk r1417 0 none)) (((8 : Int)).toNat) (((8 : Int)).toNat)), (Value.int .i64 0), (Value.int .i64 0), (Value.slice (some (Addr.mk r1373 0 none)) ((p0_n).toNat) ((p0_n).toNat)), (Value.slice (some (Addr.mk r1401 0 none)) ((p0_n).toNat) ((p0_n).toNat)), (Value.slice (some (Addr.mk r1415 0 none)) ((p0_n).toNat) ((p0_n).toNat)), (Value.slice (some (Addr.mk r1291 0 none)) ((p0_n).toNat) ((p0_n).toNat))]).length = 7 ∧ (Program.underlying Go.Proofs.Tryd.prog 49).isSome = true ∧
 H.wr h1418 (Addr.mk r1 0 none) ([(Value.slice (some (Addr.mk r1417 0 none)) (((8 : Int)).toNat) (((8 : Int)).toNat)), (Value.int .i64 0), (Value.int .i64 0), (Value.slice (some (Addr.mk r1373 0 none)) ((p0_n).toNat) ((p0_n).toNat)), (Value.slice (some (Addr.mk r1401 0 none)) ((p0_n).toNat) ((p0_n).toNat)), (Value.slice (some (Addr.mk r1415 0 none)) ((p0_n).toNat) ((p0_n).toNat)), (Value.slice (some (Addr.mk r1291 0 none)) ((p0_n).toNat) ((p0_n).toNat))]) fun h1419 =>
 ∃ x1420 : SV, H.rd h1419 (Addr.add (Addr.mk r1 0 none) 0) (Value.slice x1420.a x1420.len x1420.cap) ∧
 ∃ x1421 : Int, H.rd h1419 (Addr.add (Addr.mk r1 0 none) 1) (Value.int .i64 x1421) ∧
 ∃ x1422 : Int, H.rd h1419 (Addr.add (Addr.mk r1 0 none) 2) (Value.int .i64 x1422) ∧
 ∃ x1423 : SV, H.rd h1419 (Addr.add (Addr.mk r1 0 none) 3) (Value.slice x1423.a x1423.len x1423.cap) ∧
 ∃ x1424 : SV, H.rd h1419 (Addr.add (Addr.mk r1 0 none) 4) (Value.slice x1424.a x1424.len x1424.cap) ∧
 ∃ x1425 : SV, H.rd h1419 (Addr.add (Addr.mk r1 0 none) 5) (Value.slice x1425.a x1425.len x1425.cap) ∧
 ∃ x1426 : SV, H.rd h1419 (Addr.add (Addr.mk r1 0 none) 6) (Value.slice x1426.a x1426.len x1426.cap) ∧
 VRet h1419 (Value.agg (List.toArray [(Value.slice x1420.a x1420.len x1420.cap), (Value.int .i64 x1421), (Value.int .i64 x1422), (Value.slice x1423.a x1423.len x1423.cap), (Value.slice x1424.a x1424.len x1424.cap), (Value.slice x1425.a x1425.len x1425.cap), (Value.slice x1426.a x1426.len x1426.cap)])) post)) ∧
 (
 0 ≤ p0_n ∧ p0_n ≤ p0_n ∧ ((8 : Nat) : Int) * p0_n ≤ 140737488355328 ∧ p0_n ≤ 1000000000 ∧
 H.new h1374 (repl (p0_n).toNat [(Value.int .i64 0)]) fun r1427 h1428 =>
 (
 0 ≤ (8 : Int) ∧ (8 : Int) ≤ (8 : Int) ∧ ((8 : Nat) : Int) * (8 : Int) ≤ 140737488355328 ∧ (8 : Int) ≤ 1000000000 ∧
 H.new h1428 (repl ((8 : Int)).toNat [(Value.int .i64 0)]) fun r1429 h1430 =>
 0 ≤ p0_n ∧ p0_n ≤ p0_n ∧ ((8 : Nat) : Int) * p0_n ≤ 140737488355328 ∧ p0_n ≤ 1000000000 ∧
 H.new h1430 (repl (p0_n).toNat [(Value.int .i64 0)]) fun r1431 h1432 =>
 ([(Value.slice (some (Addr.mk r1429 0 none)) (((8 : Int)).toNat) (((8 : Int)).toNat)), (Value.int .i64 0), (Value.int .i64 0), (Value.slice (some (Addr.mk r1373 0 none)) ((p0_n).toNat) ((p0_n).toNat)), (Value.slice (some (Addr.mk r1431 0 none)) ((p0_n).toNat) ((p0_n).toNat)), (Value.slice (some (Addr.mk r1427 0 none)) ((p0_n).toNat) ((p0_n).toNat)), (Value.slice (some (Addr.mk r1291 0 none)) ((p0_n).toNat) ((p0_n).toNat))]).length = 7 ∧ (Program.underlying Go.Proofs.Tryd.prog 49).isSome = true ∧
 H.wr h1432 (Addr.mk r1 0 none) ([(Value.slice (some (Addr.mk r1429 0 none)) (((8 : Int)).toNat) (((8 : Int)).toNat)), (Value.int .i64 0), (Value.int .i64 0), (Value.slice (some (Addr.mk r1373 0 none)) ((p0_n).toNat) ((p0_n).toNat)), (Value.slice (some (Addr.mk r1431 0 none)) ((p0_n).toNat) ((p0_n).toNat)), (Value.slice (some (Addr.mk r1427 0 none)) ((p0_n).toNat) ((p0_n).toNat)), (Value.slice (some (Addr.mk r1291 0 none)) ((p0_n).toNat) ((p0_n).toNat))]) fun h1433 =>
 ∃ x1434 : SV, H.rd h1433 (Addr.add (Addr.mk r1 0 none) 0) (Value.slice x1434.a x1434.len x1434.cap) ∧
 ∃ x1435 : Int, H.rd h1433 (Addr.add (Addr.mk r1 0 none) 1) (Value.int .i64 x1435) ∧
 ∃ x1436 : Int, H.rd h1433 (Addr.add (Addr.mk r1 0 none) 2) (Value.int .i64 x1436) ∧
 ∃ x1437 : SV, H.rd h1433 (Addr.add (Addr.mk r1 0 none) 3) (Value.slice x1437.a x1437.len x1437.cap) ∧
 ∃ x1438 : SV, H.rd h1433 (Addr.add (Addr.mk r1 0 none) 4) (Value.slice x1438.a x1438.len x1438.cap) ∧
 ∃ x1439 : SV, H.rd h1433 (Addr.add (Addr.mk r1 0 none) 5) (Value.slice x1439.a x1439.len x1439.cap) ∧
 ∃ x1440 : SV, H.rd h1433 (Addr.add (Addr.mk r1 0 none) 6) (Value.slice x1440.a x1440.len x1440.cap) ∧
 VRet h1433 (Value.agg (List.toArray [(Value.slice x1434.a x1434.len x1434.cap), (Value.int .i64 x1435), (Value.int .i64 x1436), (Value.slice x1437.a x1437.len x1437.cap), (Value.slice x1438.a x1438.len x1438.cap), (Value.slice x1439.a x1439.len x1439.cap), (Value.slice x1440.a x1440.len x1440.cap)])) post) ∧
 (
 0 ≤ p0_n ∧ p0_n ≤ p0_n ∧ ((8 : Nat) : Int) * p0_n ≤ 140737488355328 ∧ p0_n ≤ 1000000000 ∧
 H.new h1428 (repl (p0_n).toNat [(Value.int .i64 0)]) fun r1441 h1442 =>
 0 ≤ (8 : Int) ∧ (8 : Int) ≤ (8 : Int) ∧ ((8 : Nat) : Int) * (8 : Int) ≤ 140737488355328 ∧ (8 : Int) ≤ 1000000000 ∧
 H.new h1442 (repl ((8 : Int)).toNat [(Value.int .i64 0)]) fun r1443 h1444 =>
 ([(Value.slice (some (Addr.mk r1443 0 none)) (((8 : Int)).toNat) (((8 : Int)).toNat)), (Value.int .i64 0), (Value.int .i64 0), (Value.slice (some (Addr.mk r1373 0 none)) ((p0_n).toNat) ((p0_n).toNat)), (Value.slice (some (Addr.mk r1441 0 none)) ((p0_n).toNat) ((p0_n).toNat)), (Value.slice (some (Addr.mk r1427 0 none)) ((p0_n).toNat) ((p0_n).toNat)), (Value.slice (some (Addr.mk r1291 0 none)) ((p0_n).toNat) ((p0_n).toNat))]).length = 7 ∧ (Program.underlying Go.Proofs.Tryd.prog 49).isSome = true ∧
 H.wr h1444 (Addr.mk r1 0 none) ([(Value.slice (some (Addr.mk r1443 0 none)) (((8 : Int)).toNat) (((8 : Int)).toNat)), (Value.int .i64 0), (Value.int .i64 0), (Value.slice (some (Addr.mk r1373 0 none)) ((p0_n).toNat) ((p0_n).toNat)), (Value.slice (some (Addr.mk r1441 0 none)) ((p0_n).toNat) ((p0_n).toNat)), (Value.slice (some (Addr.mk r1427 0 none)) ((p0_n).toNat) ((p0_n).toNat)), (Value.slice (some (Addr.mk r1291 0 none)) ((p0_n).toNat) ((p0_n).toNat))]) fun h1445 =>
 ∃ x1446 : SV, H.rd h1445 (Addr.add (Addr.mk r1 0 none) 0) (Value.slice x1446.a x1446.len x1446.cap) ∧
 ∃ x1447 : Int, H.rd h1445 (Addr.add (Addr.mk r1 0 none) 1) (Value.int .i64 x1447) ∧
 ∃ x1448 : Int, H.rd h1445 (Addr.add (Addr.mk r1 0 none) 2) (Value.int .i64 x1448) ∧
 ∃ x1449 : SV, H.rd h1445 (Addr.add (Addr.mk r1 0 none) 3) (Value.slice x1449.a x1449.len x1449.cap) ∧
 ∃ x1450 : SV, H.rd h1445 (Addr.add (Addr.mk r1 0 none) 4) (Value.slice x1450.a x1450.len x1450.cap) ∧
 ∃ x1451 : SV, H.rd h1445 (Addr.add (Addr.mk r1 0 none) 5) (Value.slice x1451.a x1451.len x1451.cap) ∧
 ∃ x1452 : SV, H.rd h1445 (Addr.add (Addr.mk r1 0 none) 6) (Value.slice x1452.a x1452.len x1452.cap) ∧
 VRet h1445 (Value.agg (List.toArray [(Value.slice x1446.a x1446.len x1446.cap), (Value.int .i64 x1447), (Value.int .i64 x1448), (Value.slice x1449.a x1449.len x1449.cap), (Value.slice x1450.a x1450.len x1450.cap), (Value.slice x1451.a x1451.len x1451.cap), (Value.slice x1452.a x1452.len x1452.cap)])) post)))) ∧
 (
 (
 0 ≤ p0_n ∧ p0_n ≤ p0_n ∧ ((8 : Nat) : Int) * p0_n ≤ 140737488355328 ∧ p0_n ≤ 1000000000 ∧
 H.new h1292 (repl (p0_n).toNat [(Value.int .i64 0)]) fun r1453 h1454 =>
 (
 0 ≤ (8 : Int) ∧ (8 : Int) ≤ (8 : Int) ∧ ((8 : Nat) : Int) * (8 : Int) ≤ 140737488355328 ∧ (8 : Int) ≤ 1000000000 ∧
 H.new h1454 (repl ((8 : Int)).toNat [(Value.int .i64 0)]) fun r1455 h1456 =>
 (
 0 ≤ p0_n ∧ p0_n ≤ p0_n ∧ ((8 : Nat) : Int) * p0_n ≤ 140737488355328 ∧ p0_n ≤ 1000000000 ∧
 H.new h1456 (repl (p0_n).toNat [(Value.int .i64 0)]) fun r1457 h1458 =>
 0 ≤ p0_n ∧ p0_n ≤ p0_n ∧ ((8 : Nat) : Int) * p0_n ≤ 140737488355328 ∧ p0_n ≤ 1000000000 ∧
 H.new h1458 (repl (p0_n).toNat [(Value.int .i64 0)]) fun r1459 h1460 =>
 ([(Value.slice (some (Addr.mk r1455 0 none)) (((8 : Int)).toNat) (((8 : Int)).toNat)), (Value.int .i64 0), (Value.int .i64 0), (Value.slice (some (Addr.mk r1457 0 none)) ((p0_n).toNat) ((p0_n).toNat)), (Value.slice (some (Addr.mk r1453 0 none)) ((p0_n).toNat) ((p0_n).toNat)), (Value.slice (some (Addr.mk r1459 0 none)) ((p0_n).toNat) ((p0_n).toNat)), (Value.slice (some (Addr.mk r1291 0 none)) ((p0_n).toNat) ((p0_n).toNat))]).length = 7 ∧ (Program.underlying Go.Proofs.Tryd.prog 49).isSome = true ∧
 H.wr h1460 (Addr.mk r1 0 none) ([(Value.slice (some (Addr.mk r1455 0 none)) (((8 : Int)).toNat) (((8 : Int)).toNat)), (Value.int .i64 0), (Value.int .i64 0), (Value.slice (some (Addr.mk r1457 0 none)) ((p0_n).toNat) ((p0_n).toNat)), (Value.slice (some (Addr.mk r1453 0 none)) ((p0_n).toNat) ((p0_n).toNat)), (Value.slice (some (Addr.mk r1459 0 none)) ((p0_n).toNat) ((p0_n).toNat)), (Value.slice (some (Addr.mk r1291 0 none)) ((p0_n).toNat) ((p0_n).toNat))]) fun h1461 =>
 ∃ x1462 : SV, H.rd h1461 (Addr.add (Addr.mk r1 0 none) 0) (Value.slice x1462.a x1462.len x1462.cap) ∧
 ∃ x1463 : Int, H.rd h1461 (Addr.add (Addr.mk r1 0 none) 1) (Value.int .i64 x1463) ∧
 ∃ x1464 : Int, H.rd h1461 (Addr.add (Addr.mk r1 0 none) 2) (Value.int .i64 x1464) ∧
 ∃ x1465 : SV, H.rd h1461 (Addr.add (Addr.mk r1 0 none) 3) (Value.slice x1465.a x1465.len x1465.cap) ∧
 ∃ x1466 : SV, H.rd h1461 (Addr.add (Addr.mk r1 0 none) 4) (Value.slice x1466.a x1466.len x1466.cap) ∧
 ∃ x1467 : SV, H.rd h1461 (Addr.add (Addr.mk r1 0 none) 5) (Value.slice x1467.a x1467.len x1467.cap) ∧
 ∃ x1468 : SV, H.rd h1461 (Addr.add (Addr.mk r1 0 none) 6) (Value.slice x1468.a x1468.len x1468.cap) ∧
 VRet h1461 (Value.agg (List.toArray [(Value.slice x1462.a x1462.len x1462.cap), (Value.int .i64 x1463), (Value.int .i64 x1464), (Value.slice x1465.a x1465.len x1465.cap), (Value.slice x1466.a x1466.len x1466.cap), (Value.slice x1467.a x1467.len x1467.cap), (Value.slice x1468.a x1468.len x1468.cap)])) post) ∧
 (
 0 ≤ p0_n ∧ p0_n ≤ p0_n ∧ ((8 : Nat) : Int) * p0_n ≤ 140737488355328 ∧ p0_n ≤ 1000000000 ∧
 H.new h1456 (repl (p0_n).toNat [(Value.int .i64 0)]) fun r1469 h1470 =>
 0 ≤ p0_n ∧ p0_n ≤ p0_n ∧ ((8 : Nat) : Int) * p0_n ≤ 140737488355328 ∧ p0_n ≤ 1000000000 ∧
 H.new h1470 (repl (p0_n).toNat [(Value.int .i64 0)]) fun r1471 h1472 =>
 ([(Value.slice (some (Addr.mk r1455 0 none)) (((8 : Int)).toNat) (((8 : Int)).toNat)), (Value.int .i64 0), (Value.int .i64 0), (Value.slice (some (Addr.mk r1471 0 none)) ((p0_n).toNat) ((p0_n).toNat)), (Value.slice (some (Addr.mk r1453 0 none)) ((p0_n).toNat) ((p0_n).toNat)), (Value.slice (some (Addr.mk r1469 0 none)) ((p0_n).toNat) ((p0_n).toNat)), (Value.slice (some (Addr.mk r1291 0 none)) ((p0_n).toNat) ((p0_n).toNat))]).length = 7 ∧ (Program.underlying Go.Proofs.Tryd.prog 49).isSome = true ∧
 H.wr h1472 (Addr.mk r1 0 none) ([(Value.slice (some (Addr.mk r1455 0 none)) (((8 : Int)).toNat) (((8 : Int)).toNat)), (Value.int .i64 0), (Value.int .i64 0), (Value.slice (some (Addr.mk r1471 0 none)) ((p0_n).toNat) ((p0_n).toNat)), (Value.slice (some (Addr.mk r1453 0 none)) ((p0_n).toNat) ((p0_n).toNat)), (Value.slice (some (Addr.mk r1469 0 none)) ((p0_n).toNat) ((p0_n).toNat)), (Value.slice (some (Addr.mk r1291 0 none)) ((p0_n).toNat) ((p0_n).toNat))]) fun h1473 =>
 ∃ x1474 : SV, H.rd h1473 (Addr.add (Addr.mk r1 0 none) 0) (Value.slice x1474.a x1474.len x1474.cap) ∧
 ∃ x1475 : Int, H.rd h1473 (Addr.add (Addr.mk r1 0 none) 1) (Value.int .i64 x1475) ∧
 ∃ x1476 : Int, H.rd h1473 (Addr.add (Addr.mk r1 0 none) 2) (Value.int .i64 x1476) ∧
 ∃ x1477 : SV, H.rd h1473 (Addr.add (Addr.mk r1 0 none) 3) (Value.slice x1477.a x1477.len x1477.cap) ∧
 ∃ x1478 : SV, H.rd h1473 (Addr.add (Addr.mk r1 0 none) 4) (Value.slice x1478.a x1478.len x1478.cap) ∧
 ∃ x1479 : SV, H.rd h1473 (Addr.add (Addr.mk r1 0 none) 5) (Value.slice x1479.a x1479.len x1479.cap) ∧
 ∃ x1480 : SV, H.rd h1473 (Addr.add (Addr.mk r1 0 none) 6) (Value.slice x1480.a x1480.len x1480.cap) ∧
 VRet h1473 (Value.agg (List.toArray [(Value.slice x1474.a x1474.len x1474.cap), (Value.int .i64 x1475), (Value.int .i64 x1476), (Value.slice x1477.a x1477.len x1477.cap), (Value.slice x1478.a x1478.len x1478.cap), (Value.slice x1479.a x1479.len x1479.cap), (Value.slice x1480.a x1480.len x1480.cap)])) post)) ∧
 (
 (
 0 ≤ p0_n ∧ p0_n ≤ p0_n ∧ ((8 : Nat) : Int) * p0_n ≤ 140737488355328 ∧ p0_n ≤ 1000000000 ∧
 H.new h1454 (repl (p0_n).toNat [(Value.int .i64 0)]) fun r1481 h1482 =>
 (
 0 ≤ (8 : Int) ∧ (8 : Int) ≤ (8 : Int) ∧ ((8 : Nat) : Int) * (8 : Int) ≤ 140737488355328 ∧ (8 : Int) ≤ 1000000000 ∧
 H.new h1482 (repl ((8 : Int)).toNat [(Value.int .i64 0)]) fun r1483 h1484 =>
 0 ≤ p0_n ∧ p0_n ≤ p0_n ∧ ((8 : Nat) : Int) * p0_n ≤ 140737488355328 ∧ p0_n ≤ 1000000000 ∧
 H.new h1484 (repl (p0_n).toNat [(Value.int .i64 0)]) fun r1485 h1486 =>
 ([(Value.slice (some (Addr.mk r1483 0 none)) (((8 : Int)).toNat) (((8 : Int)).toNat)), (Value.int .i64 0), (Value.int .i64 0), (Value.slice (some (Addr.mk r1481 0 none)) ((p0_n).toNat) ((p0_n).toNat)), (Value.slice (some (Addr.mk r1453 0 none)) ((p0_n).toNat) ((p0_n).toNat)), (Value.slice (some (Addr.mk r1485 0 none)) ((p0_n).toNat) ((p0_n).toNat)), (Value.slice (some (Addr.mk r1291 0 none)) ((p0_n).toNat) ((p0_n).toNat))]).length = 7 ∧ (Program.underlying Go.Proofs.Tryd.prog 49).isSome = true ∧
 H.wr h1486 (Addr.mk r1 0 none) ([(Value.slice (some (Addr.mk r1483 0 none)) (((8 : Int)).toNat) (((8 : Int)).toNat)), (Value.int .i64 0), (Value.int .i64 0), (Value.slice (some (Addr.mk r1481 0 none)) ((p0_n).toNat) ((p0_n).toNat)), (Value.slice (some (Addr.mk r1453 0 none)) ((p0_n).toNat) ((p0_n).toNat)), (Value.slice (some (Addr.mk r1485 0 none)) ((p0_n).toNat) ((p0_n).toNat)), (Value.slice (some (Addr.mk r1291 0 none)) ((p0_n).toNat) ((p0_n).toNat))]) fun h1487 =>
 ∃ x1488 : SV, H.rd h1487 (Addr.add (Addr.mk r1 0 none) 0) (Value.slice x1488.a x1488.len x1488.cap) ∧
 ∃ x1489 : Int, H.rd h1487 (Addr.add (Addr.mk r1 0 none) 1) (Value.int .i64 x1489) ∧
 ∃ x1490 : Int, H.rd h1487 (Addr.add (Addr.mk r1 0 none) 2) (Value.int .i64 x1490) ∧
 ∃ x1491 : SV, H.rd h1487 (Addr.add (Addr.mk r1 0 none) 3) (Value.slice x1491.a x1491.len x1491.cap) ∧
 ∃ x1492 : SV, H.rd h1487 (Addr.add (Addr.mk r1 0 none) 4) (Value.slice x1492.a x1492.len x1492.cap) ∧
 ∃ x1493 : SV, H.rd h1487 (Addr.add (Addr.mk r1 0 none) 5) (Value.slice x1493.a x1493.len x1493.cap) ∧
 ∃ x1494 : SV, H.rd h1487 (Addr.add (Addr.mk r1 0 none) 6) (Value.slice x1494.a x1494.len x1494.cap) ∧
 VRet h1487 (Value.agg (List.toArray [(Value.slice x1488.a x1488.len x1488.cap), (Value.int .i64 x1489), (Value.int .i64 x1490), (Value.slice x1491.a x1491.len x1491.cap), (Value.slice x1492.a x1492.len x1492.cap), (Value.slice x1493.a x1493.len x1493.cap), (Value.slice x1494.a x1494.len x1494.cap)])) post) ∧
 (
 0 ≤ p0_n ∧ p0_n ≤ p0_n ∧ ((8 : Nat) : Int) * p0_n ≤ 140737488355328 ∧ p0_n ≤ 1000000000 ∧
 H.new h1482 (repl (p0_n).toNat [(Value.int .i64 0)]) fun r1495 h1496 =>
 0 ≤ (8 : Int) ∧ (8 : Int) ≤ (8 : Int) ∧ ((8 : Nat) : Int) * (8 : Int) ≤ 140737488355328 ∧ (8 : Int) ≤ 1000000000 ∧
 H.new h1496 (repl ((8 : Int)).toNat [(Value.int .i64 0)]) fun r1497 h1498 =>
 ([(Value.slice (some (Addr.mk r1497 0 none)) (((8 : Int)).toNat) (((8 : Int)).toNat)), (Value.int .i64 0), (Value.int .i64 0), (Value.slice (some (Addr.mk r1481 0 none)) ((p0_n).toNat) ((p0_n).toNat)), (Value.slice (some (Addr.mk r1453 0 none)) ((p0_n).toNat) ((p0_n).toNat)), (Value.slice (some (Addr.mk r1495 0 none)) ((p0_n).toNat) ((p0_n).toNat)), (Value.slice (some (Addr.mk r1291 0 none)) ((p0_n).toNat) ((p0_n).toNat))]).length = 7 ∧ (Program.underlying Go.Proofs.Tryd.prog 49).isSome = true ∧
 H.wr h1498 (Addr.mk r1 0 none) ([(Value.slice (some (Addr.mk r1497 0 none)) (((8 : Int)).toNat) (((8 : Int)).toNat)), (Value.int .i64 0), (Value.int .i64 0), (Value.slice (some (Addr.mk r1481 0 none)) ((p0_n).toNat) ((p0_n).toNat)), (Value.slice (some (Addr.mk r1453 0 none)) ((p0_n).toNat) ((p0_n).toNat)), (Value.slice (some (Addr.mk r1495 0 none)) ((p0_n).toNat) ((p0_n).toNat)), (Value.slice (some (Addr.mk r1291 0 none)) ((p0_n).toNat) ((p0_n).toNat))]) fun h1499 =>
 ∃ x1500 : SV, H.rd h1499 (Addr.add (Addr.mk r1 0 none) 0) (Value.slice x1500.a x1500.len x1500.cap) ∧
 ∃ x1501 : Int, H.rd h1499 (Addr.add (Addr.mk r1 0 none) 1) (Value.int .i64 x1501) ∧
 ∃ x1502 : Int, H.rd h1499 (Addr.add (Addr.mk r1 0 none) 2) (Value.int .i64 x1502) ∧
 ∃ x1503 : SV, H.rd h1499 (Addr.add (Addr.mk r1 0 none) 3) (Value.slice x1503.a x1503.len x1503.cap) ∧
 ∃ x1504 : SV, H.rd h1499 (Addr.add (Addr.mk r1 0 none) 4) (Value.slice x1504.a x1504.len x1504.cap) ∧
 ∃ x1505 : SV, H.rd h1499 (Addr.add (Addr.mk r1 0 none) 5) (Value.slice x1505.a x1505.len x1505.cap) ∧
 ∃ x1506 : SV, H.rd h1499 (Addr.add (Addr.mk r1 0 none) 6) (Value.slice x1506.a x1506.len x1506.cap) ∧
 VRet h1499 (Value.agg (List.toArray [(Value.slice x1500.a x1500.len x1500.cap), (Value.int .i64 x1501), (Value.int .i64 x1502), (Value.slice x1503.a x1503.len x1503.cap), (Value.slice x1504.a x1504.len x1504.cap), (Value.slice x1505.a x1505.len x1505.cap), (Value.slice x1506.a x1506.len x1506.cap)])) post)) ∧
 (
 0 ≤ p0_n ∧ p0_n ≤ p0_n ∧ ((8 : Nat) : Int) * p0_n ≤ 140737488355328 ∧ p0_n ≤ 1000000000 ∧
 H.new h1454 (repl (p0_n).toNat [(Value.int .i64 0)]) fun r1507 h1508 =>
 (
 0 ≤ (8 : Int) ∧ (8 : Int) ≤ (8 : Int) ∧ ((8 : Nat) : Int) * (8 : Int) ≤ 140737488355328 ∧ (8 : Int) ≤ 1000000000 ∧
 H.new h1508 (repl ((8 : Int)).toNat [(Value.int .i64 0)]) fun r1509 h1510 =>
 0 ≤ p0_n ∧ p0_n ≤ p0_n ∧ ((8 : Nat) : Int) * p0_n ≤ 140737488355328 ∧ p0_n ≤ 1000000000 ∧
 H.new h1510 (repl (p0_n).toNat [(Value.int .i64 0)]) fun r1511 h1512 =>
 ([(Value.slice (some (Addr.mk r1509 0 none)) (((8 : Int)).toNat) (((8 : Int)).toNat)), (Value.int .i64 0), (Value.int .i64 0), (Value.slice (some (Addr.mk r1511 0 none)) ((p0_n).toNat) ((p0_n).toNat)), (Value.slice (some (Addr.mk r1453 0 none)) ((p0_n).toNat) ((p0_n).toNat)), (Value.slice (some (Addr.mk r1507 0 none)) ((p0_n).toNat) ((p0_n).toNat)), (Value.slice (some (Addr.mk r1291 0 none)) ((p0_n).toNat) ((p0_n).toNat))]).length = 7 ∧ (Program.underlying Go.Proofs.Tryd.prog 49).isSome = true ∧
 H.wr h1512 (Addr.mk r1 0 none) ([(Value.slice (some (Addr.mk r1509 0 none)) (((8 : Int)).toNat) (((8 : Int)).toNat)), (Value.int .i64 0), (Value.int .i64 0), (Value.slice (some (Addr.mk r1511 0 none)) ((p0_n).toNat) ((p0_n).toNat)), (Value.slice (some (Addr.mk r1453 0 none)) ((p0_n).toNat) ((p0_n).toNat)), (Value.slice (some (Addr.mk r1507 0 none)) ((p0_n).toNat) ((p0_n).toNat)), (Value.slice (some (Addr.mk r1291 0 none)) ((p0_n).toNat) ((p0_n).toNat))]) fun h1513 =>
 ∃ x1514 : SV, H.rd h1513 (Addr.add (Addr.mk r1 0 none) 0) (Value.slice x1514.a x1514.len x1514.cap) ∧
 ∃ x1515 : Int, H.rd h1513 (Addr.add (Addr.mk r1 0 none) 1) (Value.int .i64 x1515) ∧
 ∃ x1516 : Int, H.rd h1513 (Addr.add (Addr.mk r1 0 none) 2) (Value.int .i64 x1516) ∧
 ∃ x1517 : SV, H.rd h1513 (Addr.add (Addr.mk r1 0 none) 3) (Value.slice x1517.a x1517.len x1517.cap) ∧
 ∃ x1518 : SV, H.rd h1513 (Addr.add (Addr.mk r1 0 none) 4) (Value.slice x1518.a x1518.len x1518.cap) ∧
 ∃ x1519 : SV, H.rd h1513 (Addr.add (Addr.mk r1 0 none) 5) (Value.slice x1519.a x1519.len x1519.cap) ∧
 ∃ x1520 : SV, H.rd h1513 (Addr.add (Addr.mk r1 0 none) 6) (Value.slice x1520.a x1520.len x1520.cap) ∧
 VRet h1513 (Value.agg (List.toArray [(Value.slice x1514.a x1514.len x1514.cap), (Value.int .i64 x1515), (Value.int .i64 x1516), (Value.slice x1517.a x1517.len x1517.cap), (Value.slice x1518.a x1518.len x1518.cap), (Value.slice x1519.a x1519.len x1519.cap), (Value.slice x1520.a x1520.len x1520.cap)])) post) ∧
 (
 0 ≤ p0_n ∧ p0_n ≤ p0_n ∧ ((8 : Nat) : Int) * p0_n ≤ 140737488355328 ∧ p0_n ≤ 1000000000 ∧
 H.new h1508 (repl (p0_n).toNat [(Value.int .i64 0)]) fun r1521 h1522 =>
 0 ≤ (8 : Int) ∧ (8 : Int) ≤ (8 : Int) ∧ ((8 : Nat) : Int) * (8 : Int) ≤ 140737488355328 ∧ (8 : Int) ≤ 1000000000 ∧
 H.new h1522 (repl ((8 : Int)).toNat [(Value.int .i64 0)]) fun r1523 h1524 =>
 ([(Value.slice (some (Addr.mk r1523 0 none)) (((8 : Int)).toNat) (((8 : Int)).toNat)), (Value.int .i64 0), (Value.int .i64 0), (Value.slice (some (Addr.mk r1521 0 none)) ((p0_n).toNat) ((p0_n).toNat)), (Value.slice (some (Addr.mk r1453 0 none)) ((p0_n).toNat) ((p0_n).toNat)), (Value.slice (some (Addr.mk r1507 0 none)) ((p0_n).toNat) ((p0_n).toNat)), (Value.slice (some (Addr.mk r1291 0 none)) ((p0_n).toNat) ((p0_n).toNat))]).length = 7 ∧ (Program.underlying Go.Proofs.Tryd.prog 49).isSome = true ∧
 H.wr h1524 (Addr.mk r1 0 none) ([(Value.slice (some (Addr.mk r1523 0 none)) (((8 : Int)).toNat) (((8 : Int)).toNat)), (Value.int .i64 0), (Value.int .i64 0), (Value.slice (some (Addr.mk r1521 0 none)) ((p0_n).toNat) ((p0_n).toNat)), (Value.slice (some (Addr.mk r1453 0 none)) ((p0_n).toNat) ((p0_n).toNat)), (Value.slice (some (Addr.mk r1507 0 none)) ((p0_n).toNat) ((p0_n).toNat)), (Value.slice (some (Addr.mk r1291 0 none)) ((p0_n).toNat) ((p0_n).toNat))]) fun h1525 =>
 ∃ x1526 : SV, H.rd h1525 (Addr.add (Addr.mk r1 0 none) 0) (Value.slice x1526.a x1526.len x1526.cap) ∧
 ∃ x1527 : Int, H.rd h1525 (Addr.add (Addr.mk r1 0 none) 1) (Value.int .i64 x1527) ∧
 ∃ x1528 : Int, H.rd h1525 (Addr.add (Addr.mk r1 0 none) 2) (Value.int .i64 x1528) ∧
 ∃ x1529 : SV, H.rd h1525 (Addr.add (Addr.mk r1 0 none) 3) (Value.slice x1529.a x1529.len x1529.cap) ∧
 ∃ x1530 : SV, H.rd h1525 (Addr.add (Addr.mk r1 0 none) 4) (Value.slice x1530.a x1530.len x1530.cap) ∧
 ∃ x1531 : SV, H.rd h1525 (Addr.add (Addr.mk r1 0 none) 5) (Value.slice x1531.a x1531.len x1531.cap) ∧
 ∃ x1532 : SV, H.rd h1525 (Addr.add (Addr.mk r1 0 none) 6) (Value.slice x1532.a x1532.len x1532.cap) ∧
 VRet h1525 (Value.agg (List.toArray [(Value.slice x1526.a x1526.len x1526.cap), (Value.int .i64 x1527), (Value.int .i64 x1528), (Value.slice x1529.a x1529.len x1529.cap), (Value.slice x1530.a x1530.len x1530.cap), (Value.slice x1531.a x1531.len x1531.cap), (Value.slice x1532.a x1532.len x1532.cap)])) post)))) ∧
 (
 0 ≤ p0_n ∧ p0_n ≤ p0_n ∧ ((8 : Nat) : Int) * p0_n ≤ 140737488355328 ∧ p0_n ≤ 1000000000 ∧
 H.new h1292 (repl (p0_n).toNat [(Value.int .i64 0)]) fun r1533 h1534 =>
 (
 0 ≤ (8 : Int) ∧ (8 : Int) ≤ (8 : Int) ∧ ((8 : Nat) : Int) * (8 : Int) ≤ 140737488355328 ∧ (8 : Int) ≤ 1000000000 ∧
 H.new h1534 (repl ((8 : Int)).toNat [(Value.int .i64 0)]) fun r1535 h1536 =>
 (
 0 ≤ p0_n ∧ p0_n ≤ p0_n ∧ ((8 : Nat) : Int) * p0_n ≤ 140737488355328 ∧ p0_n ≤ 1000000000 ∧
 H.new h1536 (repl (p0_n).toNat [(Value.int .i64 0)]) fun r1537 h1538 =>
 0 ≤ p0_n ∧ p0_n ≤ p0_n ∧ ((8 : Nat) : Int) * p0_n ≤ 140737488355328 ∧ p0_n ≤ 1000000000 ∧
 H.new h1538 (repl (p0_n).toNat [(Value.int .i64 0)]) fun r1539 h1540 =>
 ([(Value.slice (some (Addr.mk r1535 0 none)) (((8 : Int)).toNat) (((8 : Int)).toNat)), (Value.int .i64 0), (Value.int .i64 0), (Value.slice (some (Addr.mk r1537 0 none)) ((p0_n).toNat) ((p0_n).toNat)), (Value.slice (some (Addr.mk r1539 0 none)) ((p0_n).toNat) ((p0_n).toNat)), (Value.slice (some (Addr.mk r1533 0 none)) ((p0_n).toNat) ((p0_n).toNat)), (Value.slice (some (Addr.mk r1291 0 none)) ((p0_n).toNat) ((p0_n).toNat))]).length = 7 ∧ (Program.underlying Go.Proofs.Tryd.prog 49).isSome = true ∧
 H.wr h1540 (Addr.mk r1 0 none) ([(Value.slice (some (Addr.mk r1535 0 none)) (((8 : Int)).toNat) (((8 : Int)).toNat)), (Value.int .i64 0), (Value.int .i64 0), (Value.slice (some (Addr.mk r1537 0 none)) ((p0_n).toNat) ((p0_n).toNat)), (Value.slice (some (Addr.mk r1539 0 none)) ((p0_n).toNat) ((p0_n).toNat)), (Value.slice (some (Addr.mk r1533 0 none)) ((p0_n).toNat) ((p0_n).toNat)), (Value.slice (some (Addr.mk r1291 0 none)) ((p0_n).toNat) ((p0_n).toNat))]) fun h1541 =>
 ∃ x1542 : SV, H.rd h1541 (Addr.add (Addr.mk r1 0 none) 0) (Value.slice x1542.a x1542.len x1542.cap) ∧
 ∃ x1543 : Int, H.rd h1541 (Addr.add (Addr.mk r1 0 none) 1) (Value.int .i64 x1543) ∧
 ∃ x1544 : Int, H.rd h1541 (Addr.add (Addr.mk r1 0 none) 2) (Value.int .i64 x1544) ∧
 ∃ x1545 : SV, H.rd h1541 (Addr.add (Addr.mk r1 0 none) 3) (Value.slice x1545.a x1545.len x1545.cap) ∧
 ∃ x1546 : SV, H.rd h1541 (Addr.add (Addr.mk r1 0 none) 4) (Value.slice x1546.a x1546.len x1546.cap) ∧
 ∃ x1547 : SV, H.rd h1541 (Addr.add (Addr.mk r1 0 none) 5) (Value.slice x1547.a x1547.len x1547.cap) ∧
 ∃ x1548 : SV, H.rd h1541 (Addr.add (Addr.mk r1 0 none) 6) (Value.slice x1548.a x1548.len x1548.cap) ∧
 VRet h1541 (Value.agg (List.toArray [(Value.slice x1542.a x1542.len x1542.cap), (Value.int .i64 x1543), (Value.int .i64 x1544), (Value.slice x1545.a x1545.len x1545.cap), (Value.slice x1546.a x1546.len x1546.cap), (Value.slice x1547.a x1547.len x1547.cap), (Value.slice x1548.a x1548.len x1548.cap)])) post) ∧
 (
 0 ≤ p0_n ∧ p0_n ≤ p0_n ∧ ((8 : Nat) : Int) * p0_n ≤ 140737488355328 ∧ p0_n ≤ 1000000000 ∧
 H.new h1536 (repl (p0_n).toNat [(Value.int .i64 0)]) fun r1549 h1550 =>
 0 ≤ p0_n ∧ p0_n ≤ p0_n ∧ ((8 : Nat) : Int) * p0_n ≤ 140737488355328 ∧ p0_n ≤ 1000000000 ∧
 H.new h1550 (repl (p0_n).toNat [(Value.int .i64 0)]) fun r1551 h1552 =>
 ([(Value.slice (some (Addr.mk r1535 0 none)) (((8 : Int)).toNat) (((8 : Int)).toNat)), (Value.int .i64 0), (Value.int .i64 0), (Value.slice (some (Addr.mk r1551 0 none)) ((p0_n).toNat) ((p0_n).toNat)), (Value.slice (some (Addr.mk r1549 0 none)) ((p0_n).toNat) ((p0_n).toNat)), (Value.slice (some (Addr.mk r1533 0 none)) ((p0_n).toNat) ((p0_n).toNat)), (Value.slice (some (Addr.mk r1291 0 none)) ((p0_n).toNat) ((p0_n).toNat))]).length = 7 ∧ (Program.underlying Go.Proofs.Tryd.prog 49).isSome = true ∧
 H.wr h1552 (Addr.mk r1 0 none) ([(Value.slice (some (Addr.mk r1535 0 none)) (((8 : Int)).toNat) (((8 : Int)).toNat)), (Value.int .i64 0), (Value.int .i64 0), (Value.slice (some (Addr.mk r1551 0 none)) ((p0_n).toNat) ((p0_n).toNat)), (Value.slice (some (Addr.mk r1549 0 none)) ((p0_n).toNat) ((p0_n).toNat)), (Value.slice (some (Addr.mk r1533 0 none)) ((p0_n).toNat) ((p0_n).toNat)), (Value.slice (some (Addr.mk r1291 0 none)) ((p0_n).toNat) ((p0_n).toNat))]) fun h1553 =>
 ∃ x1554 : SV, H.rd h1553 (Addr.add (Addr.mk r1 0 none) 0) (Value.slice x1554.a x1554.len x1554.cap) ∧
 ∃ x1555 : Int, H.rd h1553 (Addr.add (Addr.mk r1 0 none) 1) (Value.int .i64 x1555) ∧
 ∃ x1556 : Int, H.rd h1553 (Addr.add (Addr.mk r1 0 none) 2) (Value.int .i64 x1556) ∧
 ∃ x1557 : SV, H.rd h1553 (Addr.add (Addr.mk r1 0 none) 3) (Value.slice x1557.a x1557.len x1557.cap) ∧
 ∃ x1558 : SV, H.rd h1553 (Addr.add (Addr.mk r1 0 none) 4) (Value.slice x1558.a x1558.len x1558.cap) ∧
 ∃ x1559 : SV, H.rd h1553 (Addr.add (Addr.mk r1 0 none) 5) (Value.slice x1559.a x1559.len x1559.cap) ∧
 ∃ x1560 : SV, H.rd h1553 (Addr.add (Addr.mk r1 0 none) 6) (Value.slice x1560.a x1560.len x1560.cap) ∧
 VRet h1553 (Value.agg (List.toArray [(Value.slice x1554.a x1554.len x1554.cap), (Value.int .i64 x1555), (Value.int .i64 x1556), (Value.slice x1557.a x1557.len x1557.cap), (Value.slice x1558.a x1558.len x1558.cap), (Value.slice x1559.a x1559.len x1559.cap), (Value.slice x1560.a x1560.len x1560.cap)])) post)) ∧
 (
 (
 0 ≤ p0_n ∧ p0_n ≤ p0_n ∧ ((8 : Nat) : Int) * p0_n ≤ 140737488355328 ∧ p0_n ≤ 1000000000 ∧
 H.new h1534 (repl (p0_n).toNat [(Value.int .i64 0)]) fun r1561 h1562 =>
 (
 0 ≤ (8 : Int) ∧ (8 : Int) ≤ (8 : Int) ∧ ((8 : Nat) : Int) * (8 : Int) ≤ 140737488355328 ∧ (8 : Int) ≤ 1000000000 ∧
 H.new h1562 (repl ((8 : Int)).toNat [(Value.int .i64 0)]) fun r1563 h1564 =>
 0 ≤ p0_n ∧ p0_n ≤ p0_n ∧ ((8 : Nat) : Int) * p0_n ≤ 140737488355328 ∧ p0_n ≤ 1000000000 ∧
 H.new h1564 (repl (p0_n).toNat [(Value.int .i64 0)]) fun r1565 h1566 =>
 ([(Value.slice (some (Addr.mk r1563 0 none)) (((8 : Int)).toNat) (((8 : Int)).toNat)), (Value.int .i64 0), (Value.int .i64 0), (Value.slice (some (Addr.mk r1561 0 none)) ((p0_n).toNat) ((p0_n).toNat)), (Value.slice (some (Addr.mk r1565 0 none)) ((p0_n).toNat) ((p0_n).toNat)), (Value.slice (some (Addr.mk r1533 0 none)) ((p0_n).toNat) ((p0_n).toNat)), (Value.slice (some (Addr.mk r1291 0 none)) ((p0_n).toNat) ((p0_n).toNat))]).length = 7 ∧ (Program.underlying Go.Proofs.Tryd.prog 49).isSome = true ∧
 H.wr h1566 (Addr.mk r1 0 none) ([(Value.slice (some (Addr.mk r1563 0 none)) (((8 : Int)).toNat) (((8 : Int)).toNat)), (Value.int .i64 0), (Value.int .i64 0), (Value.slice (some (Addr.mk r1561 0 none)) ((p0_n).toNat) ((p0_n).toNat)), (Value.slice (some (Addr.mk r1565 0 none)) ((p0_n).toNat) ((p0_n).toNat)), (Value.slice (some (Addr.mk r1533 0 none)) ((p0_n).toNat) ((p0_n).toNat)), (Value.slice (some (Addr.mk r1291 0 none)) ((p0_n).toNat) ((p0_n).toNat))]) fun h1567 =>
 ∃ x1568 : SV, H.rd h1567 (Addr.add (Addr.mk r1 0 none) 0) (Value.slice x1568.a x1568.len x1568.cap) ∧
 ∃ x1569 : Int, H.rd h1567 (Addr.add (Addr.mk r1 0 none) 1) (Value.int .i64 x1569) ∧
 ∃ x1570 : Int, H.rd h1567 (Addr.add (Addr.mk r1 0 none) 2) (Value.int .i64 x1570) ∧
 ∃ x1571 : SV, H.rd h1567 (Addr.add (Addr.mk r1 0 none) 3) (Value.slice x1571.a x1571.len x1571.cap) ∧
 ∃ x1572 : SV, H.rd h1567 (Addr.add (Addr.mk r1 0 none) 4) (Value.slice x1572.a x1572.len x1572.cap) ∧
 ∃ x1573 : SV, H.rd h1567 (Addr.add (Addr.mk r1 0 none) 5) (Value.slice x1573.a x1573.len x1573.cap) ∧
 ∃ x1574 : SV, H.rd h1567 (Addr.add (Addr.mk r1 0 none) 6) (Value.slice x1574.a x1574.len x1574.cap) ∧
 VRet h1567 (Value.agg (List.toArray [(Value.slice x1568.a x1568.len x1568.cap), (Value.int .i64 x1569), (Value.int .i64 x1570), (Value.slice x1571.a x1571.len x1571.cap), (Value.slice x1572.a x1572.len x1572.cap), (Value.slice x1573.a x1573.len x1573.cap), (Value.slice x1574.a x1574.len x1574.cap)])) post) ∧
 (
 0 ≤ p0_n ∧ p0_n ≤ p0_n ∧ ((8 : Nat) : Int) * p0_n ≤ 140737488355328 ∧ p0_n ≤ 1000000000 ∧
 H.new h1562 (repl (p0_n).toNat [(Value.int .i64 0)]) fun r1575 h1576 =>
 0 ≤ (8 : Int) ∧ (8 : Int) ≤ (8 : Int) ∧ ((8 : Nat) : Int) * (8 : Int) ≤ 140737488355328 ∧ (8 : Int) ≤ 1000000000 ∧
 H.new h1576 (repl ((8 : Int)).toNat [(Value.int .i64 0)]) fun r1577 h1578 =>
 ([(Value.slice (some (Addr.mk r1577 0 none)) (((8 : Int)).toNat) (((8 : Int)).toNat)), (Value.int .i64 0), (Value.int .i64 0), (Value.slice (some (Addr.mk r1561 0 none)) ((p0_n).toNat) ((p0_n).toNat)), (Value.slice (some (Addr.mk r1575 0 none)) ((p0_n).toNat) ((p0_n).toNat)), (Value.slice (some (Addr.mk r1533 0 none)) ((p0_n).toNat) ((p0_n).toNat)), (Value.slice (some (Addr.mk r1291 0 none)) ((p0_n).toNat) ((p0_n).toNat))]).length = 7 ∧ (Program.underlying Go.Proofs.Tryd.prog 49).isSome = true ∧
 H.wr h1578 (Addr.mk r1 0 none) ([(Value.slice (some (Addr.mk r1577 0 none)) (((8 : Int)).toNat) (((8 : Int)).toNat)), (Value.int .i64 0), (Value.int .i64 0), (Value.slice (some (Addr.mk r1561 0 none)) ((p0_n).toNat) ((p0_n).toNat)), (Value.slice (some (Addr.mk r1575 0 none)) ((p0_n).toNat) ((p0_n).toNat)), (Value.slice (some (Addr.mk r1533 0 none)) ((p0_n).toNat) ((p0_n).toNat)), (Value.slice (some (Addr.mk r1291 0 none)) ((p0_n).toNat) ((p0_n).toNat))]) fun h1579 =>
 ∃ x1580 : SV, H.rd h1579 (Addr.add (Addr.mk r1 0 none) 0) (Value.slice x1580.a x1580.len x1580.cap) ∧
 ∃ x1581 : Int, H.rd h1579 (Addr.add (Addr.mk r1 0 none) 1) (Value.int .i64 x1581) ∧
 ∃ x1582 : Int, H.rd h1579 (Addr.add (Addr.mk r1 0 none) 2) (Value.int .i64 x1582) ∧
 ∃ x1583 : SV, H.rd h1579 (Addr.add (Addr.mk r1 0 none) 3) (Value.slice x1583.a x1583.len x1583.cap) ∧
 ∃ x1584 : SV, H.rd h1579 (Addr.add (Addr.mk r1 0 none) 4) (Value.slice x1584.a x1584.len x1584.cap) ∧
 ∃ x1585 : SV, H.rd h1579 (Addr.add (Addr.mk r1 0 none) 5) (Value.slice x1585.a x1585.len x1585.cap) ∧
 ∃ x1586 : SV, H.rd h1579 (Addr.add (Addr.mk r1 0 none) 6) (Value.slice x1586.a x1586.len x1586.cap) ∧
 VRet h1579 (Value.agg (List.toArray [(Value.slice x1580.a x1580.len x1580.cap), (Value.int .i64 x1581), (Value.int .i64 x1582), (Value.slice x1583.a x1583.len x1583.cap), (Value.slice x1584.a x1584.len x1584.cap), (Value.slice x1585.a x1585.len x1585.cap), (Value.slice x1586.a x1586.len x1586.cap)])) post)) ∧
 (
 0 ≤ p0_n ∧ p0_n ≤ p0_n ∧ ((8 : Nat) : Int) * p0_n ≤ 140737488355328 ∧ p0_n ≤ 1000000000 ∧
 H.new h1534 (repl (p0_n).toNat [(Value.int .i64 0)]) fun r1587 h1588 =>
 (
 0 ≤ (8 : Int) ∧ (8 : Int) ≤ (8 : Int) ∧ ((8 : Nat) : Int) * (8 : Int) ≤ 140737488355328 ∧ (8 : Int) ≤ 1000000000 ∧
 H.new h1588 (repl ((8 : Int)).toNat [(Value.int .i64 0)]) fun r1589 h1590 =>
 0 ≤ p0_n ∧ p0_n ≤ p0_n ∧ ((8 : Nat) : Int) * p0_n ≤ 140737488355328 ∧ p0_n ≤ 1000000000 ∧
 H.new h1590 (repl (p0_n).toNat [(Value.int .i64 0)]) fun r1591 h1592 =>
 ([(Value.slice (some (Addr.mk r1589 0 none)) (((8 : Int)).toNat) (((8 : Int)).toNat)), (Value.int .i64 0), (Value.int .i64 0), (Value.slice (some (Addr.mk r1591 0 none)) ((p0_n).toNat) ((p0_n).toNat)), (Value.slice (some (Addr.mk r1587 0 none)) ((p0_n).toNat) ((p0_n).toNat)), (Value.slice (some (Addr.mk r1533 0 none)) ((p0_n).toNat) ((p0_n).toNat)), (Value.slice (some (Addr.mk r1291 0 none)) ((p0_n).toNat) ((p0_n).toNat))]).length = 7 ∧ (Program.underlying Go.Proofs.Tryd.prog 49).isSome = true ∧
 H.wr h1592 (Addr.mk r1 0 none) ([(Value.slice (some (Addr.mk r1589 0 none)) (((8 : Int)).toNat) (((8 : Int)).toNat)), (Value.int .i64 0), (Value.int .i64 0), (Value.slice (some (Addr.mk r1591 0 none)) ((p0_n).toNat) ((p0_n).toNat)), (Value.slice (some (Addr.mk r1587 0 none)) ((p0_n).toNat) ((p0_n).toNat)), (Value.slice (some (Addr.mk r1533 0 none)) ((p0_n).toNat) ((p0_n).toNat)), (Value.slice (some (Addr.mk r1291 0 none)) ((p0_n).toNat) ((p0_n).toNat))]) fun h1593 =>
 ∃ x1594 : SV, H.rd h1593 (Addr.add (Addr.mk r1 0 none) 0) (Value.slice x1594.a x1594.len x1594.cap) ∧
 ∃ x1595 : Int, H.rd h1593 (Addr.add (Addr.mk r1 0 none) 1) (Value.int .i64 x1595) ∧
 ∃ x1596 : Int, H.rd h1593 (Addr.add (Addr.mk r1 0 none) 2) (Value.int .i64 x1596) ∧
 ∃ x1597 : SV, H.rd h1593 (Addr.add (Addr.mk r1 0 none) 3) (Value.slice x1597.a x1597.len x1597.cap) ∧
 ∃ x1598 : SV, H.rd h1593 (Addr.add (Addr.mk r1 0 none) 4) (Value.slice x1598.a x1598.len x1598.cap) ∧
 ∃ x1599 : SV, H.rd h1593 (Addr.add (Addr.mk r1 0 none) 5) (Value.slice x1599.a x1599.len x1599.cap) ∧
 ∃ x1600 : SV, H.rd h1593 (Addr.add (Addr.mk r1 0 none) 6) (Value.slice x1600.a x1600.len x1600.cap) ∧
 VRet h1593 (Value.agg (List.toArray [(Value.slice x1594.a x1594.len x1594.cap), (Value.int .i64 x1595), (Value.int .i64 x1596), (Value.slice x1597.a x1597.len x1597.cap), (Value.slice x1598.a x1598.len x1598.cap), (Value.slice x1599.a x1599.len x1599.cap), (Value.slice x1600.a x1600.len x1600.cap)])) post) ∧
 (
 0 ≤ p0_n ∧ p0_n ≤ p0_n ∧ ((8 : Nat) : Int) * p0_n ≤ 140737488355328 ∧ p0_n ≤ 1000000000 ∧
 H.new h1588 (repl (p0_n).toNat [(Value.int .i64 0)]) fun r1601 h1602 =>
 0 ≤ (8 : Int) ∧ (8 : Int) ≤ (8 : Int) ∧ ((8 : Nat) : Int) * (8 : Int) ≤ 140737488355328 ∧ (8 : Int) ≤ 1000000000 ∧
 H.new h1602 (repl ((8 : Int)).toNat [(Value.int .i64 0)]) fun r1603 h1604 =>
 ([(Value.slice (some (Addr.mk r1603 0 none)) (((8 : Int)).toNat) (((8 : Int)).toNat)), (Value.int .i64 0), (Value.int .i64 0), (Value.slice (some (Addr.mk r1601 0 none)) ((p0_n).toNat) ((p0_n).toNat)), (Value.slice (some (Addr.mk r1587 0 none)) ((p0_n).toNat) ((p0_n).toNat)), (Value.slice (some (Addr.mk r1533 0 none)) ((p0_n).toNat) ((p0_n).toNat)), (Value.slice (some (Addr.mk r1291 0 none)) ((p0_n).toNat) ((p0_n).toNat))]).length = 7 ∧ (Program.underlying Go.Proofs.Tryd.prog 49).isSome = true ∧
 H.wr h1604 (Addr.mk r1 0 none) ([(Value.slice (some (Addr.mk r1603 0 none)) (((8 : Int)).toNat) (((8 : Int)).toNat)), (Value.int .i64 0), (Value.int .i64 0), (Value.slice (some (Addr.mk r1601 0 none)) ((p0_n).toNat) ((p0_n).toNat)), (Value.slice (some (Addr.mk r1587 0 none)) ((p0_n).toNat) ((p0_n).toNat)), (Value.slice (some (Addr.mk r1533 0 none)) ((p0_n).toNat) ((p0_n).toNat)), (Value.slice (some (Addr.mk r1291 0 none)) ((p0_n).toNat) ((p0_n).toNat))]) fun h1605 =>
 ∃ x1606 : SV, H.rd h1605 (Addr.add (Addr.mk r1 0 none) 0) (Value.slice x1606.a x1606.len x1606.cap) ∧
 ∃ x1607 : Int, H.rd h1605 (Addr.add (Addr.mk r1 0 none) 1) (Value.int .i64 x1607) ∧
 ∃ x1608 : Int, H.rd h1605 (Addr.add (Addr.mk r1 0 none) 2) (Value.int .i64 x1608) ∧
 ∃ x1609 : SV, H.rd h1605 (Addr.add (Addr.mk r1 0 none) 3) (Value.slice x1609.a x1609.len x1609.cap) ∧
 ∃ x1610 : SV, H.rd h1605 (Addr.add (Addr.mk r1 0 none) 4) (Value.slice x1610.a x1610.len x1610.cap) ∧
 ∃ x1611 : SV, H.rd h1605 (Addr.add (Addr.mk r1 0 none) 5) (Value.slice x1611.a x1611.len x1611.cap) ∧
 ∃ x1612 : SV, H.rd h1605 (Addr.add (Addr.mk r1 0 none) 6) (Value.slice x1612.a x1612.len x1612.cap) ∧
 VRet h1605 (Value.agg (List.toArray [(Value.slice x1606.a x1606.len x1606.cap), (Value.int .i64 x1607), (Value.int .i64 x1608), (Value.slice x1609.a x1609.len x1609.cap), (Value.slice x1610.a x1610.len x1610.cap), (Value.slice x1611.a x1611.len x1611.cap), (Value.slice x1612.a x1612.len x1612.cap)])) post))))))))))

def f17_hint : Hint := (.node .leaf (.node .any .leaf))

theorem f17_eq (p0_n : Int) (h0 : H) (post : Value → H → Prop) : exec Tryd.prog (bodyOf Tryd.f17) f17_hint (retQ Tryd.prog Tryd.f17 post) (F0 [(Value.int .i64 p0_n)]) h0 = f17_sem p0_n h0 post := by kernel_rfl

set_option maxRecDepth 20000 in
theorem f17_call (p0_n : Int) (h0 : H) (post : Value → H → Prop) (hx : f17_sem p0_n h0 post) : SemCall Tryd.prog 17 (List.toArray [(Value.int .i64 p0_n)]) h0 post :=
 sem_of_exec (g := f17_hint) mixed Tryd.func17 (bodyOf_eq (by kernel_rfl)) (by kernel_rfl) ((f17_eq p0_n h0 post).mpr hx)

end Go.Proofs.YtiaopgnnibidlaaDoor
