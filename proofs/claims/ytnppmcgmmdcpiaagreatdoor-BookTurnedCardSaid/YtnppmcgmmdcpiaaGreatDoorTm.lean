import Derived.BigRegion
import Derived.Deep.RegionWith
import Derived.WalkKit
import Derived.Laws.IdiomStrings
import Derived.Test.YtnppmcgmmdcpiaaGreatDoorPt
import Derived.Test.YtnppmcgmmdcpiaaGreatDoorTA
namespace Go.Proofs.YtnppmcgmmdcpiaaGreatDoor
open Go.Eng
set_option maxRecDepth 20000
/-! ### BookTurned: a byte is turned, and the text opened -/
noncomputable def r9_3 : Code := seqL (restOf 9 (bodyOf Tryz.f3))
theorem mid3_code : restOf 9 (bodyOf Tryz.f3) = r9_3.seq (restOf 10 (bodyOf Tryz.f3)) := by kernel_rfl
theorem conv_one (w : World) (r : Nat) (c : UInt8) (h : w.cell? ⟨r, 0, none⟩ = some (.int .u8 (c.toNat : Int))) : (convert 35 9 (.slice (some ⟨r, 0, none⟩) 1 1)).run Tryz.prog w = .ok (.string (bs [c])) w := by
  refine run_convert_bytes_back (P := Tryz.prog) w 35 9 5 ⟨r, 0, none⟩ 1 [c] tBu (by kernel_rfl) (by kernel_rfl) (fun j hj => ?_)
  obtain rfl : j = 0 := by simpa using hj
  rw [Go.Eng.add_zero']
  exact h
open Go.RowKit in
set_option maxRecDepth 100000 in
set_option maxHeartbeats 4000000 in
theorem mid3 {h00 : H} {w00 : World} {post : Value → H → Prop} {w : World} {f : F} {a : Act} {r4 : Nat} {i line : Int} {c : UInt8} {t : List UInt8} {sf sc sh : SV} (hr : Rel 96 f a) (f2 : f 2 = .int .i64 i) (f3 : f 3 = .int .u8 (c.toNat : Int)) (f4 : f 4 = .pointer (some ⟨r4, 0, none⟩)) (f12 : f 12 = .string (bs t)) (f13 : f 13 = .int .i64 line)
    (h0 : 0 ≤ i) (h1 : i < (t.length : Int)) (hl : t.length ≤ 1000000)
    (k0 : w.cell? ⟨r4, 0, none⟩ = some (.slice sf.a sf.len sf.cap)) (k1 : w.cell? ⟨r4, 1, none⟩ = some (.slice sc.a sc.len sc.cap)) (k2 : w.cell? ⟨r4, 2, none⟩ = some (.slice sh.a sh.len sh.cap))
    {R : Value → World → Prop} (hcall : ∀ W, Below w.heap.size w W → Calls Tryz.prog 14 #[.agg #[.slice sf.a sf.len sf.cap, .slice sc.a sc.len sc.cap, .slice sh.a sh.len sh.cap], .string ((bs t).extract 0 i.toNat ++ bs [c] ++ (bs t).extract (i + 1).toNat t.length)] W fun e W' => ∃ p m er, e = .returned (.tuple #[.pointer p, .int .i64 m, errV er]) ∧ R (.tuple #[.pointer p, .int .i64 m, errV er]) W')
    (hK : ∀ (a' : Act) (w' : World) (p : Option Addr) (m : Int) (er : Option (TypeId × Value)), R (.tuple #[.pointer p, .int .i64 m, errV er]) w' → a'.defers = [] → a'.tmps.size = 96 → a'.tmps.getD 13 undef = .int .i64 line → a'.tmps.getD 16 undef = .int .i64 m → a'.tmps.getD 17 undef = errV er →
      (restOf 10 (bodyOf Tryz.f3)).wp Tryz.prog (bodyPost Tryz.prog Tryz.f3 (semEnd h00 w00 post)) a' w') : (restOf 9 (bodyOf Tryz.f3)).wp Tryz.prog (bodyPost Tryz.prog Tryz.f3 (semEnd h00 w00 post)) a w := by
  have hlt : r4 < w.heap.size := World.block_lt_of_cell? w ⟨r4, 0, none⟩ k0
  rw [mid3_code]
  generalize restOf 10 (bodyOf Tryz.f3) = C at hK ⊢
  generalize hQQ : bodyPost Tryz.prog Tryz.f3 (semEnd h00 w00 post) = QQ at hK ⊢
  simp only [r9_3, seqL, restOf, bodyOf, Tryz.f3, Option.getD_some]
  subst hQQ
  rw [rel_lit hr]
  have e : ((List.range 96).map f).toArray = #[f 0, f 1, .int .i64 i, .int .u8 (c.toNat : Int), .pointer (some ⟨r4, 0, none⟩), f 5, f 6, f 7, f 8, f 9, f 10, f 11, .string (bs t), .int .i64 line, f 14, f 15, f 16, f 17, f 18, f 19, f 20, f 21, f 22, f 23, f 24, f 25, f 26, f 27, f 28, f 29, f 30, f 31, f 32, f 33, f 34, f 35, f 36, f 37, f 38, f 39, f 40, f 41, f 42, f 43, f 44, f 45, f 46, f 47, f 48, f 49, f 50, f 51, f 52, f 53, f 54, f 55, f 56, f 57, f 58, f 59, f 60, f 61, f 62, f 63, f 64, f 65, f 66, f 67, f 68, f 69, f 70, f 71, f 72, f 73, f 74, f 75, f 76, f 77, f 78, f 79, f 80, f 81, f 82, f 83, f 84, f 85, f 86, f 87, f 88, f 89, f 90, f 91, f 92, f 93, f 94, f 95] := by
    rw [← f2, ← f3, ← f4, ← f12, ← f13]; rfl
  rw [e]
  clear e hr f2 f3 f4 f12 f13
  have mixed : Tryz.prog.follows .mixedOrders = true := by kernel_rfl
  have z1 : IntKind.i64.wrap (i + 1) = i + 1 := IntWalk.i64_in _ (by omega)
  have z2 : (0 : Int) ≤ i + 1 := by omega
  have z3 : i + 1 ≤ (t.length : Int) := by omega
  have z4 : ¬ (i + 1 < 0) := by omega
  have z5 : ¬ ((t.length : Int) < i + 1) := by omega
  have z6 : ¬ (i < 0) := by omega
  have z7 : ¬ ((t.length : Int) < i) := by omega
  have z8 : i ≤ (t.length : Int) := by omega
  have hcv : ∀ W : World, (∃ W0 : World, W0.heap.size = w.heap.size ∧ W = W0.alloc (.cells #[.int .u8 (c.toNat : Int)] 5)) → (convert 35 9 (.slice (some ⟨w.heap.size, 0, none⟩) 1 1)).run Tryz.prog W = .ok (.string (bs [c])) W := by
    rintro W ⟨W0, hs, rfl⟩
    refine conv_one _ _ _ ?_
    rw [← hs]; simp
  go_wp2
  have hc1 : (convert 35 9 (.slice (some ⟨w.heap.size, 0, none⟩) 1 1)).run Tryz.prog (w.alloc (.cells #[.int .u8 (c.toNat : Int)] 5)).drew = .ok (.string (bs [c])) (w.alloc (.cells #[.int .u8 (c.toNat : Int)] 5)).drew := by
    refine conv_one _ _ _ ?_
    simp
  have hc0 : (convert 35 9 (.slice (some ⟨w.heap.size, 0, none⟩) 1 1)).run Tryz.prog (w.alloc (.cells #[.int .u8 (c.toNat : Int)] 5)) = .ok (.string (bs [c])) (w.alloc (.cells #[.int .u8 (c.toNat : Int)] 5)) := by
    refine conv_one _ _ _ ?_
    simp
  clear hcv
  rename_i K hKK
  have hb1 : Below w.heap.size w (w.alloc (.cells #[.int .u8 (c.toNat : Int)] 5)).drew := (show Below w.heap.size w (w.alloc (.cells #[.int .u8 (c.toNat : Int)] 5)) from (Below.refl _ w).alloc (Nat.le_refl _) _).drew
  have hS := hcall _ hb1
  go_region_with (go_at_call 14; refine hS.mono ?_; rintro e w2 ⟨p, m, er, rfl, hR⟩)
  all_goals (refine hKK _ _ (hK _ _ p m er hR ?_ ?_ ?_ ?_ ?_) <;> kernel_rfl)

end Go.Proofs.YtnppmcgmmdcpiaaGreatDoor
