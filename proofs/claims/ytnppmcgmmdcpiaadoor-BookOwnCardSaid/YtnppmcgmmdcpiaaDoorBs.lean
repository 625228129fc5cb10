import Derived.WalkKit
import Derived.RegionTactic
import Derived.BigCall
import Derived.Lib.ConvBytes
import Derived.Lib.AtoiErrMem
import Derived.Lib.Strings
import Derived.Lib.Walk
import Derived.Laws.IdiomStrings
import Derived.Test.YtnppmcgmmdcpiaaDoorProg
namespace Go.Proofs.YtnppmcgmmdcpiaaDoor
open Go Go.Proofs Go.RowKit
/-! ### the sum of a line -/
def sumT (l : List UInt8) : Nat → Nat
  | 0 => 0
  | k + 1 => sumT l k + (k + 1) * (l.getD k 0).toNat
def sumB (l : List UInt8) : Nat := sumT l l.length % 9973
theorem sumT_le (l : List UInt8) : ∀ k, k ≤ 1000000 → sumT l k ≤ k * 255000255
  | 0, _ => by simp [sumT]
  | k + 1, h => by
    have h1 := sumT_le l k (by omega)
    have h2 : (l.getD k 0).toNat ≤ 255 := by have := (l.getD k 0).toNat_lt; omega
    have h3 : (k + 1) * (l.getD k 0).toNat ≤ (k + 1) * 255 := Nat.mul_le_mul_left _ h2
    rw [sumT]
    have h4 : (k + 1) * 255 ≤ 255000255 := by omega
    rw [show (k + 1) * 255000255 = k * 255000255 + 255000255 from Nat.succ_mul _ _]
    generalize (k + 1) * (l.getD k 0).toNat = q at *
    omega
theorem sum_step {l : List UInt8} {k : Nat} (h : k < 1000000) : wrap64 ((sumT l k : Int) + wrap64 (((k : Int) + 1) * ((l.getD k 0).toNat : Int))) = ((sumT l (k + 1) : Nat) : Int) := by
  have h1 := sumT_le l (k + 1) (by omega)
  rw [sumT] at h1 ⊢
  have e : ((k : Int) + 1) * ((l.getD k 0).toNat : Int) = (((k + 1) * (l.getD k 0).toNat : Nat) : Int) := by
    rw [Int.natCast_mul]; rfl
  rw [e]
  have h4 : (k + 1) * 255000255 ≤ 1000000 * 255000255 := Nat.mul_le_mul_right _ (by omega)
  generalize (k + 1) * (l.getD k 0).toNat = q at *
  generalize sumT l k = p at *
  rw [IntWalk.wrap64_in (q : Int) ⟨by omega, by omega⟩]
  rw [show (p : Int) + (q : Int) = ((p + q : Nat) : Int) by omega]
  exact IntWalk.wrap64_in _ ⟨by omega, by omega⟩

set_option maxRecDepth 100000 in
set_option maxHeartbeats 2000000 in
theorem sum_in (s : ByteArray) (hs : s.size ≤ 1000000) (w : World) :
    Calls Tryd.prog 41 #[.string s] w fun e w' => e = .returned (.int .i64 (sumB s.data.toList)) ∧ Below w.heap.size w w' := by
  have hcv := Lib.run_convert_string_bytes (P := Tryd.prog) w 9 48 5 s (u := .string) (by kernel_rfl) (by kernel_rfl) (by kernel_rfl)
  have hbw := Lib.bytesWorld_below w 5 s
  have hcell := Lib.bytesWorld_cell w 5 s
  have hl : s.data.toList.length = s.size := (Lib.size_eq s).symm
  generalize Lib.bytesWorld w 5 s = W1 at hcv hbw hcell
  go_enter Tryd.func41, Tryd.ntmps41
  go_wp2
  go_loop [3, 9] (fun n i => ∃ k : Nat, k ≤ s.size ∧ i = .int .i64 k ∧ n = .int .i64 ((sumT s.data.toList k : Nat) : Int)) (fun _ i => s.size - (intOf i).toNat)
  case atStart => exact ⟨0, Nat.zero_le _, rfl, rfl⟩
  case round =>
    obtain ⟨k, hk, rfl, rfl⟩ := hrel
    by_cases hkn : k < s.size
    · have hc := hcell k hkn
      have hst := sum_step (l := s.data.toList) (k := k) (by omega)
      have hb : (s.data.toList.getD k 0).toNat ≤ 255 := by have := (s.data.toList.getD k 0).toNat_lt; omega
      generalize (s.data.toList.getD k 0).toNat = c at hc hst hb
      clear hcell
      have hwc : wrap64 (c : Int) = (c : Int) := IntWalk.wrap64_in _ ⟨by omega, by omega⟩
      go_wp2
      exact ⟨⟨k + 1, by omega, by simp, by rw [hst]⟩, by simp [intOf]; omega⟩
    · have hke : k = s.size := by omega
      subst hke
      go_wp2
      go_ret
      refine ⟨?_, hbw⟩
      have e1 : ((sumT s.data.toList s.size % 9973 : Nat) : Int) = (sumT s.data.toList s.size : Int) % 9973 := by omega
      rw [sumB, hl, e1]
      rfl
end Go.Proofs.YtnppmcgmmdcpiaaDoor
