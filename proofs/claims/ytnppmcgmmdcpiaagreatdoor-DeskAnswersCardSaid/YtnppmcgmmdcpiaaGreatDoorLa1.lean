
import Derived.Test.YtnppmcgmmdcpiaaGreatDoorDt
import Derived.Test.YtnppmcgmmdcpiaaGreatDoorT9
namespace Go.Proofs.YtnppmcgmmdcpiaaGreatDoor
open Go.Eng
set_option maxRecDepth 20000
theorem deskAnswers_c {s : ByteArray} {ro : Addr → Option Value} {T : Nat} (hG : HasErrT ro) (hTab : HasTab ro) (hN : HasNum ro) (hM : HasMax ro) :
    SemCall Tryz.prog 6 #[.string s] ⟨[shE 4 T 20], ro⟩ (fun v _ => v = .bool true) := by
  rw [bs_of s]
  refine f6_call _ _ _ ?_
  refine drun_c (T := T) (by simp) hG hTab hN hM (fun ro1 m1 => ⟨_, rfl, rsession_c (fun ro2 m2 => ⟨_, rfl, ret ?_⟩)⟩)
  rw [bs_beq]; simp
end Go.Proofs.YtnppmcgmmdcpiaaGreatDoor
