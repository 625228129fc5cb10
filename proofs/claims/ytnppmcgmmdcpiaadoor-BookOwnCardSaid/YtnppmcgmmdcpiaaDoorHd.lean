import Derived.Test.YtnppmcgmmdcpiaaDoorRf
namespace Go.Proofs.YtnppmcgmmdcpiaaDoor
open Go.Eng
set_option maxRecDepth 20000
/-! ### hands, and words that are changed if they are as told -/
theorem within_i {n lo hi : Int} {h : H} {post : Value → H → Prop} (h1 : ¬ (lo ≤ n ∧ n ≤ hi) → post (.bool false) h) (h2 : lo ≤ n → n ≤ hi → post (.bool true) h) : SemCall Tryd.prog 45 (List.toArray [.int .i64 n, .int .i64 lo, .int .i64 hi]) h post := by
  refine within_c ?_
  by_cases h : lo ≤ n ∧ n ≤ hi
  · rw [decide_eq_true h]; exact h2 h.1 h.2
  · rw [decide_eq_false h]; exact h1 h
end Go.Proofs.YtnppmcgmmdcpiaaDoor
