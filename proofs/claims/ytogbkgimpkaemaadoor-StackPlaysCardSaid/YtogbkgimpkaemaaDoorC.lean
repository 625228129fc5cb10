import Derived.Test.YtogbkgimpkaemaaDoorT
import Derived.Test.YtogbkgimpkaemaaDoorEngI
namespace Go.Proofs.YtogbkgimpkaemaaDoor
open Go.Eng
set_option maxRecDepth 20000
/-! ### what common functions do -/
set_option maxRecDepth 20000 in
theorem grows_ints : Grows Tryd.prog 29 3 1 := ⟨rfl, rfl, by decide, by decide, ⟨_, rfl, rfl, ⟨rfl, trivial⟩⟩⟩
theorem within_c {n lo hi : Int} {h : H} {post : Value → H → Prop} (hk : post (.bool (decide (lo ≤ n ∧ n ≤ hi))) h) : SemCall Tryd.prog 26 (List.toArray [.int .i64 n, .int .i64 lo, .int .i64 hi]) h post := by
  refine f26_call n lo hi h post ?_
  refine ⟨fun b h' => h' = h ∧ b = decide (lo ≤ n ∧ n ≤ hi), VIf_dec (fun hx => gi ⟨rfl, ?_⟩) (fun hx => gi ⟨rfl, ?_⟩), ?_⟩
  · have : lo ≤ n := hx; simp [this]
  · have : ¬ lo ≤ n := hx; simp [this]
  · rintro _ b h' ⟨rfl, rfl⟩; exact ret hk
end Go.Proofs.YtogbkgimpkaemaaDoor
