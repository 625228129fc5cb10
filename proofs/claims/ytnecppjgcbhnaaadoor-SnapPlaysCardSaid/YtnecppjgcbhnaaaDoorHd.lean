import Derived.Test.YtnecppjgcbhnaaaDoorRf
import Derived.Test.YtnecppjgcbhnaaaDoorEngK
namespace Go.Proofs.YtnecppjgcbhnaaaDoor
open Go.Eng
set_option maxRecDepth 20000
/-! ### hands, and words that are changed if they are as told -/
theorem within_i {n lo hi : Int} {h : H} {post : Value → H → Prop} (h1 : ¬ (lo ≤ n ∧ n ≤ hi) → post (.bool false) h) (h2 : lo ≤ n → n ≤ hi → post (.bool true) h) : SemCall Tryd.prog 35 (List.toArray [.int .i64 n, .int .i64 lo, .int .i64 hi]) h post := by
  refine within_c ?_
  by_cases h : lo ≤ n ∧ n ≤ hi
  · rw [decide_eq_true h]; exact h2 h.1 h.2
  · rw [decide_eq_false h]; exact h1 h
theorem in_i {n lo hi : Int} {h : H} {post : Value → H → Prop} (h1 : ¬ (lo ≤ n ∧ n ≤ hi) → post (.bool false) h) (h2 : lo ≤ n → n ≤ hi → post (.bool true) h) : SemCall Tryd.prog 13 (List.toArray [.int .i64 n, .int .i64 lo, .int .i64 hi]) h post := by
  refine in_c ?_
  by_cases h : lo ≤ n ∧ n ≤ hi
  · rw [decide_eq_true h]; exact h2 h.1 h.2
  · rw [decide_eq_false h]; exact h1 h
theorem hands_c {n : Int} {h : H} {post : Value → H → Prop} (h1 : ¬ (1 ≤ n ∧ n ≤ 4) → post (errV (eno 79 1)) h) (h2 : 1 ≤ n → n ≤ 4 → post (errV none) h) : SemCall Tryd.prog 39 (List.toArray [.int .i64 n]) h post := by
  refine f39_call n h post (within_i (fun hc => ?_) (fun a b => ?_))
  · exact ⟨_, rfl, VIf_nb (fun _ => ret (h1 hc)) (nomatch ·)⟩
  · exact ⟨_, rfl, VIf_nb (nomatch ·) (fun _ => ret (h2 a b))⟩
theorem cas_c {b o : Nat} {x old new : Int} {own : List Ent} {ro : Addr → Option Value} {post : Value → H → Prop} (A : List Ent) (e : Ent) (C : List Ent) (hown : own = A ++ e :: C) (hid : e.id = some b) (hx : e.cells[o]? = some (.int .i64 x))
    (h1 : x = old → post (.bool true) ⟨A ++ ⟨some b, spl e.cells o [.int .i64 new], e.cap⟩ :: C, ro⟩) (h2 : x ≠ old → post (.bool false) ⟨own, ro⟩) :
    SemCall Tryd.prog 43 (List.toArray [.pointer (some (Addr.mk b o none)), .int .i64 old, .int .i64 new]) ⟨own, ro⟩ post := by
  refine f43_call _ _ _ _ post ?_
  simp only [f43_sem, add_mk', Option.some.injEq, exists_eq_left', Nat.add_zero]
  refine ⟨x, rdo e (by subst hown; simp) hid hx, VIf_ne (fun h => ret (h2 h)) (fun h => ?_)⟩
  have := (List.getElem?_eq_some_iff.1 hx).1
  exact wro A e C ⟨rfl, trivial⟩ hown hid (by simp; omega) (ret (by rw [hid]; exact h1 h))
end Go.Proofs.YtnecppjgcbhnaaaDoor
