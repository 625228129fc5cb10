import Derived.Test.YtogbkgimpkaemaaSb
import Derived.Test.YtogbkgimpkaemaaT2
import Derived.Test.YtogbkgimpkaemaaEngL
namespace Go.Proofs.Ytogbkgimpkaemaa
open Go.Eng
set_option maxRecDepth 20000
/-! ### a stack without tags is spoilt -/
def spoScript : List (List Int) := [[1, 7], [1], [1], [1, 8], [1], [1], [0, (-1)], [0], [0], [1, (-1)], [1], [1], [1], [2, 9], [1, (-1)], [1], [1], [1], [2], [2], [0], [0], [0], [0], [0, (-1)], [0], [0], [0]]
/-- one line of the script -/
def spoOne (st : SK × List Int) (l : List Int) : SK × List Int :=
  let s1 := if l.length = 2 ∧ gI l 1 ≥ 0 then (kPush 3 st.1 (gI l 0) (gI l 1)).1 else st.1
  let s2 := if l.length = 2 ∧ gI l 1 < 0 then (kPop 3 s1 (gI l 0)).1 else s1
  if l.length = 1 then (if s2.h ((gI l 0).toNat * 5 + 0) = 0 then (s2, st.2) else ((kStep s2 (gI l 0).toNat).1, if (kStep s2 (gI l 0).toNat).2.1 = true ∧ gI l 0 = 0 then st.2 ++ [(kStep s2 (gI l 0).toNat).2.2] else st.2)) else (s2, st.2)
def spo (tg : Bool) : Nat → SK × List Int
  | 0 => (k0 tg, [])
  | k + 1 => spoOne (spo tg k) (((spoScript[k]?).getD []))
theorem KI.push' {n : Nat} {s : SK} {i q v : Int} (h : KI n s i) : KI n (kPush n s q v).1 i := by
  unfold kPush
  split
  · exact h
  split
  · exact h
  split
  · exact h
  · exact h.put _ _ (by assumption)
theorem KI.pop' {n : Nat} {s : SK} {i q : Int} (h : KI n s i) : KI n (kPop n s q).1 i := by
  unfold kPop
  split
  · exact h
  · exact h.pop _
theorem spoScript_ok : ∀ l ∈ spoScript, 0 ≤ gI l 0 ∧ gI l 0 ≤ 2 := by decide
theorem spo_mid {tg : Bool} {k : Nat} {l : List Int} (h : KI 3 (spo tg k).1 k) : KI 3 (if l.length = 2 ∧ gI l 1 < 0 then (kPop 3 (if l.length = 2 ∧ gI l 1 ≥ 0 then (kPush 3 (spo tg k).1 (gI l 0) (gI l 1)).1 else (spo tg k).1) (gI l 0)).1 else (if l.length = 2 ∧ gI l 1 ≥ 0 then (kPush 3 (spo tg k).1 (gI l 0) (gI l 1)).1 else (spo tg k).1)) k := by
  have h1 : KI 3 (if l.length = 2 ∧ gI l 1 ≥ 0 then (kPush 3 (spo tg k).1 (gI l 0) (gI l 1)).1 else (spo tg k).1) k := by
    split
    · exact h.push'
    · exact h
  split
  · exact h1.pop'
  · exact h1
theorem spo_last {s2 : SK} {out a : List Int} {l : List Int} {k : Nat} (ih : KI 3 s2 k) (l0 : 0 ≤ gI l 0) (l1 : gI l 0 ≤ 2) : KI 3 (if l.length = 1 then (if s2.h ((gI l 0).toNat * 5 + 0) = 0 then (s2, out) else ((kStep s2 (gI l 0).toNat).1, a)) else (s2, out)).1 ((k + 1 : Nat) : Int) := by
  have : ((k + 1 : Nat) : Int) = (k : Int) + 1 := by omega
  rw [this]
  by_cases c1 : l.length = 1
  · rw [if_pos c1]
    by_cases c2 : s2.h ((gI l 0).toNat * 5 + 0) = 0
    · rw [if_pos c2]; exact ih.mono (by omega)
    · rw [if_neg c2]; exact ih.step (by omega)
  · rw [if_neg c1]; exact ih.mono (by omega)
theorem spo_inv (tg : Bool) : ∀ k, k ≤ 28 → KI 3 (spo tg k).1 k
  | 0, _ => KI.start 3 tg
  | k + 1, hk => by
    have ih := spo_mid (l := ((spoScript[k]?).getD [])) (spo_inv tg k (by omega))
    have hl : ((spoScript[k]?).getD []) ∈ spoScript := by
      have : k < spoScript.length := by show k < 28; omega
      rw [List.getElem?_eq_getElem this]; exact List.getElem_mem this
    obtain ⟨l0, l1⟩ := spoScript_ok _ hl
    show KI 3 (spoOne (spo tg k) (((spoScript[k]?).getD []))).1 (k + 1 : Nat)
    exact spo_last ih l0 l1
theorem spo_true : (spo true 28).2 = [9, -1] := by decide +kernel
theorem spo_false : (spo false 28).2 ≠ [9, -1] := by decide +kernel
end Go.Proofs.Ytogbkgimpkaemaa
