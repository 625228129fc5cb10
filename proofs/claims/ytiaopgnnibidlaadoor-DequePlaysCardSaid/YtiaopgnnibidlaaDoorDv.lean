import Derived.Test.YtiaopgnnibidlaaDoorDu
namespace Go.Proofs.YtiaopgnnibidlaaDoor
open Go.Eng
set_option maxRecDepth 20000
def dPush (h : Nat → Int) (v : Int) : (Nat → Int) × Int := if ¬ (0 ≤ v ∧ v ≤ 1000) then (h, 1) else if h (0 * 4) ≠ 0 then (h, 7) else (dBegin h 0 1 v, 0)
theorem dq_push_c {p n : Nat} {v : Int} {f h : Nat → Int} {L own : List Ent} {ro : Addr → Option Value} {post : Value → H → Prop} (A C : List Ent) (hown : own = A ++ (L ++ C)) (hs : DqAt p n f h L)
    (hk : ∀ L', DqAt p n f (dPush h v).1 L' → post (errV (eno 61 (dPush h v).2)) ⟨A ++ (L' ++ C), ro⟩) :
    SemCall Tryd.prog 21 (List.toArray [.pointer (some (Addr.mk p 0 none)), .int .i64 v]) ⟨own, ro⟩ post := by
  refine f21_call _ _ _ post ?_
  have h1 := hs.1
  unfold dPush at hk
  refine within_c ⟨_, rfl, VIf_nb (fun hx => ?_) (fun hx => ?_)⟩
  · rw [if_pos (of_decide_eq_false hx)] at hk
    subst hown
    exact ret (hk L hs)
  · rw [if_neg (not_not_intro (of_decide_eq_true hx))] at hk
    refine dq_begin_c (q := 0) A C hown hs (by omega) (fun L' h' => ⟨_, rfl, ret ?_⟩)
    by_cases h0 : h (0 * 4) ≠ 0
    · rw [if_pos h0] at h' ⊢; rw [if_pos h0] at hk; exact hk L' h'
    · rw [if_neg h0] at h' ⊢; rw [if_neg h0] at hk; exact hk L' h'
def dPop (h : Nat → Int) : (Nat → Int) × Int := if h (0 * 4) ≠ 0 then (h, 7) else (dBegin h 0 4 0, 0)
theorem dq_pop_c {p n : Nat} {f h : Nat → Int} {L own : List Ent} {ro : Addr → Option Value} {post : Value → H → Prop} (A C : List Ent) (hown : own = A ++ (L ++ C)) (hs : DqAt p n f h L)
    (hk : ∀ L', DqAt p n f (dPop h).1 L' → post (errV (eno 61 (dPop h).2)) ⟨A ++ (L' ++ C), ro⟩) :
    SemCall Tryd.prog 20 (List.toArray [.pointer (some (Addr.mk p 0 none))]) ⟨own, ro⟩ post := by
  refine f20_call _ _ post ?_
  have h1 := hs.1
  unfold dPop at hk
  refine dq_begin_c (q := 0) A C hown hs (by omega) (fun L' h' => ⟨_, rfl, ret ?_⟩)
  by_cases h0 : h (0 * 4) ≠ 0
  · rw [if_pos h0] at h' ⊢; rw [if_pos h0] at hk; exact hk L' h'
  · rw [if_neg h0] at h' ⊢; rw [if_neg h0] at hk; exact hk L' h'
def dSteal (n : Nat) (h : Nat → Int) (q : Int) : (Nat → Int) × Int := if ¬ (1 ≤ q ∧ q ≤ (n : Int) - 1) then (h, 1) else if h (q.toNat * 4) ≠ 0 then (h, 7) else (dBegin h q.toNat 9 0, 0)
theorem dq_steal_c {p n : Nat} {q : Int} {f h : Nat → Int} {L own : List Ent} {ro : Addr → Option Value} {post : Value → H → Prop} (A C : List Ent) (hown : own = A ++ (L ++ C)) (hs : DqAt p n f h L)
    (hk : ∀ L', DqAt p n f (dSteal n h q).1 L' → post (errV (eno 61 (dSteal n h q).2)) ⟨A ++ (L' ++ C), ro⟩) :
    SemCall Tryd.prog 19 (List.toArray [.pointer (some (Addr.mk p 0 none)), .int .i64 q]) ⟨own, ro⟩ post := by
  refine f19_call _ _ _ post ?_
  unfold dSteal at hk
  have hs' := hs
  obtain ⟨h1, h4, bh, c, c1, hL⟩ := hs'
  refine ⟨_, rfl, ⟨some (Addr.mk bh 0 none), n, n⟩, ?_, ⟨by dsimp only; omega, by dsimp only; omega⟩, within_c ⟨_, rfl, VIf_nb (fun hx => ?_) (fun hx => ?_)⟩⟩
  · rw [add_mk', add_mk']
    subst hown; subst hL
    exact rdo ⟨some p, ints (rm 10 f) ++ [.slice (some (Addr.mk bh 0 none)) n n], c⟩ (by simp [dqE]) rfl rfl
  · have hx : ¬ (1 ≤ q ∧ q ≤ (n : Int) - 1) := of_decide_eq_false hx
    rw [if_pos hx] at hk
    subst hown
    exact ret (hk L hs)
  · have hx : 1 ≤ q ∧ q ≤ (n : Int) - 1 := of_decide_eq_true hx
    rw [if_neg (not_not_intro hx)] at hk
    obtain ⟨k, rfl⟩ : ∃ k : Nat, q = (k : Int) := ⟨q.toNat, by omega⟩
    rw [Int.toNat_natCast] at hk
    refine dq_begin_c (q := k) A C hown hs (by omega) (fun L' h' => ⟨_, rfl, ret ?_⟩)
    by_cases h0 : h (k * 4) ≠ 0
    · rw [if_pos h0] at h' ⊢; rw [if_pos h0] at hk; exact hk L' h'
    · rw [if_neg h0] at h' ⊢; rw [if_neg h0] at hk; exact hk L' h'
end Go.Proofs.YtiaopgnnibidlaaDoor
