import Derived.Test.YtockhbbpcbcenaaT2
import Derived.Test.YtockhbbpcbcenaaHd
namespace Go.Proofs.Ytockhbbpcbcenaa
open Go.Eng
set_option maxRecDepth 20000
/-! ### one row of what many hands do -/
structure UHand where
  ln : Int
  deed : Int
  cell : Int
  sum : Int
structure Univ where
  cells : List Int
  deeds : List (Int × Int)
  hands : List UHand
def uhandV (h : UHand) : List Value := [.int .i64 h.ln, .int .i64 h.deed, .int .i64 h.cell, .int .i64 h.sum]
def deedV (d : Int × Int) : List Value := [.int .i64 d.1, .int .i64 d.2]
theorem uhandV_len (h : UHand) : (uhandV h).length = 4 := rfl
theorem deedV_len (d : Int × Int) : (deedV d).length = 2 := rfl
theorem grows_deeds : Grows Try.prog 71 77 2 := ⟨rfl, rfl, by decide, by decide, ⟨_, rfl, rfl, ⟨rfl, rfl, trivial⟩⟩⟩
def univE (p bc bh n : Nat) (s : SV) : Ent := ⟨some p, [.slice (some (Addr.mk bc 0 none)) 41 41, .slice s.a s.len s.cap, .slice (some (Addr.mk bh 0 none)) n n], 3⟩
def UnivAt (p : Nat) (u : Univ) (L : List Ent) : Prop :=
  ∃ bc bh n s e c1 c2, L = [univE p bc bh n s, ⟨some bc, ints u.cells, c1⟩, e, ⟨some bh, u.hands.flatMap uhandV, c2⟩] ∧ OwnsSl 2 s e (u.deeds.flatMap deedV) ∧ u.hands.length = n ∧ u.cells.length = 41

theorem univ_new_c {n : Int} {own : List Ent} {ro : Addr → Option Value} {post : Value → H → Prop}
    (h1 : ¬ (1 ≤ n ∧ n ≤ 4) → post (.tuple (List.toArray [.pointer none, errV (eno 65 1)])) ⟨own, ro⟩)
    (h2 : ∀ p L, UnivAt p ⟨List.replicate 41 0, [], List.replicate n.toNat ⟨0, 0, 0, 0⟩⟩ L → 1 ≤ n → n ≤ 4 → post (.tuple (List.toArray [.pointer (some (Addr.mk p 0 none)), errV none])) ⟨own ++ L, ro⟩) : SemCall Try.prog 18 (List.toArray [.int .i64 n]) ⟨own, ro⟩ post := by
  refine f18_call n _ post (hands_c (fun hc => ⟨_, rfl, VIf_nerr (fun _ => ret (h1 hc)) (nomatch ·)⟩) (fun n1 n2 => ⟨none, rfl, VIf_nnil ?_⟩))
  have key : ∀ rc rh rp c1 c2, UnivAt rp ⟨List.replicate 41 0, [], List.replicate n.toNat ⟨0, 0, 0, 0⟩⟩ ([univE rp rc rh n.toNat ⟨none, 0, 0⟩, ⟨some rc, repl 41 [.int .i64 0], c1⟩] ++ ⟨none, [], 0⟩ :: [⟨some rh, repl n.toNat (uhandV ⟨0, 0, 0, 0⟩), c2⟩]) := fun rc rh rp c1 c2 =>
    ⟨rc, rh, n.toNat, ⟨none, 0, 0⟩, ⟨none, [], 0⟩, c1, c2, by rw [repl_ints, repl_rows]; rfl, OwnsSl.nil 2, by simp, by simp⟩
  refine ⟨⟨by decide, by decide, by decide, by decide, fun rc _ => ⟨by omega, by omega, by omega, by omega, fun rh _ rp _ => ?_⟩⟩, ⟨by omega, by omega, by omega, by omega, fun rh _ => ⟨by decide, by decide, by decide, by decide, fun rc _ rp _ => ?_⟩⟩⟩
  · simp only [List.append_assoc]
    exact ⟨_, Gh.trans (Gh.arr (pm [_, _] [] rfl (List.Perm.refl _))) (Gh.ph [_, _] [_]), h2 rp _ (key rc rh rp _ _) n1 n2⟩
  · simp only [List.append_assoc]
    exact ⟨_, Gh.trans (Gh.arr (pm [_, _] [] rfl (pm [_] [] rfl (List.Perm.refl _)))) (Gh.ph [_, _] [_]), h2 rp _ (key rc rh rp _ _) n1 n2⟩

/-- what Begin does -/
def univBegin (u : Univ) (p add : Int) : Univ × Int :=
  if ¬ (0 ≤ p ∧ p ≤ (u.hands.length : Int) - 1) ∨ ¬ (0 ≤ add ∧ add ≤ 1000) then (u, 1)
  else match u.hands[p.toNat]? with
    | none => (u, 1)
    | some h => if h.ln ≠ 0 then (u, 7) else if u.deeds.length = 40 then (u, 4) else ({ u with deeds := u.deeds ++ [(p, add)], hands := u.hands.set p.toNat ⟨1, u.deeds.length + 1, 0, 0⟩ }, 0)
/-- what Step does -/
def univStep (u : Univ) (p : Int) : Univ × Bool × Int × Int :=
  if ¬ (0 ≤ p ∧ p ≤ (u.hands.length : Int) - 1) then (u, false, 0, 1)
  else match u.hands[p.toNat]? with
    | none => (u, false, 0, 1)
    | some h => if h.ln = 0 then (u, false, 0, 7)
      else if h.ln = 1 then ({ u with cells := if u.cells[h.cell.toNat]? = some 0 then u.cells.set h.cell.toNat h.deed else u.cells, hands := u.hands.set p.toNat { h with ln := 2 } }, false, 0, 0)
      else if h.ln = 2 then
        (if u.cells[h.cell.toNat]? = some h.deed then ({ u with hands := u.hands.set p.toNat ⟨0, 0, 0, 0⟩ }, true, h.sum, 0)
        else ({ u with hands := u.hands.set p.toNat ⟨1, h.deed, h.cell + 1, h.sum + ((u.deeds[((u.cells[h.cell.toNat]?).getD 0 - 1).toNat]?).getD (0, 0)).2⟩ }, false, 0, 0))
      else (u, false, 0, 0)
structure UHok (u : Univ) (h : UHand) : Prop where
  c0 : 0 ≤ h.cell
  c1 : h.cell ≤ 40
  s0 : 0 ≤ h.sum
  s1 : h.sum ≤ 1000000
  d : h.ln = 2 → ∀ x, u.cells[h.cell.toNat]? = some x → x ≠ h.deed → 1 ≤ x ∧ x ≤ (u.deeds.length : Int) ∧ h.cell ≤ 39
structure UOk (u : Univ) : Prop where
  n : u.hands.length ≤ 4
  d : u.deeds.length ≤ 40
  a : ∀ d ∈ u.deeds, 0 ≤ d.2 ∧ d.2 ≤ 1000
  h : ∀ h ∈ u.hands, UHok u h

theorem univ_begin_c {p : Nat} {u : Univ} {q add : Int} {L own : List Ent} {ro : Addr → Option Value} {post : Value → H → Prop} (A C : List Ent) (hown : own = A ++ (L ++ C)) (hs : UnivAt p u L) (hu : UOk u)
    (hk : ∀ L', UnivAt p (univBegin u q add).1 L' → post (errV (eno 65 (univBegin u q add).2)) ⟨A ++ (L' ++ C), ro⟩) :
    SemCall Try.prog 20 (List.toArray [.pointer (some (Addr.mk p 0 none)), .int .i64 q, .int .i64 add]) ⟨own, ro⟩ post := by
  refine lift A C hown (Q := fun L' => UnivAt p (univBegin u q add).1 L') ?_ hk
  clear hk hown post
  intro post hk
  refine f20_call _ _ _ _ post ?_
  obtain ⟨n4, d40, -, -⟩ := hu
  obtain ⟨bc, bh, n, s, e, c1, c2, rfl, ho, hn, hc⟩ := hs
  have hsl := ho.rows_len deedV_len (by decide)
  simp only [f20_sem, f20_J1, add_mk', Option.some.injEq, exists_eq_left', Nat.zero_add, Nat.add_zero]
  refine join_b (h := ⟨[univE p bc bh n s, ⟨some bc, ints u.cells, c1⟩, e, ⟨some bh, u.hands.flatMap uhandV, c2⟩], ro⟩) (decide (¬ (0 ≤ q ∧ q ≤ (u.hands.length : Int) - 1) ∨ ¬ (0 ≤ add ∧ add ≤ 1000))) ?_ ?_
  · refine ⟨⟨some (Addr.mk bh 0 none), n, n⟩, rdo _ (.head _) rfl rfl, ⟨by dsimp only; omega, by dsimp only; omega⟩, within_i (fun hx => ⟨_, rfl, VIf_nb (fun _ => gi ⟨rfl, ?_⟩) (nomatch ·)⟩) (fun x1 x2 => ⟨_, rfl, VIf_nb (nomatch ·) (fun _ => within_c ⟨_, rfl, gi ⟨rfl, ?_⟩⟩)⟩)⟩
    · rw [← hn] at hx
      exact (decide_eq_true (.inl hx)).symm
    · simp only at x2
      rw [← hn] at x2
      by_cases ha : 0 ≤ add ∧ add ≤ 1000
      · rw [decide_eq_true ha, decide_eq_false (by omega)]; rfl
      · rw [decide_eq_false ha, decide_eq_true (.inr ha)]; rfl
  refine VIf_dec (fun hx => ?_) (fun hx => ?_)
  · rw [univBegin, if_pos hx] at hk
    exact ret (hk _ ⟨bc, bh, n, s, e, c1, c2, rfl, ho, hn, hc⟩)
  rw [univBegin, if_neg hx] at hk
  have hq : q.toNat < u.hands.length := by omega
  obtain ⟨h, hh⟩ : ∃ h, u.hands[q.toNat]? = some h := ⟨_, List.getElem?_eq_getElem hq⟩
  rw [hh] at hk
  simp only at hk
  refine ⟨⟨some (Addr.mk bh 0 none), n, n⟩, rdo _ (.head _) rfl rfl, Addr.mk bh 0 none, rfl, by omega, by simp only; omega, ?_⟩
  simp only [add_mk', Nat.zero_add, Nat.add_zero]
  refine ⟨h.ln, rd_row uhandV_len ⟨some bh, u.hands.flatMap uhandV, c2⟩ (by simp) rfl rfl hh (j := 0) rfl rfl, VIf_ne (fun h0 => ?_) (fun h0 => ?_)⟩
  · rw [if_pos h0] at hk
    exact ret (hk _ ⟨bc, bh, n, s, e, c1, c2, rfl, ho, hn, hc⟩)
  rw [if_neg (not_not_intro h0)] at hk
  refine ⟨s, rdo _ (.head _) rfl rfl, VIf_eq (fun hf => ?_) (fun hf => ?_)⟩
  · rw [if_pos (by omega)] at hk
    exact ret (hk _ ⟨bc, bh, n, s, e, c1, c2, rfl, ho, hn, hc⟩)
  rw [if_neg (by omega)] at hk
  refine ⟨s, rdo _ (.head _) rfl rfl, app_row grows_deeds (vs := deedV (q, add)) rfl ⟨rfl, rfl, trivial⟩ [univE p bc bh n s, ⟨some bc, ints u.cells, c1⟩] e [⟨some bh, u.hands.flatMap uhandV, c2⟩] rfl ho (by omega) (fun s' e' o' hl' => ?_)⟩
  refine wro [] (univE p bc bh n s) [_, _, _] ⟨rfl, trivial⟩ rfl rfl (by simp [univE]) ?_
  refine ⟨⟨some (Addr.mk bh 0 none), n, n⟩, rdo (univE p bc bh n s') (.head _) rfl rfl, s', rdo (univE p bc bh n s') (.head _) rfl rfl, Addr.mk bh 0 none, rfl, by omega, by simp only; omega, rfl, rfl, ?_⟩
  simp only [add_mk', Nat.zero_add, Nat.add_zero]
  refine wr_rows uhandV_len [univE p bc bh n s', _, _] ⟨some bh, u.hands.flatMap uhandV, c2⟩ [] ⟨1, u.deeds.length + 1, 0, 0⟩ ⟨rfl, rfl, rfl, rfl, trivial⟩ rfl rfl rfl hh (j := 0) rfl (by simp) ?_ (ret (hk _ ⟨bc, bh, n, s', e', c1, c2, rfl, ?_, by simpa using hn, hc⟩))
  · simp only [spl, uhandV, hl', hsl]; simp
  · simpa [List.flatMap_append] using o'

end Go.Proofs.Ytockhbbpcbcenaa
