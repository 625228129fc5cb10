import Derived.Test.YtockhbbpcbcenaaC0
import Derived.Test.YtockhbbpcbcenaaUs
namespace Go.Proofs.Ytockhbbpcbcenaa
open Go.Eng
set_option maxRecDepth 20000
/-! ### TopSum, plain -/
structure UIdle (u : Univ) (D : Nat) (sum : Int) : Prop where
  I : UInv u D
  n : u.hands.length = 4
  d : u.deeds.length = D
  s : usum u.deeds u.cells D = sum
  i : ∀ (p : Nat) h, u.hands[p]? = some h → h.ln = 0
structure UBusy (u : Univ) (p D : Nat) (sum add : Int) (m : Nat) : Prop where
  I : UInv u m
  n : u.hands.length = 4
  d : u.deeds.length = D + 1
  s : usum u.deeds u.cells D = sum
  a : uadd u.deeds ((D : Int) + 1) = add
  o : ∀ (q : Nat) h, u.hands[q]? = some h → q ≠ p → h.ln = 0
  h : ∃ h, u.hands[p]? = some h ∧ h.ln ≠ 0 ∧ h.deed = (D : Int) + 1 ∧ ((m = D ∧ ∀ i : Nat, u.cells[i]? ≠ some h.deed) ∨ (m = D + 1 ∧ u.cells[D]? = some h.deed))
theorem UIdle.begin {u : Univ} {D p : Nat} {sum add : Int} (S : UIdle u D sum) (hD : D < 8) (hp : p < 4) (ha : 0 ≤ add ∧ add ≤ 1000) : ∃ u', univBegin u p add = (u', 0) ∧ UBusy u' p D sum add D ∧ uV u' p ≤ 2 * (D + 1) := by
  have hn := S.n
  have hd := S.d
  obtain ⟨h, hh⟩ : ∃ h, u.hands[p]? = some h := ⟨_, List.getElem?_eq_getElem (by omega)⟩
  have hl := S.i p h hh
  have e' : univBegin u p add = ({ u with deeds := u.deeds ++ [((p : Int), add)], hands := u.hands.set (p : Int).toNat ⟨1, u.deeds.length + 1, 0, 0⟩ }, 0) := by
    rw [univBegin, if_neg (by omega), Int.toNat_natCast, hh]
    simp only
    rw [if_neg (not_not_intro hl), if_neg (by omega)]
  have us : usum (u.deeds ++ [((p : Int), add)]) u.cells D = usum u.deeds u.cells D := usum_app (fun i x hx hi => S.I.z0 i x hx hi) (by have := S.I.c; have := S.I.m1; omega)
  rcases S.I.begin (p : Int) add with ⟨k, hk, e⟩ | ⟨_, _, _, h2, hh2, hl2, e, i1⟩
  · exact absurd (congrArg Prod.snd (e.symm.trans e')) hk
  rw [Int.toNat_natCast] at e' i1
  refine ⟨_, e', ⟨i1, by simpa using hn, by simp [hd], by rw [← S.s]; exact us, by simp [uadd, hd], fun q g hg hq => ?_, ⟨1, u.deeds.length + 1, 0, 0⟩, List.getElem?_set_self (by omega), by simp, by simp [hd], .inl ⟨rfl, fun i hc => ?_⟩⟩, ?_⟩
  · rcases set_cases hg with ⟨rfl, _⟩ | ⟨_, hg⟩
    · exact absurd rfl hq
    · exact S.i q g hg
  · simp only at hc
    by_cases hi : i < D
    · have := S.I.z0 i _ hc hi; omega
    · have := S.I.z1 i _ hc (by omega); omega
  · rw [uV_of (y := ⟨1, u.deeds.length + 1, 0, 0⟩) (List.getElem?_set_self (by omega)), if_neg (by simp), if_pos rfl]
    simp [hd]
theorem UBusy.step {u : Univ} {p D m : Nat} {sum add : Int} (S : UBusy u p D sum add m) (hp : p < 4) : (∃ u' m', univStep u p = (u', false, 0, 0) ∧ UBusy u' p D sum add m' ∧ uV u' p + 1 ≤ uV u p) ∨ (∃ u', univStep u p = (u', true, sum, 0) ∧ UIdle u' (D + 1) (sum + add)) := by
  have hn := S.n
  have hd := S.d
  obtain ⟨h0, hh0, hl0, hdd, hcase⟩ := S.h
  have hq : p < u.hands.length := by omega
  have A := S.I.ha h0 (List.mem_of_getElem? hh0) hl0
  have hm1 := S.I.m1
  have hcl := S.I.c
  have oth : ∀ {y : UHand} (q : Nat) g, (u.hands.set p y)[q]? = some g → q ≠ p → g.ln = 0 := fun {y} q g hg hne => by
    rcases set_cases hg with ⟨rfl, _⟩ | ⟨_, hg⟩
    · exact absurd rfl hne
    · exact S.o q g hg hne
  rcases S.I.step (p : Int) with ⟨c, hc, hw, e⟩ | ⟨_, _, h, hh, hl, hc, e, hI⟩ | ⟨_, _, h, hh, hl, hc, e, hI⟩ | ⟨_, _, h, g, hh, hl, hc, hne, ⟨g1, g2, g3⟩, e, hI⟩ | ⟨_, _, h, hh, hl, hc, hd1, hs, e, hI⟩
  · exfalso
    rcases hw with hw | ⟨g, g1, g2⟩
    · omega
    · rw [Int.toNat_natCast, hh0] at g1; cases g1; exact hl0 g2
  all_goals rw [Int.toNat_natCast] at hh e hI
  all_goals (rw [hh0] at hh; cases hh)
  · have l1 := A.l1 hl
    obtain ⟨hmD, _⟩ | ⟨_, hx⟩ := hcase
    rotate_left
    · exact absurd hx (l1 D)
    subst hmD
    refine .inl ⟨_, m + 1, e, ⟨hI, by simpa using hn, hd, by rw [← S.s]; exact usum_set (Nat.le_refl _), S.a, oth, _, List.getElem?_set_self hq, by simp, hdd, .inr ⟨rfl, List.getElem?_set_self (by have := S.I.d; omega)⟩⟩, ?_⟩
    rw [uV_at hq, uV_of hh0, if_neg (by simp), if_neg (by simp), if_neg hl0, if_pos hl]
    dsimp only
    omega
  · have l1 := A.l1 hl
    obtain ⟨hmD, _⟩ | ⟨_, hx⟩ := hcase
    rotate_left
    · exact absurd hx (l1 D)
    subst hmD
    refine .inl ⟨_, m, e, ⟨hI, by simpa using hn, hd, S.s, S.a, oth, _, List.getElem?_set_self hq, by simp, hdd, .inl ⟨rfl, l1⟩⟩, ?_⟩
    rw [uV_at hq, uV_of hh0, if_neg (by simp), if_neg (by simp), if_neg hl0, if_pos hl]
    dsimp only
    omega
  · obtain ⟨hmD, hun⟩ | ⟨_, hx⟩ := hcase
    rotate_left
    · have := (A.l2 hl).2 D hx
      rw [this] at hx
      exact absurd hx hne
    subst hmD
    refine .inl ⟨_, m, e, ⟨hI, by simpa using hn, hd, S.s, S.a, oth, _, List.getElem?_set_self hq, by omega, by rw [g2]; exact hdd, .inl ⟨rfl, by rw [g2]; exact hun⟩⟩, ?_⟩
    rw [uV_at hq, uV_of hh0, if_neg (by omega), if_pos g1, if_neg hl0, if_neg (by omega)]
    have := A.c0
    omega
  · obtain ⟨hmD, hun⟩ | ⟨hmD, hx⟩ := hcase
    · exact absurd hd1 (hun _)
    have hcD := (A.l2 hl).2 D hx
    subst hmD
    have hsum : h0.sum = sum := by rw [hs, ← hcD, S.s]
    rw [hsum] at e
    refine .inr ⟨_, e, ⟨hI, by simpa using hn, hd, ?_, fun q g hg => ?_⟩⟩
    · show usum u.deeds u.cells (D + 1) = _
      simp only [usum]
      rw [hx, S.s, Option.getD_some, hdd, S.a]
    · by_cases hqp : q = p
      · subst hqp
        simp only at hg
        rw [List.getElem?_set_self hq] at hg
        cases hg; rfl
      · exact oth q g hg hqp
theorem UIdle.order {u : Univ} {D : Nat} {sum : Int} (S : UIdle u D sum) : (univOrder u.cells).length = D := by
  have hc := S.I.c
  have hm := S.I.m1
  have key : ∀ (l : List Int) (m : Nat), m ≤ l.length → (∀ (i : Nat) x, l[i]? = some x → i < m → 1 ≤ x) → (∀ (i : Nat) x, l[i]? = some x → m ≤ i → x = 0) → (univOrder l).length = m := by
    intro l
    induction l with
    | nil => intro m hm _ _; simp at hm; subst hm; rfl
    | cons x l ih =>
      intro m hm h1 h2
      unfold univOrder
      cases m with
      | zero => rw [if_pos (h2 0 x rfl (by omega))]; rfl
      | succ m =>
        have := h1 0 x rfl (by omega)
        rw [if_neg (by omega), List.length_cons, ih m (by simpa using hm) (fun i y hy hi => h1 (i + 1) y (by simpa using hy) (by omega)) (fun i y hy hi => h2 (i + 1) y (by simpa using hy) (by omega))]
  exact key u.cells D (by omega) (fun i x hx hi => (S.I.z0 i x hx hi).1) S.I.z1
theorem UInv.cellb {u : Univ} {m : Nat} (h : UInv u m) : ∀ x ∈ u.cells, 0 ≤ x ∧ x ≤ 1000 := by
  intro x hx
  obtain ⟨i, hi⟩ := List.mem_iff_getElem?.1 hx
  have hd := h.d
  by_cases him : i < m
  · have := h.z0 i x hi him; omega
  · have := h.z1 i x hi (by omega); omega
/-! ### one who adds for all, alone -/
theorem dsum_none {D D' a : Nat → Int} : ∀ {k}, (∀ q, q < k → D' q ≠ D q + 1) → dsum D D' a k = 0
  | 0, _ => rfl
  | k + 1, h => by
    simp only [dsum]
    rw [dsum_none (k := k) (fun q hq => h q (by omega)), if_neg (h k (by omega))]; rfl
theorem dsum_one {D D' a : Nat → Int} {p : Nat} : ∀ {k}, p < k → D' p = D p + 1 → (∀ q, q < k → q ≠ p → D' q ≠ D q + 1) → dsum D D' a k = a p
  | 0, h, _, _ => by omega
  | k + 1, h, h1, h2 => by
    simp only [dsum]
    by_cases hk : p = k
    · subst hk
      rw [dsum_none (fun q hq => h2 q (by omega) (by omega)), if_pos h1, Int.zero_add]
    · rw [dsum_one (k := k) (by omega) h1 (fun q hq hne => h2 q (by omega) hne), if_neg (h2 k (by omega) (Ne.symm hk)), Int.add_zero]
structure CIdle (c : CS) (sum : Int) : Prop where
  n : c.n = 4
  l : ∀ p, p < 4 → c.hL p = 0
  s : c.S c.W = sum
structure CBusy (c : CS) (p : Nat) (sum add : Int) : Prop where
  n : c.n = 4
  o : ∀ q, q < 4 → q ≠ p → c.hL q = 0
  st : ((c.hL p = 1 ∨ c.hL p = 2 ∨ c.hL p = 5) ∧ c.S c.W = sum ∧ c.hN p = c.D c.W p + 1 ∧ c.hA p = add) ∨
    ((c.hL p = 6 ∨ c.hL p = 7) ∧ c.S c.W = sum ∧ c.G (1 - c.W) p = sum ∧ c.S (1 - c.W) = sum + add) ∨
    ((c.hL p = 8 ∨ c.hL p = 4) ∧ c.S c.W = sum + add ∧ c.G c.W p = sum ∧ c.hN p = c.D c.W p)
def cmu (l : Int) : Nat := if l = 1 then 7 else if l = 2 then 6 else if l = 5 then 5 else if l = 6 then 4 else if l = 7 then 3 else if l = 8 then 2 else 1
theorem CIdle.begin {c : CS} {p : Nat} {sum add : Int} (S : CIdle c sum) : CBusy { c with hL := upd1 c.hL p 1, hA := upd1 c.hA p add, hN := upd1 c.hN p (c.D c.W p + 1) } p sum add :=
  ⟨S.n, fun q hq hne => by dsimp only; rw [upd1_ne hne]; exact S.l q hq, .inl ⟨.inl (upd1_same _ _ _), S.s, upd1_same _ _ _, upd1_same _ _ _⟩⟩
theorem CBusy.step {c c' : CS} {i : Int} {p : Nat} {sum add g : Int} {b : Bool} (S : CBusy c p sum add) (h : CI c i) (h' : CI c' (i + 1)) (hp : p < 4) (hl : CLine c p c' b g) (hG : CGs c p c') :
    (b = false ∧ CBusy c' p sum add ∧ c'.hL p ≠ 0 ∧ cmu (c'.hL p) + 1 ≤ cmu (c.hL p)) ∨ (b = true ∧ g = sum ∧ CIdle c' (sum + add)) := by
  obtain ⟨n, o, st⟩ := S
  have hw := h.w
  have hne : ¬ c.W = 1 - c.W := by omega
  have oth : ∀ {v : Int}, ∀ q, q < 4 → q ≠ p → upd1 c.hL p v q = 0 := fun {v} q hq hqp => by rw [upd1_ne hqp]; exact o q hq hqp
  have noK : c.hL p < 5 → c.K = 0 := fun h5 => Classical.byContradiction fun hK => by
    have k0 := h.k0
    have k4 := h.k4
    have := (h.k (c.K - 1).toNat (by omega)).2 (by omega)
    by_cases hq : (c.K - 1).toNat = p
    · rw [hq] at this; omega
    · have := o _ (by omega) hq; omega
  have nad : ∀ q, q < 4 → q ≠ p → c.aN q ≠ c.D c.W q + 1 := fun q hq hqp he => by
    have := o q hq hqp
    rcases h.aq q hq with b1 | ⟨_, b2⟩ <;> omega
  cases hl with
  | ask h1 =>
    rcases st with ⟨_, s2, s3, s4⟩ | ⟨s1, _⟩ | ⟨s1, _⟩ <;> (try omega)
    refine .inl ⟨rfl, ⟨n, oth, .inl ⟨.inr (.inl (upd1_same _ _ _)), s2, s3, s4⟩⟩, by dsimp only; rw [upd1_same]; omega, by dsimp only; rw [upd1_same, h1]; decide⟩
  | lock h1 h2 =>
    rcases st with ⟨_, s2, s3, s4⟩ | ⟨s1, _⟩ | ⟨s1, _⟩ <;> (try omega)
    refine .inl ⟨rfl, ⟨n, oth, .inl ⟨.inr (.inr (upd1_same _ _ _)), s2, s3, s4⟩⟩, by dsimp only; rw [upd1_same]; omega, by dsimp only; rw [upd1_same, h1]; decide⟩
  | two h1 h2 => exact absurd (noK (by omega)) h2
  | wait h1 h2 => rcases st with ⟨s1, _⟩ | ⟨s1, _⟩ | ⟨s1, _⟩ <;> omega
  | three h1 h2 => rcases st with ⟨s1, _⟩ | ⟨s1, _⟩ | ⟨s1, _⟩ <;> omega
  | again h1 h2 =>
    rcases st with ⟨s1, _⟩ | ⟨s1, _⟩ | ⟨s1, _, _, s4⟩ <;> (try omega)
  | fin h1 h2 =>
    rcases st with ⟨s1, _⟩ | ⟨s1, _⟩ | ⟨s1, s2, s3, s4⟩ <;> (try omega)
    refine .inr ⟨rfl, s3, n, fun q hq => ?_, s2⟩
    dsimp only
    by_cases hqp : q = p
    · subst hqp; exact upd1_same _ _ _
    · exact oth q hq hqp
  | add s h1 =>
    rcases st with ⟨_, s2, s3, s4⟩ | ⟨s1, _⟩ | ⟨s1, _⟩ <;> (try omega)
    obtain ⟨g1, g2⟩ := hG h1
    obtain ⟨k1, k2⟩ := h.ask p hp (by omega)
    have hm := (h'.mid p hp (.inl (upd1_same _ _ _))).1.s
    have e1 := g1 p hp
    have e2 := g2
    dsimp only at hm e1 e2
    rw [if_pos rfl, if_neg hne] at hm
    refine .inl ⟨rfl, ⟨n, oth, .inr (.inl ⟨.inl (upd1_same _ _ _), by dsimp only; rw [if_neg hne]; exact s2, ?_, ?_⟩)⟩, by dsimp only; rw [upd1_same]; omega, by dsimp only; rw [upd1_same, h1]; decide⟩
    · dsimp only
      rw [e1, if_pos ⟨hp, by omega⟩, dsum_none (fun q hq => nad q (by omega) (by omega)), s2, Int.add_zero]
    · dsimp only
      rw [if_pos rfl, hm, s2]
      congr 1
      rw [dsum_one (p := p) hp, k2, s4]
      · rw [if_neg hne, e2 p hp, if_pos ⟨hp, by omega⟩]
      · intro q hq hqp
        rw [if_neg hne, e2 q hq, if_neg (fun hh => nad q hq hqp hh.2)]
        omega
  | copy s h1 =>
    rcases st with ⟨s1, _⟩ | ⟨s1, s2, s3, s4⟩ | ⟨s1, _⟩ <;> (try omega)
    refine .inl ⟨rfl, ⟨n, oth, .inr (.inl ⟨.inr (upd1_same _ _ _), s2, s3, s4⟩)⟩, by dsimp only; rw [upd1_same]; omega, by dsimp only; rw [upd1_same, h1]; decide⟩
  | flip h1 =>
    rcases st with ⟨s1, _⟩ | ⟨s1, s2, s3, s4⟩ | ⟨s1, _⟩ <;> (try omega)
    refine .inl ⟨rfl, ⟨n, oth, .inr (.inr ⟨.inl (upd1_same _ _ _), s4, s3, (h.mid p hp (.inr h1)).2.symm⟩)⟩, by dsimp only; rw [upd1_same]; omega, by dsimp only; rw [upd1_same, h1]; decide⟩
  | free h1 =>
    rcases st with ⟨s1, _⟩ | ⟨s1, _⟩ | ⟨s1, s2, s3, s4⟩ <;> (try omega)
    refine .inl ⟨rfl, ⟨n, oth, .inr (.inr ⟨.inr (upd1_same _ _ _), s2, s3, s4⟩)⟩, by dsimp only; rw [upd1_same]; omega, by dsimp only; rw [upd1_same, h1]; decide⟩
theorem CIdle.crash {c : CS} {i : Int} {sum : Int} (S : CIdle c sum) (h : CI c i) (keep : Bool) : CIdle (csCrash c keep) sum :=
  ⟨S.n, fun _ _ => rfl, by rw [← S.s]; cases keep <;> simp [csCrash, h.eS]⟩
theorem cv_begin_ok {p k : Nat} {c : CS} {i add : Int} {L own : List Ent} {ro : Addr → Option Value} {post : Value → H → Prop} (A C : List Ent) (hown : own = A ++ (L ++ C)) (hs : CV p c i L) (hi : i ≤ 900) (k4 : k < 4) (kn : (k : Int) < c.n) (h0 : c.hL k = 0) (ha : 0 ≤ add ∧ add ≤ 1000)
    (hk : ∀ L', CV p { c with hL := upd1 c.hL k 1, hA := upd1 c.hA k add, hN := upd1 c.hN k (c.D c.W k + 1) } (i + 1) L' → post (errV (eno 65 0)) ⟨A ++ (L' ++ C), ro⟩) :
    SemCall Try.prog 11 (List.toArray [.pointer (some (Addr.mk p 0 none)), .int .i64 (k : Int), .int .i64 add]) ⟨own, ro⟩ post := by
  obtain ⟨m, hm, hr, h⟩ := hs
  have e : (combBegin m (k : Int) add).2 = 0 := by
    unfold combBegin
    have hn := hr.n
    rw [if_neg (by omega), Int.toNat_natCast, hr.hL k k4, if_neg (not_not_intro h0)]
  refine comb_begin_c A C hown hm (hr.ok h (by omega)) (fun L' hL' => ?_)
  rw [e]
  rcases comb_begins hr h (k : Int) add with ⟨e0, _⟩ | ⟨k', hk', _, _, _, _, _, _, hr', h'⟩
  · exact absurd e e0
  · obtain rfl : k = k' := by omega
    exact hk L' ⟨_, hL', hr', h'⟩
/-- a row of ops one behind the other -/
structure SRow (os : List LOp) (sum : Int) : Prop where
  r : lruns 0 [0] os
  f : os.foldl (lgo 0) [0] = [sum]
  o : ∀ (j : Nat) x, os[j]? = some x → (0 ≤ x.hand ∧ x.hand ≤ 3) ∧ x.kind = 0 ∧ (0 ≤ x.arg ∧ x.arg ≤ 1000) ∧ x.frm = 2 * j ∧ x.too = 2 * j + 1
theorem SRow.more {os : List LOp} {sum : Int} (S : SRow os sum) {p : Nat} {add : Int} (hp : p < 4) (ha : 0 ≤ add ∧ add ≤ 1000) : SRow (os ++ [⟨p, 0, add, sum, 2 * os.length, 2 * os.length + 1⟩]) (sum + add) := by
  refine ⟨lruns_app.2 ⟨S.r, by rw [S.f]; rfl⟩, by rw [List.foldl_append, S.f]; rfl, fun j x hx => ?_⟩
  by_cases hj : j < os.length
  · rw [List.getElem?_append_left hj] at hx
    exact S.o j x hx
  · rw [List.getElem?_append_right (by omega)] at hx
    obtain ⟨h1, h2⟩ := List.getElem?_eq_some_iff.1 hx
    simp at h1
    have : j = os.length := by omega
    subst this
    simp at hx
    subst hx
    refine ⟨⟨?_, ?_⟩, rfl, ha, rfl, rfl⟩ <;> simp only <;> omega
theorem SRow.row {os : List LOp} {sum : Int} (S : SRow os sum) (h8 : os.length ≤ 8) : LOk 0 os ∧ ∃ l, lrow 0 os = some l := by
  have ht : ∀ o ∈ os, o.frm < o.too := fun o ho => by
    obtain ⟨j, hj⟩ := List.mem_iff_getElem?.1 ho
    obtain ⟨_, _, _, a, b⟩ := S.o j o hj
    omega
  have hord : ∀ {a b : Nat} (ha : a < os.length) (hb : b < os.length), a < b → os[a].too ≤ os[b].frm ∧ ¬ os[b].too ≤ os[a].frm := fun {a b} ha hb hab => by
    obtain ⟨_, _, _, a1, a2⟩ := S.o a _ (List.getElem?_eq_getElem ha)
    obtain ⟨_, _, _, b1, b2⟩ := S.o b _ (List.getElem?_eq_getElem hb)
    omega
  refine ⟨⟨by omega, by omega, h8, fun o ho => ?_, ht, ?_⟩, LSeq.row ht ⟨List.Perm.refl _, ?_, S.r⟩⟩
  · have hg := lruns_rg (m := 0) (fun _ => ⟨0, rfl, by omega, by omega⟩) (fun h => absurd rfl h) S.r (fun o ho => by
      obtain ⟨j, hj⟩ := List.mem_iff_getElem?.1 ho
      exact (S.o j o hj).2.2.1) (by omega) o ho
    obtain ⟨j, hj⟩ := List.mem_iff_getElem?.1 ho
    obtain ⟨a1, a2, a3, a4, a5⟩ := S.o j o hj
    have := (List.getElem?_eq_some_iff.1 hj).1
    exact ⟨a1, by omega, a3, hg, by omega, by omega⟩
  · rw [List.pairwise_iff_getElem]
    rintro a b ha hb hab ⟨_, h2, h3⟩
    have := hord ha hb hab
    omega
  · rw [List.pairwise_iff_getElem]
    exact fun a b ha hb hab => (hord ha hb hab).2
end Go.Proofs.Ytockhbbpcbcenaa
