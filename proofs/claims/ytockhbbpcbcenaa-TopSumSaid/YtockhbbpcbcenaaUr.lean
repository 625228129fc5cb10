import Derived.Test.YtockhbbpcbcenaaHS
import Derived.Test.YtockhbbpcbcenaaUl
namespace Go.Proofs.Ytockhbbpcbcenaa
open Go.Eng
set_option maxRecDepth 20000
/-! ### what UnivRow keeps, plain -/
def ubusy (u : Univ) (p : Nat) : Prop := ∃ h, u.hands[p]? = some h ∧ h.ln ≠ 0
def uV (u : Univ) (p : Nat) : Nat := match u.hands[p]? with
  | none => 0
  | some h => if h.ln = 0 then 0 else 2 * (u.deeds.length - h.cell.toNat) - (if h.ln = 1 then 0 else 1)
structure UR (u : Univ) (m : Nat) (os : List LOp) (lin : List Nat) (G : Nat → Int) (mine : Nat → Nat) : Prop where
  sum : hst 0 os lin = [usum u.deeds u.cells m]
  arg : ∀ (p : Nat) h, u.hands[p]? = some h → h.ln ≠ 0 → ∃ o, os[mine p]? = some o ∧ o.hand = p ∧ o.kind = 0 ∧ o.too = 0 ∧ o.arg = uadd u.deeds h.deed
  out : ∀ (p : Nat) h, u.hands[p]? = some h → h.ln ≠ 0 → (∀ i : Nat, u.cells[i]? ≠ some h.deed) → mine p ∉ lin
  pt : ∀ (p : Nat) h (i : Nat), u.hands[p]? = some h → h.ln ≠ 0 → u.cells[i]? = some h.deed → mine p ∈ lin ∧ G (mine p) = usum u.deeds u.cells i
  dl : u.deeds.length = os.length
structure US (N k : Nat) (u : Univ) (m : Nat) (os : List LOp) (lin : List Nat) (G : Nat → Int) (mine : Nat → Nat) : Prop where
  I : UInv u m
  n : u.hands.length = N
  H : HI 0 N k os lin G mine (ubusy u)
  R : UR u m os lin G mine
theorem ubusy_idle {n p : Nat} {d : List (Int × Int)} {c : List Int} : ¬ ubusy ⟨c, d, List.replicate n ⟨0, 0, 0, 0⟩⟩ p := by
  rintro ⟨h, h1, h2⟩
  simp only at h1
  rw [List.getElem?_replicate] at h1
  split at h1
  · cases h1; exact h2 rfl
  · cases h1
theorem US.start {N : Nat} (hN : N ≤ 4) (mine : Nat → Nat) : US N 0 ⟨List.replicate 41 0, [], List.replicate N ⟨0, 0, 0, 0⟩⟩ 0 [] [] (fun _ => 0) mine where
  I := UInv.start hN
  n := by simp
  H := (HI.start hN _ mine).ext (fun p _ => ⟨fun h => False.elim h, fun h => absurd h ubusy_idle⟩) (fun _ _ h => False.elim h)
  R := ⟨rfl, fun p h h1 h2 => absurd ⟨h, h1, h2⟩ ubusy_idle, fun p h h1 h2 => absurd ⟨h, h1, h2⟩ ubusy_idle, fun p h i h1 h2 => absurd ⟨h, h1, h2⟩ ubusy_idle, rfl⟩
theorem US.later {N k : Nat} {u m os lin G mine} (h : US N k u m os lin G mine) : US N (k + 1) u m os lin G mine := ⟨h.I, h.n, h.H.later (by omega), h.R⟩
theorem US.begin {N k : Nat} {u m os lin G mine} (S : US N k u m os lin G mine) {p : Nat} {add : Int} {h : UHand} (hp : p < N) (h8 : os.length < 8) (a0 : 0 ≤ add ∧ add ≤ 1000) (hh : u.hands[p]? = some h) (hl : h.ln = 0)
    (hI : UInv { u with deeds := u.deeds ++ [((p : Int), add)], hands := u.hands.set p ⟨1, u.deeds.length + 1, 0, 0⟩ } m) {mine' : Nat → Nat} (e1 : mine' p = os.length) (e2 : ∀ q, q < N → q ≠ p → mine' q = mine q) :
    US N (k + 1) { u with deeds := u.deeds ++ [((p : Int), add)], hands := u.hands.set p ⟨1, u.deeds.length + 1, 0, 0⟩ } m (os ++ [⟨p, 0, add, 0, 2 * k, 0⟩]) lin G mine' := by
  have hn := S.n
  have dl := S.R.dl
  have hnb : ¬ ubusy u p := fun ⟨g, g1, g2⟩ => by rw [hh] at g1; cases g1; exact g2 hl
  obtain ⟨H1, H2⟩ := S.H.begin (kind := 0) (arg := add) hp h8 hnb ⟨by omega, by omega⟩ a0 e1 e2
  have hm1 := S.I.m1
  have hc := S.I.c
  have us : ∀ j, j ≤ m → usum (u.deeds ++ [((p : Int), add)]) u.cells j = usum u.deeds u.cells j := fun j hj => usum_app (fun i x hx hi => S.I.z0 i x hx (by omega)) (by omega)
  have fresh : ∀ i : Nat, u.cells[i]? ≠ some ((u.deeds.length : Int) + 1) := fun i hc => by
    by_cases hi : i < m
    · have := S.I.z0 i _ hc hi; omega
    · have := S.I.z1 i _ hc (by omega); omega
  have hlt : ∀ {q : Nat} {g : UHand}, u.hands[q]? = some g → q < N := fun hg => by rw [← hn]; exact (List.getElem?_eq_some_iff.1 hg).1
  refine ⟨hI, by simpa using hn, H1.ext (fun q hq => ?_) (fun _ _ _ => rfl), ?_⟩
  · constructor
    · rintro (rfl | ⟨g, g1, g2⟩)
      · exact ⟨_, List.getElem?_set_self (by omega), by simp⟩
      · refine ⟨g, ?_, g2⟩
        rw [List.getElem?_set_ne]
        · exact g1
        · rintro rfl; exact hnb ⟨g, g1, g2⟩
    · rintro ⟨g, g1, g2⟩
      rcases set_cases g1 with ⟨rfl, rfl⟩ | ⟨_, g1⟩
      · exact .inl rfl
      · exact .inr ⟨g, g1, g2⟩
  refine ⟨by rw [H2, S.R.sum]; dsimp only; rw [us m (Nat.le_refl _)], ?_, ?_, ?_, by simp [dl]⟩
  · intro q g g1 g2
    rcases set_cases g1 with ⟨rfl, rfl⟩ | ⟨hne, g1⟩
    · exact ⟨⟨q, 0, add, 0, 2 * k, 0⟩, by rw [e1]; simp, rfl, rfl, rfl, by simp [uadd]⟩
    · obtain ⟨o, o1, o2, o3, o4, o5⟩ := S.R.arg q g g1 g2
      have hol := (List.getElem?_eq_some_iff.1 o1).1
      refine ⟨o, by rw [e2 q (hlt g1) hne, List.getElem?_append_left hol]; exact o1, o2, o3, o4, ?_⟩
      have hd := S.I.ha g (List.mem_of_getElem? g1) g2
      rw [o5]
      unfold uadd
      rw [List.getElem?_append_left (by have := hd.d0; have := hd.d1; omega)]
  · intro q g g1 g2 g3
    rcases set_cases g1 with ⟨rfl, rfl⟩ | ⟨hne, g1⟩
    · rw [e1]; intro hc2; have := S.H.lt _ hc2; omega
    · rw [e2 q (hlt g1) hne]; exact S.R.out q g g1 g2 g3
  · intro q g i g1 g2 g3
    rcases set_cases g1 with ⟨rfl, rfl⟩ | ⟨hne, g1⟩
    · exact absurd g3 (fresh i)
    · rw [e2 q (hlt g1) hne]
      obtain ⟨r1, r2⟩ := S.R.pt q g i g1 g2 g3
      refine ⟨r1, r2.trans (us i ?_).symm⟩
      refine Nat.le_of_lt (Nat.lt_of_not_le fun hmi => ?_)
      have := S.I.z1 i _ g3 hmi
      have := (S.I.ha g (List.mem_of_getElem? g1) g2).d0
      omega
inductive UOut (N k : Nat) (u : Univ) (p : Nat) (m : Nat) (os : List LOp) (lin : List Nat) (G : Nat → Int) (mine : Nat → Nat) : Prop
  | idle (c : Int) (hc : c ≠ 0) (e : univStep u p = (u, false, 0, c)) (hv : uV u p = 0)
  | on (u' : Univ) (m' : Nat) (lin' : List Nat) (G' : Nat → Int) (e : univStep u p = (u', false, 0, 0)) (S : US N (k + 1) u' m' os lin' G' mine) (v : uV u' p + 1 ≤ uV u p) (vo : ∀ q, q ≠ p → uV u' q = uV u q)
  | done (u' : Univ) (got : Int) (o : LOp) (e : univStep u p = (u', true, got, 0)) (ho : os[mine p]? = some o) (S : US N (k + 1) u' m (os.set (mine p) { o with got := got, too := 2 * k + 1 }) lin G mine) (v : uV u' p + 1 ≤ uV u p) (vo : ∀ q, q ≠ p → uV u' q = uV u q)
theorem uV_ne {u : Univ} {p q : Nat} {y : UHand} {c : List Int} (h : q ≠ p) : uV { u with cells := c, hands := u.hands.set p y } q = uV u q := by
  unfold uV
  simp only
  rw [List.getElem?_set_ne (Ne.symm h)]
theorem uV_at {u : Univ} {p : Nat} {y : UHand} {c : List Int} (h : p < u.hands.length) : uV { u with cells := c, hands := u.hands.set p y } p = if y.ln = 0 then 0 else 2 * (u.deeds.length - y.cell.toNat) - (if y.ln = 1 then 0 else 1) := by
  unfold uV
  simp only
  rw [List.getElem?_set_self h]
theorem uV_of {u : Univ} {p : Nat} {y : UHand} (h : u.hands[p]? = some y) : uV u p = if y.ln = 0 then 0 else 2 * (u.deeds.length - y.cell.toNat) - (if y.ln = 1 then 0 else 1) := by
  unfold uV
  rw [h]
/-- a hand goes on, with its deed -/
theorem US.hand {N k : Nat} {u m os lin G mine} (S : US N k u m os lin G mine) {p : Nat} {h y : UHand} (hh : u.hands[p]? = some h) (h0 : h.ln ≠ 0) (y0 : y.ln ≠ 0) (hd : y.deed = h.deed) (hI : UInv { u with hands := u.hands.set p y } m) : US N (k + 1) { u with hands := u.hands.set p y } m os lin G mine := by
  have hq := (List.getElem?_eq_some_iff.1 hh).1
  have look : ∀ {q : Nat} {g : UHand}, (u.hands.set p y)[q]? = some g → g.ln ≠ 0 → ∃ g', u.hands[q]? = some g' ∧ g'.ln ≠ 0 ∧ g.deed = g'.deed := by
    intro q g g1 g2
    rcases set_cases g1 with ⟨rfl, rfl⟩ | ⟨_, g1⟩
    · exact ⟨h, hh, h0, hd⟩
    · exact ⟨g, g1, g2, rfl⟩
  refine ⟨hI, by simpa using S.n, (S.H.later (by omega)).ext (fun q _ => ?_) (fun _ _ _ => rfl), ⟨S.R.sum, ?_, ?_, ?_, S.R.dl⟩⟩
  · constructor
    · rintro ⟨g, g1, g2⟩
      by_cases hqp : q = p
      · subst hqp; exact ⟨y, List.getElem?_set_self hq, y0⟩
      · exact ⟨g, by rw [List.getElem?_set_ne (Ne.symm hqp)]; exact g1, g2⟩
    · rintro ⟨g, g1, g2⟩
      obtain ⟨g', a, b, _⟩ := look g1 g2
      exact ⟨g', a, b⟩
  · intro q g g1 g2
    obtain ⟨g', a, b, c⟩ := look g1 g2
    dsimp only
    rw [c]; exact S.R.arg q g' a b
  · intro q g g1 g2 g3
    obtain ⟨g', a, b, c⟩ := look g1 g2
    rw [c] at g3
    exact S.R.out q g' a b g3
  · intro q g i g1 g2 g3
    obtain ⟨g', a, b, c⟩ := look g1 g2
    rw [c] at g3
    exact S.R.pt q g' i a b g3
theorem US.step {N k : Nat} {u m os lin G mine} (S : US N k u m os lin G mine) {p : Nat} (hp : p < N) : UOut N k u p m os lin G mine := by
  have hn := S.n
  have dl := S.R.dl
  rcases S.I.step (p : Int) with ⟨c, hc, hw, e⟩ | ⟨_, _, h, hh, hl, hc, e, hI⟩ | ⟨_, _, h, hh, hl, hc, e, hI⟩ | ⟨_, _, h, g, hh, hl, hc, hne, ⟨g1, g2, g3⟩, e, hI⟩ | ⟨_, _, h, hh, hl, hc, hd, hs, e, hI⟩
  · refine .idle c hc e ?_
    rcases hw with hw | ⟨g, g1, g2⟩
    · omega
    · rw [Int.toNat_natCast] at g1
      rw [uV_of g1, if_pos g2]
  all_goals rw [Int.toNat_natCast] at hh e hI
  all_goals have hq := (List.getElem?_eq_some_iff.1 hh).1
  all_goals have h0 : h.ln ≠ 0 := by omega
  all_goals have A := S.I.ha h (List.mem_of_getElem? hh) h0
  · -- its deed is set
    obtain ⟨o, o1, o2, o3, o4, o5⟩ := S.R.arg p h hh h0
    have hlt := S.I.lt A.d0 A.d1 (A.l1 hl)
    have hout := S.R.out p h hh h0 (A.l1 hl)
    obtain ⟨P1, P2⟩ := S.H.point (G' := fun y => if y = mine p then usum u.deeds u.cells m else G y) o1 o4 hout (by rw [if_pos rfl, S.R.sum]; rfl) (fun y hy => if_neg (fun hc : y = mine p => hout (hc ▸ hy)))
    have hcl := S.I.c
    have hm1 := S.I.m1
    have mne : ∀ {q : Nat} {g : UHand}, u.hands[q]? = some g → g.ln ≠ 0 → q ≠ p → mine q ≠ mine p := fun gq g0 hqp hc2 => by
      obtain ⟨o', r1, r2, _⟩ := S.R.arg _ _ gq g0
      rw [hc2, o1] at r1
      cases r1
      omega
    have hml : m < 41 := by
      have := S.I.d
      omega
    refine .on _ (m + 1) _ _ e ⟨hI, by simpa using hn, (P1.later (by omega)).ext (fun q _ => ?_) (fun _ _ _ => rfl), ⟨?_, ?_, ?_, ?_, dl⟩⟩ ?_ (fun q hqp => uV_ne hqp)
    · constructor
      · rintro ⟨g, g1, g2⟩
        by_cases hqp : q = p
        · subst hqp; exact ⟨_, List.getElem?_set_self hq, by simp⟩
        · exact ⟨g, by rw [List.getElem?_set_ne (Ne.symm hqp)]; exact g1, g2⟩
      · rintro ⟨g, g1, g2⟩
        rcases set_cases g1 with ⟨rfl, rfl⟩ | ⟨_, g1⟩
        · exact ⟨h, hh, h0⟩
        · exact ⟨g, g1, g2⟩
    · rw [P2, S.R.sum]
      dsimp only
      rw [usum, usum_set (Nat.le_refl _), List.getElem?_set_self (by omega)]
      unfold lgo lget
      rw [if_pos rfl, if_pos o3, o5]
      rfl
    · intro q g g1 g2
      rcases set_cases g1 with ⟨rfl, rfl⟩ | ⟨_, g1⟩
      · exact ⟨o, o1, o2, o3, o4, o5⟩
      · exact S.R.arg q g g1 g2
    · intro q g g1 g2 g3 hin
      rcases set_cases g1 with ⟨rfl, rfl⟩ | ⟨hqp, g1'⟩
      · exact g3 m (List.getElem?_set_self (by omega))
      · rcases List.mem_append.1 hin with hin | hin
        · refine S.R.out q g g1' g2 (fun i hi => ?_) hin
          by_cases him : i = m
          · subst him
            have := S.I.z1 i _ hi (Nat.le_refl _)
            have := (S.I.ha g (List.mem_of_getElem? g1') g2).d0
            omega
          · exact g3 i (by dsimp only; rw [List.getElem?_set_ne (Ne.symm him)]; exact hi)
        · exact mne g1' g2 hqp (by simpa using hin)
    · intro q g i g1 g2 g3
      rcases set_cases g1 with ⟨rfl, rfl⟩ | ⟨hqp, g1'⟩
      · rcases set_cases g3 with ⟨rfl, _⟩ | ⟨him, g3⟩
        · refine ⟨by simp, ?_⟩
          rw [if_pos rfl]
          dsimp only
          rw [usum_set (Nat.le_refl _)]
        · exact absurd g3 (A.l1 hl i)
      · rcases set_cases g3 with ⟨rfl, g4⟩ | ⟨him, g3⟩
        · exact absurd (S.I.hu q p g h g1' hh g2 h0 g4) hqp
        · obtain ⟨r1, r2⟩ := S.R.pt q g i g1' g2 g3
          have him2 : i < m := Nat.lt_of_not_le fun hmi => by
            have := S.I.z1 i _ g3 hmi
            have := (S.I.ha g (List.mem_of_getElem? g1') g2).d0
            omega
          refine ⟨List.mem_append_left _ r1, ?_⟩
          rw [if_neg (mne g1' g2 hqp), r2]
          dsimp only
          rw [usum_set (by omega)]
    · rw [uV_at hq, uV_of hh]
      rw [if_neg (by simp), if_neg (by simp), if_neg h0, if_pos hl]
      dsimp only
      omega
  · have hlt := S.I.lt A.d0 A.d1 (A.l1 hl)
    refine .on _ m lin G e (S.hand hh h0 (by simp) rfl hI) ?_ (fun q hqp => uV_ne hqp)
    rw [uV_at hq, uV_of hh]
    rw [if_neg (by simp), if_neg (by simp), if_neg h0, if_pos hl]
    dsimp only
    omega
  · have hlt := S.I.lt A.d0 A.d1 (fun i hi => by have := (A.l2 hl).2 i hi; subst this; exact hne hi)
    refine .on _ m lin G e (S.hand hh h0 (by omega) g2 hI) ?_ (fun q hqp => uV_ne hqp)
    rw [uV_at hq, uV_of hh]
    rw [if_neg (by omega), if_pos g1, if_neg h0, if_neg (by omega)]
    have := A.c0
    omega
  · obtain ⟨r1, r2⟩ := S.R.pt p h _ hh h0 hd
    obtain ⟨o, o1, o2, o3, o4, o5⟩ := S.R.arg p h hh h0
    obtain ⟨P1, P2⟩ := S.H.over hp ⟨h, hh, h0⟩ o1 r1
    have er : G (mine p) = h.sum := r2.trans hs.symm
    rw [er] at P1 P2
    have mne : ∀ {q : Nat} {g : UHand}, u.hands[q]? = some g → g.ln ≠ 0 → q ≠ p → mine q ≠ mine p := fun gq g0 hqp hc2 => by
      obtain ⟨o', r1, r2, _⟩ := S.R.arg _ _ gq g0
      rw [hc2, o1] at r1
      cases r1
      omega
    have look : ∀ {q : Nat} {g : UHand}, (u.hands.set p ⟨0, 0, 0, 0⟩)[q]? = some g → g.ln ≠ 0 → q ≠ p ∧ u.hands[q]? = some g := by
      intro q g g1 g2
      rcases set_cases g1 with ⟨rfl, rfl⟩ | ⟨hne, g1⟩
      · exact absurd rfl g2
      · exact ⟨hne, g1⟩
    refine .done _ h.sum o e o1 ⟨hI, by simpa using hn, P1.ext (fun q _ => ?_) (fun _ _ _ => rfl), ⟨P2.trans S.R.sum, ?_, ?_, ?_, by simpa using dl⟩⟩ ?_ (fun q hqp => uV_ne hqp)
    · constructor
      · rintro ⟨hqp, g, g1, g2⟩
        exact ⟨g, by dsimp only; rw [List.getElem?_set_ne (Ne.symm hqp)]; exact g1, g2⟩
      · rintro ⟨g, g1, g2⟩
        obtain ⟨a, b⟩ := look g1 g2
        exact ⟨a, g, b, g2⟩
    · intro q g g1 g2
      obtain ⟨a, b⟩ := look g1 g2
      rw [List.getElem?_set_ne (Ne.symm (mne b g2 a))]
      exact S.R.arg q g b g2
    · intro q g g1 g2
      obtain ⟨a, b⟩ := look g1 g2
      exact S.R.out q g b g2
    · intro q g i g1 g2
      obtain ⟨a, b⟩ := look g1 g2
      exact S.R.pt q g i b g2
    · rw [uV_at hq, uV_of hh]
      rw [if_pos rfl, if_neg h0, if_neg (by omega)]
      have hm := S.I.le
      have := A.c0
      omega
theorem uV_le {N k : Nat} {u m os lin G mine} (S : US N k u m os lin G mine) (p : Nat) : uV u p ≤ 16 := by
  unfold uV
  have := S.R.dl
  have := S.H.len
  split
  · omega
  · split
    · omega
    · omega
theorem uV_zero {N k : Nat} {u m os lin G mine} (S : US N k u m os lin G mine) {p : Nat} (h : uV u p = 0) : ¬ ubusy u p := by
  rintro ⟨g, g1, g2⟩
  rw [uV_of g1, if_neg g2] at h
  have A := S.I.ha g (List.mem_of_getElem? g1) g2
  have hl := A.ln
  have := A.c0
  have := A.c1
  have hm := S.I.le
  rcases hl with hl | hl
  · have := S.I.lt A.d0 A.d1 (A.l1 hl)
    rw [if_pos hl] at h
    omega
  · have := (A.l2 hl).1
    rw [if_neg (by omega)] at h
    omega
end Go.Proofs.Ytockhbbpcbcenaa
