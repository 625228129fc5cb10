import Derived.Test.YtockhbbpcbcenaaUo
namespace Go.Proofs.Ytockhbbpcbcenaa
open Go.Eng
set_option maxRecDepth 20000
/-! ### the law of the row, plain -/
theorem pigeon : ∀ (D m : Nat) (f : Nat → Nat), (∀ i, i < m → f i < D) → (∀ i j, i < m → j < m → f i = f j → i = j) → m ≤ D
  | 0, 0, _, _, _ => Nat.le_refl _
  | 0, m + 1, f, h, _ => absurd (h 0 (by omega)) (by omega)
  | D + 1, 0, _, _, _ => Nat.zero_le _
  | D + 1, m + 1, f, h, hi => by
    by_cases hx : ∃ i, i < m + 1 ∧ f i = D
    · obtain ⟨i, hi1, hi2⟩ := hx
      have := pigeon D m (fun j => if j = i then f m else f j) (fun j hj => ?_) (fun j k hj hk he => ?_)
      · omega
      · try simp only
        split
        · rename_i hji
          have h1 := h m (by omega)
          have : f m ≠ D := fun hc => by have := hi m i (by omega) hi1 (by omega); omega
          omega
        · rename_i hji
          have h1 := h j (by omega)
          have : f j ≠ D := fun hc => hji (hi j i (by omega) hi1 (by omega))
          omega
      · try simp only at he
        split at he <;> split at he
        · omega
        · have := hi m k (by omega) (by omega) he; omega
        · have := hi j m (by omega) (by omega) he; omega
        · exact hi j k (by omega) (by omega) he
    · have := pigeon D (m + 1) f (fun i hi' => by have := h i hi'; have : f i ≠ D := fun hc => hx ⟨i, hi', hc⟩; omega) hi
      omega

def uadd (deeds : List (Int × Int)) (x : Int) : Int := ((deeds[(x - 1).toNat]?).getD (0, 0)).2
def usum (deeds : List (Int × Int)) (cells : List Int) : Nat → Int
  | 0 => 0
  | k + 1 => usum deeds cells k + uadd deeds ((cells[k]?).getD 0)
structure UHInv (u : Univ) (m : Nat) (h : UHand) : Prop where
  d0 : 1 ≤ h.deed
  d1 : h.deed ≤ u.deeds.length
  c0 : 0 ≤ h.cell
  c1 : h.cell ≤ m
  ln : h.ln = 1 ∨ h.ln = 2
  s : h.sum = usum u.deeds u.cells h.cell.toNat
  l1 : h.ln = 1 → ∀ i : Nat, u.cells[i]? ≠ some h.deed
  l2 : h.ln = 2 → h.cell < m ∧ ∀ i : Nat, u.cells[i]? = some h.deed → i = h.cell.toNat
structure UInv (u : Univ) (m : Nat) : Prop where
  c : u.cells.length = 41
  n : u.hands.length ≤ 4
  d : u.deeds.length ≤ 40
  a : ∀ d ∈ u.deeds, 0 ≤ d.2 ∧ d.2 ≤ 1000
  z0 : ∀ (i : Nat) x, u.cells[i]? = some x → i < m → 1 ≤ x ∧ x ≤ (u.deeds.length : Int)
  z1 : ∀ (i : Nat) x, u.cells[i]? = some x → m ≤ i → x = 0
  inj : ∀ (i j : Nat) x, i < m → j < m → u.cells[i]? = some x → u.cells[j]? = some x → i = j
  m1 : m ≤ 41
  hi : ∀ h ∈ u.hands, h.ln = 0 → h.cell = 0 ∧ h.sum = 0
  ha : ∀ h ∈ u.hands, h.ln ≠ 0 → UHInv u m h
  hu : ∀ (p q : Nat) h g, u.hands[p]? = some h → u.hands[q]? = some g → h.ln ≠ 0 → g.ln ≠ 0 → h.deed = g.deed → p = q

theorem uadd_ok {deeds : List (Int × Int)} (a : ∀ d ∈ deeds, 0 ≤ d.2 ∧ d.2 ≤ 1000) (x : Int) : 0 ≤ uadd deeds x ∧ uadd deeds x ≤ 1000 := by
  unfold uadd
  cases h : deeds[(x - 1).toNat]? with
  | none => simp
  | some d => exact a d (List.mem_of_getElem? h)
theorem usum_ok {deeds : List (Int × Int)} {cells : List Int} (a : ∀ d ∈ deeds, 0 ≤ d.2 ∧ d.2 ≤ 1000) : ∀ k : Nat, 0 ≤ usum deeds cells k ∧ usum deeds cells k ≤ 1000 * k
  | 0 => by simp [usum]
  | k + 1 => by
    have h1 := usum_ok (cells := cells) a k
    have h2 := uadd_ok a ((cells[k]?).getD 0)
    simp only [usum]
    omega
theorem usum_app {deeds : List (Int × Int)} {cells : List Int} {d : Int × Int} : ∀ {k : Nat}, (∀ (i : Nat) x, cells[i]? = some x → i < k → 1 ≤ x ∧ x ≤ (deeds.length : Int)) → k ≤ cells.length → usum (deeds ++ [d]) cells k = usum deeds cells k
  | 0, _, _ => rfl
  | k + 1, h, hk => by
    simp only [usum]
    rw [usum_app (fun i x hx hi => h i x hx (by omega)) (by omega)]
    congr 1
    have hx : cells[k]? = some cells[k] := List.getElem?_eq_getElem (by omega)
    obtain ⟨h0, h1⟩ := h k _ hx (by omega)
    rw [hx]
    simp only [Option.getD_some, uadd]
    rw [List.getElem?_append_left (by omega)]
theorem usum_set {deeds : List (Int × Int)} {cells : List Int} {m : Nat} {v : Int} : ∀ {k : Nat}, k ≤ m → usum deeds (cells.set m v) k = usum deeds cells k
  | 0, _ => rfl
  | k + 1, h => by
    simp only [usum]
    rw [usum_set (by omega), List.getElem?_set_ne (by omega)]
theorem UInv.le {u : Univ} {m : Nat} (h : UInv u m) : m ≤ u.deeds.length := by
  have hc := h.c
  have hm := h.m1
  have hx : ∀ i, i < m → u.cells[i]? = some ((u.cells[i]?).getD 0) := fun i hi => by rw [List.getElem?_eq_getElem (by omega)]; rfl
  refine pigeon _ m (fun i => ((u.cells[i]?).getD 0 - 1).toNat) (fun i hi => ?_) (fun i j hi hj he => ?_)
  · have := h.z0 i _ (hx i hi) hi
    try simp only
    omega
  · have h1 := h.z0 i _ (hx i hi) hi
    have h2 := h.z0 j _ (hx j hj) hj
    try simp only at he
    have : (u.cells[j]?).getD 0 = (u.cells[i]?).getD 0 := by omega
    exact h.inj i j _ hi hj (hx i hi) (by rw [hx j hj, this])
theorem UInv.lt {u : Univ} {m : Nat} (h : UInv u m) {d : Int} (d0 : 1 ≤ d) (d1 : d ≤ u.deeds.length) (hd : ∀ i : Nat, u.cells[i]? ≠ some d) : m < u.deeds.length := by
  have hc := h.c
  have hm := h.m1
  have hx : ∀ i, i < m → u.cells[i]? = some ((u.cells[i]?).getD 0) := fun i hi => by rw [List.getElem?_eq_getElem (by omega)]; rfl
  refine pigeon _ (m + 1) (fun i => if i = m then (d - 1).toNat else ((u.cells[i]?).getD 0 - 1).toNat) (fun i hi => ?_) (fun i j hi hj he => ?_)
  · try simp only
    split
    · omega
    · have := h.z0 i _ (hx i (by omega)) (by omega)
      omega
  · try simp only at he
    split at he <;> split at he
    · omega
    · have h2 := h.z0 j _ (hx j (by omega)) (by omega)
      exact absurd (by rw [hx j (by omega)]; congr 1; omega) (hd j)
    · have h2 := h.z0 i _ (hx i (by omega)) (by omega)
      exact absurd (by rw [hx i (by omega)]; congr 1; omega) (hd i)
    · have h1 := h.z0 i _ (hx i (by omega)) (by omega)
      have h2 := h.z0 j _ (hx j (by omega)) (by omega)
      have : (u.cells[j]?).getD 0 = (u.cells[i]?).getD 0 := by omega
      exact h.inj i j _ (by omega) (by omega) (hx i (by omega)) (by rw [hx j (by omega), this])
theorem UInv.ok {u : Univ} {m : Nat} (h : UInv u m) : UOk u := by
  have hle := h.le
  have hd := h.d
  refine ⟨h.n, h.d, h.a, fun g hg => ?_⟩
  by_cases h0 : g.ln = 0
  · obtain ⟨e1, e2⟩ := h.hi g hg h0
    exact ⟨by omega, by omega, by omega, by omega, fun h2 => by omega⟩
  · obtain ⟨d0, d1, c0, c1, ln, s, l1, l2⟩ := h.ha g hg h0
    have hs := usum_ok (cells := u.cells) h.a g.cell.toNat
    refine ⟨c0, by omega, by omega, by omega, fun h2 x hx hne => ?_⟩
    obtain ⟨a1, a2⟩ := l2 h2
    have := h.z0 _ x hx (by omega)
    exact ⟨this.1, this.2, by omega⟩
theorem UInv.start {n : Nat} (hn : n ≤ 4) : UInv ⟨List.replicate 41 0, [], List.replicate n ⟨0, 0, 0, 0⟩⟩ 0 where
  c := by simp
  n := by simpa using hn
  d := by simp
  a := by simp
  z0 := by intro i x _ h; omega
  z1 := by
    intro i x hx _
    dsimp only at hx
    rw [List.getElem?_replicate] at hx
    split at hx
    · exact (Option.some.inj hx).symm
    · cases hx
  inj := by intro i j x h; omega
  m1 := by omega
  hi := by intro h hh _; simp at hh; simp [hh]
  ha := by intro h hh h0; simp at hh; simp [hh] at h0
  hu := by intro p q h g hp _ h0; simp [List.getElem?_replicate] at hp; rw [← hp.2] at h0; exact absurd rfl h0
inductive UBeg (u : Univ) (p add : Int) (m : Nat) : Prop
  | err (k : Int) (hk : k ≠ 0) (e : univBegin u p add = (u, k))
  | ok (h0 : 0 ≤ p) (h1 : p ≤ (u.hands.length : Int) - 1) (a0 : 0 ≤ add) (h : UHand) (hh : u.hands[p.toNat]? = some h) (hl : h.ln = 0) (e : univBegin u p add = ({ u with deeds := u.deeds ++ [(p, add)], hands := u.hands.set p.toNat ⟨1, u.deeds.length + 1, 0, 0⟩ }, 0)) (hI : UInv { u with deeds := u.deeds ++ [(p, add)], hands := u.hands.set p.toNat ⟨1, u.deeds.length + 1, 0, 0⟩ } m)
theorem UInv.begin {u : Univ} {m : Nat} (h : UInv u m) (p add : Int) : UBeg u p add m := by
  by_cases h1 : ¬ (0 ≤ p ∧ p ≤ (u.hands.length : Int) - 1) ∨ ¬ (0 ≤ add ∧ add ≤ 1000)
  · exact .err 1 (by decide) (by rw [univBegin, if_pos h1])
  have hq : p.toNat < u.hands.length := by omega
  obtain ⟨g, hg⟩ : ∃ g, u.hands[p.toNat]? = some g := ⟨_, List.getElem?_eq_getElem hq⟩
  by_cases h2 : g.ln ≠ 0
  · exact .err 7 (by decide) (by rw [univBegin, if_neg h1, hg]; simp only; rw [if_pos h2])
  by_cases h3 : u.deeds.length = 40
  · exact .err 4 (by decide) (by rw [univBegin, if_neg h1, hg]; simp only; rw [if_neg h2, if_pos h3])
  have hd := h.d
  have hm1 := h.m1
  have hc := h.c
  have hle := h.le
  have fresh : ∀ i : Nat, u.cells[i]? ≠ some ((u.deeds.length : Int) + 1) := fun i hc => by
    by_cases hi : i < m
    · have := h.z0 i _ hc hi; omega
    · have := h.z1 i _ hc (by omega); omega
  refine .ok (by omega) (by omega) (by omega) g hg (by omega) (by rw [univBegin, if_neg h1, hg]; simp only; rw [if_neg h2, if_neg h3]) ?_
  refine ⟨hc, by simpa using h.n, by simp; omega, ?_, fun i x hx hi => ?_, h.z1, h.inj, hm1, ?_, ?_, ?_⟩
  · intro d hd
    simp only [List.mem_append, List.mem_singleton] at hd
    rcases hd with hd | rfl
    · exact h.a d hd
    · simp only; omega
  · have := h.z0 i x hx hi
    simp; omega
  · intro y hy h0
    rcases mem_set_cases hy with rfl | ⟨j, _, hj⟩
    · simp at h0
    · exact h.hi y (List.mem_of_getElem? hj) h0
  · intro y hy h0
    rcases mem_set_cases hy with rfl | ⟨j, _, hj⟩
    · exact ⟨by dsimp only; omega, by simp, by simp, by simp, .inl rfl, rfl, fun _ => fresh, fun h => by simp at h⟩
    · obtain ⟨d0, d1, c0, c1, ln, s, l1, l2⟩ := h.ha y (List.mem_of_getElem? hj) h0
      refine ⟨d0, by simp; omega, c0, c1, ln, ?_, l1, l2⟩
      simp only
      rw [usum_app (fun i x hx hi => h.z0 i x hx (by omega)) (by omega)]
      exact s
  · intro a b x y hx hy x0 y0 he
    rcases set_cases hx with ⟨rfl, rfl⟩ | ⟨hne, hx⟩ <;> rcases set_cases hy with ⟨rfl, rfl⟩ | ⟨hne2, hy⟩
    · rfl
    · have := (h.ha y (List.mem_of_getElem? hy) y0).d1; simp at he; omega
    · have := (h.ha x (List.mem_of_getElem? hx) x0).d1; simp at he; omega
    · exact h.hu a b x y hx hy x0 y0 he
inductive USt (u : Univ) (p : Int) (m : Nat) : Prop
  | err (k : Int) (hk : k ≠ 0) (hw : ¬ (0 ≤ p ∧ p ≤ (u.hands.length : Int) - 1) ∨ ∃ g, u.hands[p.toNat]? = some g ∧ g.ln = 0) (e : univStep u p = (u, false, 0, k))
  | put (h0 : 0 ≤ p) (h1 : p ≤ (u.hands.length : Int) - 1) (h : UHand) (hh : u.hands[p.toNat]? = some h) (hl : h.ln = 1) (hc : h.cell = m) (e : univStep u p = ({ u with cells := u.cells.set m h.deed, hands := u.hands.set p.toNat { h with ln := 2 } }, false, 0, 0)) (hI : UInv { u with cells := u.cells.set m h.deed, hands := u.hands.set p.toNat { h with ln := 2 } } (m + 1))
  | late (h0 : 0 ≤ p) (h1 : p ≤ (u.hands.length : Int) - 1) (h : UHand) (hh : u.hands[p.toNat]? = some h) (hl : h.ln = 1) (hc : h.cell < m) (e : univStep u p = ({ u with hands := u.hands.set p.toNat { h with ln := 2 } }, false, 0, 0)) (hI : UInv { u with hands := u.hands.set p.toNat { h with ln := 2 } } m)
  | next (h0 : 0 ≤ p) (h1 : p ≤ (u.hands.length : Int) - 1) (h g : UHand) (hh : u.hands[p.toNat]? = some h) (hl : h.ln = 2) (hc : h.cell < m) (hne : u.cells[h.cell.toNat]? ≠ some h.deed) (hg : g.ln = 1 ∧ g.deed = h.deed ∧ g.cell = h.cell + 1) (e : univStep u p = ({ u with hands := u.hands.set p.toNat g }, false, 0, 0)) (hI : UInv { u with hands := u.hands.set p.toNat g } m)
  | done (h0 : 0 ≤ p) (h1 : p ≤ (u.hands.length : Int) - 1) (h : UHand) (hh : u.hands[p.toNat]? = some h) (hl : h.ln = 2) (hc : h.cell < m) (hd : u.cells[h.cell.toNat]? = some h.deed) (hs : h.sum = usum u.deeds u.cells h.cell.toNat) (e : univStep u p = ({ u with hands := u.hands.set p.toNat ⟨0, 0, 0, 0⟩ }, true, h.sum, 0)) (hI : UInv { u with hands := u.hands.set p.toNat ⟨0, 0, 0, 0⟩ } m)
/-- a hand turned -/
theorem UInv.hand {u : Univ} {m : Nat} (h : UInv u m) {p : Nat} {g y : UHand} (hg : u.hands[p]? = some g) (hi : y.ln = 0 → y.cell = 0 ∧ y.sum = 0) (ha : y.ln ≠ 0 → UHInv u m y) (hd : y.ln ≠ 0 → g.ln ≠ 0 ∧ y.deed = g.deed) : UInv { u with hands := u.hands.set p y } m := by
  refine ⟨h.c, by simpa using h.n, h.d, h.a, h.z0, h.z1, h.inj, h.m1, ?_, ?_, ?_⟩
  · intro x hx h0
    rcases mem_set_cases hx with rfl | ⟨j, _, hj⟩
    · exact hi h0
    · exact h.hi x (List.mem_of_getElem? hj) h0
  · intro x hx h0
    rcases mem_set_cases hx with rfl | ⟨j, _, hj⟩
    · obtain ⟨a1, a2, a3, a4, a5, a6, a7, a8⟩ := ha h0
      exact ⟨a1, a2, a3, a4, a5, a6, a7, a8⟩
    · obtain ⟨a1, a2, a3, a4, a5, a6, a7, a8⟩ := h.ha x (List.mem_of_getElem? hj) h0
      exact ⟨a1, a2, a3, a4, a5, a6, a7, a8⟩
  · intro a b x z hx hz x0 z0 he
    rcases set_cases hx with ⟨rfl, rfl⟩ | ⟨hne, hx'⟩ <;> rcases set_cases hz with ⟨rfl, rfl⟩ | ⟨hne2, hz'⟩
    · rfl
    · obtain ⟨b1, b2⟩ := hd x0
      exact h.hu a b g z hg hz' b1 z0 (by omega)
    · obtain ⟨b1, b2⟩ := hd z0
      exact h.hu a b x g hx' hg x0 b1 (by omega)
    · exact h.hu a b x z hx' hz' x0 z0 he
theorem UInv.step {u : Univ} {m : Nat} (h : UInv u m) (p : Int) : USt u p m := by
  by_cases h1 : ¬ (0 ≤ p ∧ p ≤ (u.hands.length : Int) - 1)
  · exact .err 1 (by decide) (.inl h1) (by rw [univStep, if_pos h1])
  have hq : p.toNat < u.hands.length := by omega
  obtain ⟨g, hg⟩ : ∃ g, u.hands[p.toNat]? = some g := ⟨_, List.getElem?_eq_getElem hq⟩
  have hgm := List.mem_of_getElem? hg
  by_cases h2 : g.ln = 0
  · exact .err 7 (by decide) (.inr ⟨g, hg, h2⟩) (by rw [univStep, if_neg h1, hg]; simp only; rw [if_pos h2])
  have hd := h.d
  have hm1 := h.m1
  have hc := h.c
  have hle := h.le
  obtain ⟨d0, d1, c0, c1, ln, s, l1, l2⟩ := h.ha g hgm h2
  obtain ⟨x, hx⟩ : ∃ x, u.cells[g.cell.toNat]? = some x := ⟨_, List.getElem?_eq_getElem (by omega)⟩
  by_cases h3 : g.ln = 1
  · by_cases h4 : g.cell = m
    · have hz : u.cells[g.cell.toNat]? = some 0 := by rw [hx, h.z1 _ x hx (by omega)]
      have hlt := h.lt d0 d1 (l1 h3)
      have hcm : g.cell.toNat = m := by omega
      refine .put (by omega) (by omega) g hg h3 h4 (by rw [univStep, if_neg h1, hg]; simp only; rw [if_neg h2, if_pos h3, if_pos hz, hcm]) ?_
      refine ⟨by simpa using hc, by simpa using h.n, hd, h.a, fun i y hy hi => ?_, fun i y hy hi => ?_, fun i j y hi hj hy1 hy2 => ?_, by omega, ?_, ?_, ?_⟩
      · rcases set_cases hy with ⟨rfl, rfl⟩ | ⟨hne, hy⟩
        · exact ⟨d0, d1⟩
        · exact h.z0 i y hy (by omega)
      · rcases set_cases hy with ⟨rfl, rfl⟩ | ⟨hne, hy⟩
        · omega
        · exact h.z1 i y hy (by omega)
      · rcases set_cases hy1 with ⟨e1, e2⟩ | ⟨hne, hy1'⟩ <;> rcases set_cases hy2 with ⟨e3, e4⟩ | ⟨hne2, hy2'⟩
        · omega
        · exact absurd (e2 ▸ hy2') (l1 h3 j)
        · exact absurd (e4 ▸ hy1') (l1 h3 i)
        · exact h.inj i j y (by omega) (by omega) hy1' hy2'
      · intro y hy y0
        rcases mem_set_cases hy with rfl | ⟨j, _, hj⟩
        · simp at y0
        · exact h.hi y (List.mem_of_getElem? hj) y0
      · intro y hy y0
        rcases mem_set_cases hy with rfl | ⟨j, hjp, hj⟩
        · refine ⟨d0, d1, c0, by dsimp only; omega, .inr rfl, ?_, by simp, fun _ => ⟨by dsimp only; omega, fun i hi => ?_⟩⟩
          · dsimp only; rw [usum_set (by omega)]; exact s
          · rcases set_cases hi with ⟨rfl, _⟩ | ⟨hne, hi⟩
            · exact hcm.symm
            · exact absurd hi (l1 h3 i)
        · have hjm := List.mem_of_getElem? hj
          obtain ⟨e0, e1, b0, b1, ln', s', k1, k2⟩ := h.ha y hjm y0
          have hne : y.deed ≠ g.deed := fun he => hjp (h.hu j p.toNat y g hj hg y0 h2 he)
          refine ⟨e0, e1, b0, by omega, ln', ?_, fun hl i hi => ?_, fun hl => ⟨by have := (k2 hl).1; omega, fun i hi => ?_⟩⟩
          · dsimp only; rw [usum_set (by omega)]; exact s'
          · rcases set_cases hi with ⟨rfl, he⟩ | ⟨hne, hi⟩
            · exact hne he
            · exact k1 hl i hi
          · rcases set_cases hi with ⟨rfl, he⟩ | ⟨hne, hi⟩
            · exact absurd he hne
            · exact (k2 hl).2 i hi
      · intro a b y z hy hz' y0 z0 he
        rcases set_cases hy with ⟨rfl, rfl⟩ | ⟨hne, hy⟩ <;> rcases set_cases hz' with ⟨rfl, rfl⟩ | ⟨hne2, hz'⟩
        · rfl
        · exact h.hu _ b g z hg hz' h2 z0 he
        · exact h.hu a _ y g hy hg y0 h2 he
        · exact h.hu a b y z hy hz' y0 z0 he
    · have hz : ¬ u.cells[g.cell.toNat]? = some 0 := fun hz => by have := h.z0 _ 0 hz (by omega); omega
      refine .late (by omega) (by omega) g hg h3 (by omega) (by rw [univStep, if_neg h1, hg]; simp only; rw [if_neg h2, if_pos h3, if_neg hz]) ?_
      exact h.hand hg (by simp) (fun _ => ⟨d0, d1, c0, c1, .inr rfl, s, by simp, fun _ => ⟨by dsimp only; omega, fun i hi => absurd hi (l1 h3 i)⟩⟩) (fun _ => ⟨h2, rfl⟩)
  · have h4 : g.ln = 2 := by omega
    obtain ⟨a1, a2⟩ := l2 h4
    by_cases h5 : u.cells[g.cell.toNat]? = some g.deed
    · refine .done (by omega) (by omega) g hg h4 a1 h5 s (by rw [univStep, if_neg h1, hg]; simp only; rw [if_neg h2, if_neg h3, if_pos h4, if_pos h5]) ?_
      exact h.hand hg (by simp) (by simp) (by simp)
    · refine .next (by omega) (by omega) g ⟨1, g.deed, g.cell + 1, g.sum + uadd u.deeds ((u.cells[g.cell.toNat]?).getD 0)⟩ hg h4 a1 h5 ⟨rfl, rfl, rfl⟩ (by rw [univStep, if_neg h1, hg]; simp only; rw [if_neg h2, if_neg h3, if_pos h4, if_neg h5]; rfl) ?_
      refine h.hand hg (by simp) (fun _ => ⟨d0, d1, by dsimp only; omega, by dsimp only; omega, .inl rfl, ?_, fun _ i hi => ?_, by simp⟩) (fun _ => ⟨h2, rfl⟩)
      · dsimp only
        rw [show (g.cell + 1).toNat = g.cell.toNat + 1 by omega, usum, s]
      · have := a2 i hi
        subst this
        exact h5 hi
end Go.Proofs.Ytockhbbpcbcenaa
