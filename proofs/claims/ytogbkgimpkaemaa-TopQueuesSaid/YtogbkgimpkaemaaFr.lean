import Derived.Test.YtogbkgimpkaemaaFv
import Derived.Test.YtogbkgimpkaemaaHS
namespace Go.Proofs.Ytogbkgimpkaemaa
open Go.Eng
set_option maxRecDepth 20000
/-! ### what FifoRow keeps, plain -/
def fQ (f : Nat → Int) (ch : List Nat) (hi : Nat) : List Int := (ch.drop (hi + 1)).map fun y => f (42 + y)
def FHr (f h : Nat → Int) (os : List LOp) (lin : List Nat) (G : Nat → Int) (mine : Nat → Nat) (p : Nat) : Prop :=
  (1 ≤ h (p * 5 + 0) → h (p * 5 + 0) ≤ 4 → ∃ o, os[mine p]? = some o ∧ o.hand = p ∧ o.kind = 0 ∧ o.too = 0 ∧ o.arg = f (42 + (h (p * 5 + 1)).toNat) ∧ mine p ∉ lin) ∧
  (h (p * 5 + 0) = 5 → ∃ o, os[mine p]? = some o ∧ o.hand = p ∧ o.too = 0 ∧ mine p ∈ lin ∧ G (mine p) = -1) ∧
  (6 ≤ h (p * 5 + 0) → ∃ o, os[mine p]? = some o ∧ o.hand = p ∧ o.kind = 1 ∧ o.too = 0 ∧ mine p ∉ lin)
structure FRw (N k : Nat) (f h : Nat → Int) (ch : List Nat) (hi ti : Nat) (os : List LOp) (lin : List Nat) (G : Nat → Int) (mine : Nat → Nat) : Prop where
  I : FInv N f h ch hi ti
  lg : FLag f
  H : HI 2 N k os lin G mine (fun p => h (p * 5 + 0) ≠ 0)
  sum : hst 2 os lin = fQ f ch hi
  r : ∀ p, p < N → FHr f h os lin G mine p
theorem FHr.idle {f h : Nat → Int} {os lin G mine} {p : Nat} (h0 : h (p * 5 + 0) = 0) : FHr f h os lin G mine p := ⟨fun _ => by omega, fun _ => by omega, fun _ => by omega⟩
theorem FRw.start {N : Nat} (hN : N ≤ 4) (mine : Nat → Nat) : FRw N 0 fF0 (fun _ => 0) [0] 0 0 [] [] (fun _ => 0) mine where
  I := FInv.start N
  lg := .inl (by decide)
  H := (HI.start hN _ mine).ext (fun p _ => ⟨fun h => False.elim h, fun h => absurd rfl h⟩) (fun _ _ h => False.elim h)
  sum := rfl
  r := fun p _ => FHr.idle rfl
theorem FRw.later {N k : Nat} {f h ch hi ti os lin G mine} (S : FRw N k f h ch hi ti os lin G mine) : FRw N (k + 1) f h ch hi ti os lin G mine := ⟨S.I, S.lg, S.H.later (by omega), S.sum, S.r⟩
theorem fQ_eq {f f' : Nat → Int} {ch : List Nat} {hi : Nat} (h : ∀ y ∈ ch, f' (42 + y) = f (42 + y)) : fQ f' ch hi = fQ f ch hi := List.map_congr_left fun y hy => h y (List.mem_of_mem_drop hy)
theorem FHr.other {f h f' h' : Nat → Int} {os os' : List LOp} {lin lin' : List Nat} {G G' : Nat → Int} {mine mine' : Nat → Nat} {p : Nat} (R : FHr f h os lin G mine p) (same : ∀ j, j < 5 → h' (p * 5 + j) = h (p * 5 + j)) (hf : 1 ≤ h (p * 5 + 0) → h (p * 5 + 0) ≤ 4 → f' (42 + (h (p * 5 + 1)).toNat) = f (42 + (h (p * 5 + 1)).toNat))
    (hm : h (p * 5 + 0) ≠ 0 → mine' p = mine p) (ho : h (p * 5 + 0) ≠ 0 → ∀ o, os[mine p]? = some o → os'[mine p]? = some o) (hl : h (p * 5 + 0) ≠ 0 → (mine p ∈ lin' ↔ mine p ∈ lin)) (hG : ∀ y ∈ lin, G' y = G y) : FHr f' h' os' lin' G' mine' p := by
  obtain ⟨r1, r2, r3⟩ := R
  unfold FHr
  rw [same 0 (by omega), same 1 (by omega)]
  refine ⟨fun a1 a2 => ?_, fun a => ?_, fun a => ?_⟩
  · have hn : h (p * 5 + 0) ≠ 0 := by omega
    obtain ⟨o, o1, o2, o3, o4, o5, o6⟩ := r1 a1 a2
    rw [hm hn, hf a1 a2]
    exact ⟨o, ho hn o o1, o2, o3, o4, o5, fun hh => o6 ((hl hn).1 hh)⟩
  · have hn : h (p * 5 + 0) ≠ 0 := by omega
    obtain ⟨o, o1, o2, o3, o4, o5⟩ := r2 a
    rw [hm hn]
    exact ⟨o, ho hn o o1, o2, o3, (hl hn).2 o4, by rw [hG _ o4]; exact o5⟩
  · have hn : h (p * 5 + 0) ≠ 0 := by omega
    obtain ⟨o, o1, o2, o3, o4, o5⟩ := r3 a
    rw [hm hn]
    exact ⟨o, ho hn o o1, o2, o3, o4, fun hh => o5 ((hl hn).1 hh)⟩
theorem FRw.mne {N k : Nat} {f h ch hi ti os lin G mine} (S : FRw N k f h ch hi ti os lin G mine) {p q : Nat} (hp : p < N) (hq : q < N) (hne : p ≠ q) (bp : h (p * 5 + 0) ≠ 0) (bq : h (q * 5 + 0) ≠ 0) : mine p ≠ mine q := by
  obtain ⟨o, o1, o2, _⟩ := S.H.b p hp bp
  obtain ⟨o', o1', o2', _⟩ := S.H.b q hq bq
  intro he
  rw [he, o1'] at o1
  cases o1
  omega
theorem FRw.begin {N k : Nat} {f h ch hi ti os lin G mine} (S : FRw N k f h ch hi ti os lin G mine) {q : Nat} {kind arg : Int} {f' h' : Nat → Int} (hq : q < N) (h8 : os.length < 8) (hb : h (q * 5 + 0) = 0) (k0 : 0 ≤ kind ∧ kind ≤ 1) (a0 : 0 ≤ arg ∧ arg ≤ 1000)
    (I' : FInv N f' h' ch hi ti) (hf : ∀ j, j < 42 → f' j = f j) (hf2 : ∀ y : Nat, (y : Int) < f 82 → f' (42 + y) = f (42 + y)) (same : ∀ p j, p ≠ q → j < 5 → h' (p * 5 + j) = h (p * 5 + j))
    (hn : h' (q * 5 + 0) = 1 ∧ kind = 0 ∧ f' (42 + (h' (q * 5 + 1)).toNat) = arg ∨ h' (q * 5 + 0) = 6 ∧ kind = 1)
    {mine' : Nat → Nat} (e1 : mine' q = os.length) (e2 : ∀ p, p < N → p ≠ q → mine' p = mine p) : FRw N (k + 1) f' h' ch hi ti (os ++ [⟨q, kind, arg, 0, 2 * k, 0⟩]) lin G mine' := by
  obtain ⟨H1, H2⟩ := S.H.begin (kind := kind) (arg := arg) hq h8 (fun hh => hh hb) k0 a0 e1 e2
  have B := S.I.b
  refine ⟨I', ?_, H1.ext (fun p hp => ?_) (fun _ _ _ => rfl), ?_, fun p hp => ?_⟩
  · obtain ⟨tt, tt1, tt2⟩ := B.tl
    have := B.x40 tt1
    have ett : (f 1).toNat = tt := by omega
    have hn40 : (f (2 + tt)).toNat < 40 := by
      rcases B.next tt1 with ⟨_, hx⟩ | ⟨y, hy, hx⟩
      · rw [hx]; decide
      · have := B.x40 hy; omega
    have lg := S.lg
    unfold FLag at lg ⊢
    rw [hf 1 (by omega), ett, hf _ (by omega), hf _ (by omega)]
    rw [ett] at lg
    exact lg
  · show (p = q ∨ h (p * 5 + 0) ≠ 0) ↔ h' (p * 5 + 0) ≠ 0
    by_cases hpq : p = q
    · subst hpq
      exact ⟨fun _ => by omega, fun _ => .inl rfl⟩
    · rw [same p 0 hpq (by omega)]
      exact ⟨fun hh => hh.resolve_left hpq, .inr⟩
  · rw [H2, S.sum, fQ_eq fun y hy => hf2 y (B.lt y hy)]
  · by_cases hpq : p = q
    · subst hpq
      have hnl : mine' p ∉ lin := fun hh => by have := S.H.lt _ hh; omega
      refine ⟨fun a1 a2 => ?_, fun a => ?_, fun a => ?_⟩
      · rcases hn with ⟨c1, c2, c3⟩ | ⟨c1, _⟩
        · exact ⟨⟨p, kind, arg, 0, 2 * k, 0⟩, by rw [e1]; simp, rfl, c2, rfl, c3.symm, hnl⟩
        · omega
      · omega
      · rcases hn with ⟨c1, _⟩ | ⟨_, c2⟩
        · omega
        · exact ⟨⟨p, kind, arg, 0, 2 * k, 0⟩, by rw [e1]; simp, rfl, c2, rfl, hnl⟩
    · refine (S.r p hp).other (fun j hj => same p j hpq hj) (fun a1 a2 => ?_) (fun _ => e2 p hp hpq) (fun _ o ho => ?_) (fun _ => Iff.rfl) (fun _ _ => rfl)
      · obtain ⟨x, x1, x2, x3, _⟩ := (S.I.q p hp).fn a1 a2
        rw [show (h (p * 5 + 1)).toNat = x by omega]
        exact hf2 x x3
      · rw [List.getElem?_append_left (List.getElem?_eq_some_iff.1 ho).1]; exact ho
inductive FOut (N k : Nat) (f h : Nat → Int) (q : Nat) (os : List LOp) (mine : Nat → Nat) : Prop
  | on (ch : List Nat) (hi ti : Nat) (lin : List Nat) (G : Nat → Int) (e : (fStep f h q).2.2.1 = false) (S : FRw N (k + 1) (fStep f h q).1 (fStep f h q).2.1 ch hi ti os lin G mine)
  | done (ch : List Nat) (hi ti : Nat) (lin : List Nat) (G : Nat → Int) (o : LOp) (e : (fStep f h q).2.2.1 = true) (ho : os[mine q]? = some o) (S : FRw N (k + 1) (fStep f h q).1 (fStep f h q).2.1 ch hi ti (os.set (mine q) { o with got := (fStep f h q).2.2.2, too := 2 * k + 1 }) lin G mine)
theorem FRw.step {N k : Nat} {f h ch hi ti os lin G mine} (S : FRw N k f h ch hi ti os lin G mine) {q : Nat} (hq : q < N) (ha : h (q * 5 + 0) ≠ 0) : FOut N k f h q os mine := by
  obtain ⟨ch', hi', ti', I', T, hf, same⟩ := S.I.step hq ha
  obtain ⟨lg', _, _⟩ := S.I.vstep S.lg hq ha
  obtain ⟨F', hF⟩ : ∃ F', F' = (fStep f h q).1 := ⟨_, rfl⟩
  obtain ⟨h', hh'⟩ : ∃ h', h' = (fStep f h q).2.1 := ⟨_, rfl⟩
  obtain ⟨d, hd⟩ : ∃ d, d = (fStep f h q).2.2.1 := ⟨_, rfl⟩
  obtain ⟨v, hv⟩ : ∃ v, v = (fStep f h q).2.2.2 := ⟨_, rfl⟩
  rw [← hF, ← hh'] at I'
  rw [← hh', ← hd, ← hv] at T
  rw [← hF] at hf lg'
  rw [← hh'] at same
  have B := S.I.b
  have hfq : ∀ {c : List Nat} {j : Nat}, fQ F' c j = fQ f c j := fun {c j} => fQ_eq fun y _ => hf _ (by omega)
  obtain ⟨th, th1, th2⟩ := B.hd
  have hil := (List.getElem?_eq_some_iff.1 th1).1
  -- what the others do is as it was
  have oth : ∀ {os1 lin1 G1}, (∀ p, p < N → p ≠ q → h (p * 5 + 0) ≠ 0 → ∀ o, os[mine p]? = some o → os1[mine p]? = some o) → (∀ p, p < N → p ≠ q → h (p * 5 + 0) ≠ 0 → (mine p ∈ lin1 ↔ mine p ∈ lin)) → (∀ y ∈ lin, G1 y = G y) → FHr F' h' os1 lin1 G1 mine q → ∀ p, p < N → FHr F' h' os1 lin1 G1 mine p := by
    intro os1 lin1 G1 c1 c2 c3 c4 p hp
    by_cases hpq : p = q
    · subst hpq; exact c4
    · exact (S.r p hp).other (fun j hj => same p j hpq hj) (fun _ _ => hf _ (by omega)) (fun _ => rfl) (c1 p hp hpq) (c2 p hp hpq) c3
  have busy : ∀ {os1 lin1 G1}, HI 2 N (k + 1) os1 lin1 G1 mine (fun p => h (p * 5 + 0) ≠ 0) → h' (q * 5 + 0) ≠ 0 → HI 2 N (k + 1) os1 lin1 G1 mine (fun p => h' (p * 5 + 0) ≠ 0) := fun {os1 lin1 G1} H1 h1 => H1.ext (fun p _ => by
    by_cases hpq : p = q
    · subst hpq; exact ⟨fun _ => h1, fun _ => ha⟩
    · show h (p * 5 + 0) ≠ 0 ↔ h' (p * 5 + 0) ≠ 0
      rw [same p 0 hpq (by omega)]) (fun _ _ _ => rfl)
  have rest : ∀ {os1 lin1 G1}, HI 2 N (k + 1) os1 lin1 G1 mine (fun p => p ≠ q ∧ h (p * 5 + 0) ≠ 0) → h' (q * 5 + 0) = 0 → HI 2 N (k + 1) os1 lin1 G1 mine (fun p => h' (p * 5 + 0) ≠ 0) := fun {os1 lin1 G1} H1 h1 => H1.ext (fun p _ => by
    show (p ≠ q ∧ h (p * 5 + 0) ≠ 0) ↔ h' (p * 5 + 0) ≠ 0
    by_cases hpq : p = q
    · subst hpq; exact ⟨fun hh => absurd rfl hh.1, fun hh => absurd h1 hh⟩
    · rw [same p 0 hpq (by omega)]
      exact ⟨fun hh => hh.2, fun hh => ⟨hpq, hh⟩⟩) (fun _ _ _ => rfl)
  have setne : ∀ {x : LOp}, ∀ p, p < N → p ≠ q → h (p * 5 + 0) ≠ 0 → ∀ o, os[mine p]? = some o → (os.set (mine q) x)[mine p]? = some o := fun {x} p hp hpq hb o ho => by
    rw [List.getElem?_set_ne (Ne.symm (S.mne hp hq hpq hb ha))]; exact ho
  have app : ∀ p, p < N → p ≠ q → h (p * 5 + 0) ≠ 0 → (mine p ∈ lin ++ [mine q] ↔ mine p ∈ lin) := fun p hp hpq hb => by
    have := S.mne hp hq hpq hb ha
    simp [this]
  have hfin : ∀ {ch1 hi1 ti1 lin1 G1 o}, FInv N F' h' ch1 hi1 ti1 → HI 2 N k os lin1 G1 mine (fun p => h (p * 5 + 0) ≠ 0) → os[mine q]? = some o → mine q ∈ lin1 → G1 (mine q) = v → hst 2 os lin1 = fQ f ch1 hi1 → h' (q * 5 + 0) = 0 → d = true → (∀ p, p < N → p ≠ q → h (p * 5 + 0) ≠ 0 → (mine p ∈ lin1 ↔ mine p ∈ lin)) → (∀ y ∈ lin, G1 y = G y) → FOut N k f h q os mine := by
    intro ch1 hi1 ti1 lin1 G1 o J1 H1 ho hm hG hs h0 hdt hl hG2
    obtain ⟨P1, P2⟩ := H1.over hq ha ho hm
    rw [hG] at P1 P2
    refine .done ch1 hi1 ti1 lin1 G1 o (hd ▸ hdt) ho ?_
    rw [← hF, ← hh', ← hv]
    exact ⟨J1, lg', rest P1 h0, by rw [P2, hs, hfq], oth setne hl hG2 (FHr.idle h0)⟩
  cases T with
  | sil a1 a2 a3 a4 a5 =>
    refine .on ch hi ti' lin G hd.symm ?_
    rw [← hF, ← hh']
    refine ⟨I', lg', busy (S.H.later (by omega)) a2, by rw [S.sum, hfq], oth (fun _ _ _ _ _ ho => ho) (fun _ _ _ _ => Iff.rfl) (fun _ _ => rfl) ?_⟩
    have hr := (S.I.q q hq).r
    have key : 6 ≤ h' (q * 5 + 0) → 6 ≤ h (q * 5 + 0) := fun b => by
      have : ¬ (1 ≤ h (q * 5 + 0) ∧ h (q * 5 + 0) ≤ 4) := fun hh => by have := a4.1 hh; omega
      omega
    obtain ⟨r1, r2, r3⟩ := S.r q hq
    refine ⟨fun b1 b2 => ?_, fun b => absurd b a3, fun b => ?_⟩
    · rw [a5, hf _ (by omega)]
      exact r1 (a4.2 ⟨b1, b2⟩).1 (a4.2 ⟨b1, b2⟩).2
    · exact r3 (key b)
  | link x a1 a2 a3 a4 a5 =>
    obtain ⟨o, o1, o2, o3, o4, o5, o6⟩ := (S.r q hq).1 (by omega) (by omega)
    obtain ⟨P1, P2⟩ := S.H.point (G' := fun y => if y = mine q then -1 else G y) o1 o4 o6 (by rw [if_pos rfl]; unfold lgot lget; rw [if_neg (by omega), if_pos o3]) (fun y hy => if_neg fun hc : y = mine q => o6 (hc ▸ hy))
    refine .on (ch ++ [x]) hi ti' (lin ++ [mine q]) (fun y => if y = mine q then -1 else G y) hd.symm ?_
    rw [← hF, ← hh']
    refine ⟨I', lg', busy (P1.later (by omega)) (by omega), ?_, oth (fun _ _ _ _ _ ho => ho) app (fun y hy => if_neg fun hc : y = mine q => o6 (hc ▸ hy)) ⟨fun _ => by omega, fun _ => ⟨o, o1, o2, o4, by simp, if_pos rfl⟩, fun _ => by omega⟩⟩
    rw [P2, S.sum, hfq]
    unfold lgo lget
    rw [if_neg (by omega), if_pos o3, o5, a2, Int.toNat_natCast]
    unfold fQ
    rw [List.drop_append_of_le_length (by omega), List.map_append]
    rfl
  | over a1 a2 =>
    obtain ⟨o, o1, o2, o3, o4, o5⟩ := (S.r q hq).2.1 a1
    exact hfin I' S.H o1 o4 o5 S.sum a2 rfl (fun _ _ _ _ => Iff.rfl) (fun _ _ => rfl)
  | none a1 a2 a3 =>
    obtain ⟨o, o1, o2, o3, o4, o5⟩ := (S.r q hq).2.2 (by omega)
    have he : fQ f ch hi = [] := by unfold fQ; rw [List.drop_of_length_le (by omega)]; rfl
    have hst0 := S.sum
    rw [he] at hst0
    obtain ⟨P1, P2⟩ := S.H.point (G' := fun y => if y = mine q then -1 else G y) o1 o4 o5 (by rw [if_pos rfl, hst0]; unfold lgot lget; rw [if_neg (by omega), if_neg (by omega)]; rfl) (fun y hy => if_neg fun hc : y = mine q => o5 (hc ▸ hy))
    refine hfin I' P1 o1 (by simp) (if_pos rfl) ?_ a3 rfl app (fun y hy => if_neg fun hc : y = mine q => o5 (hc ▸ hy))
    rw [P2, hst0, he]
    unfold lgo lget
    rw [if_neg (by omega), if_neg (by omega)]
    rfl
  | got y a1 a2 a3 =>
    obtain ⟨o, o1, o2, o3, o4, o5⟩ := (S.r q hq).2.2 (by omega)
    have he : fQ f ch hi = f (42 + y) :: fQ f ch (hi + 1) := by
      obtain ⟨g1, g2⟩ := List.getElem?_eq_some_iff.1 a2
      unfold fQ
      rw [List.drop_eq_getElem_cons g1, g2]
      rfl
    have hst0 := S.sum
    rw [he] at hst0
    obtain ⟨P1, P2⟩ := S.H.point (G' := fun z => if z = mine q then f (42 + y) else G z) o1 o4 o5 (by rw [if_pos rfl, hst0]; unfold lgot lget; rw [if_neg (by omega), if_neg (by omega), if_neg (by simp), if_neg (by omega)]; rfl) (fun y hy => if_neg fun hc : y = mine q => o5 (hc ▸ hy))
    refine hfin I' P1 o1 (by simp) (if_pos rfl) ?_ a3 rfl app (fun y hy => if_neg fun hc : y = mine q => o5 (hc ▸ hy))
    rw [P2, hst0]
    unfold lgo lget
    rw [if_neg (by omega), if_neg (by omega), if_neg (by simp), if_neg (by omega)]
    rfl
end Go.Proofs.Ytogbkgimpkaemaa
