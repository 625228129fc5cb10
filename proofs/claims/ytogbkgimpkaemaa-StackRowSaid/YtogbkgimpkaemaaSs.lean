import Derived.Test.YtogbkgimpkaemaaSr
import Derived.Test.YtogbkgimpkaemaaHS
namespace Go.Proofs.Ytogbkgimpkaemaa
open Go.Eng
set_option maxRecDepth 20000
/-! ### what StackRow keeps of a history, plain -/
def sQ (s : SK) (ch : List Nat) : List Int := (ch.map s.V).reverse
def SHr (s : SK) (os : List LOp) (lin : List Nat) (mine : Nat → Nat) (p : Nat) : Prop :=
  (s.h (p * 5 + 0) = 1 ∨ s.h (p * 5 + 0) = 2 → ∃ o, os[mine p]? = some o ∧ o.hand = p ∧ o.kind = 0 ∧ o.too = 0 ∧ o.arg = s.V (s.h (p * 5 + 1)).toNat ∧ mine p ∉ lin) ∧
  (3 ≤ s.h (p * 5 + 0) → ∃ o, os[mine p]? = some o ∧ o.hand = p ∧ o.kind = 1 ∧ o.too = 0 ∧ mine p ∉ lin)
structure SRw (N k : Nat) (s : SK) (ch : List Nat) (os : List LOp) (lin : List Nat) (G : Nat → Int) (mine : Nat → Nat) : Prop where
  I : KI N s k
  A : CA N s ch
  H : HI 1 N k os lin G mine (fun p => s.h (p * 5 + 0) ≠ 0)
  sum : hst 1 os lin = sQ s ch
  r : ∀ p, p < N → SHr s os lin mine p
theorem SHr.idle {s : SK} {os lin mine} {p : Nat} (h0 : s.h (p * 5 + 0) = 0) : SHr s os lin mine p := ⟨fun _ => by omega, fun _ => by omega⟩
theorem SRw.start {N : Nat} (hN : N ≤ 4) (mine : Nat → Nat) : SRw N 0 (k0 true) [] [] [] (fun _ => 0) mine where
  I := KI.start N true
  A := CA.start N
  H := (HI.start hN _ mine).ext (fun p _ => ⟨fun h => False.elim h, fun h => absurd rfl h⟩) (fun _ _ h => False.elim h)
  sum := rfl
  r := fun p _ => SHr.idle rfl
theorem SRw.later {N k : Nat} {s ch os lin G mine} (S : SRw N k s ch os lin G mine) : SRw N (k + 1) s ch os lin G mine := ⟨S.I.mono (by omega), S.A, S.H.later (by omega), S.sum, S.r⟩
theorem SHr.other {s s' : SK} {os os' : List LOp} {lin lin' : List Nat} {mine mine' : Nat → Nat} {p : Nat} (R : SHr s os lin mine p) (same : ∀ j, j < 5 → s'.h (p * 5 + j) = s.h (p * 5 + j)) (hf : s.h (p * 5 + 0) = 1 ∨ s.h (p * 5 + 0) = 2 → s'.V (s.h (p * 5 + 1)).toNat = s.V (s.h (p * 5 + 1)).toNat)
    (hm : s.h (p * 5 + 0) ≠ 0 → mine' p = mine p) (ho : s.h (p * 5 + 0) ≠ 0 → ∀ o, os[mine p]? = some o → os'[mine p]? = some o) (hl : s.h (p * 5 + 0) ≠ 0 → (mine p ∈ lin' ↔ mine p ∈ lin)) : SHr s' os' lin' mine' p := by
  obtain ⟨r1, r2⟩ := R
  unfold SHr
  rw [same 0 (by omega), same 1 (by omega)]
  refine ⟨fun a => ?_, fun a => ?_⟩
  · have hn : s.h (p * 5 + 0) ≠ 0 := by omega
    obtain ⟨o, o1, o2, o3, o4, o5, o6⟩ := r1 a
    rw [hm hn, hf a]
    exact ⟨o, ho hn o o1, o2, o3, o4, o5, fun hh => o6 ((hl hn).1 hh)⟩
  · have hn : s.h (p * 5 + 0) ≠ 0 := by omega
    obtain ⟨o, o1, o2, o3, o4, o5⟩ := r2 a
    rw [hm hn]
    exact ⟨o, ho hn o o1, o2, o3, o4, fun hh => o5 ((hl hn).1 hh)⟩
theorem SRw.mne {N k : Nat} {s ch os lin G mine} (S : SRw N k s ch os lin G mine) {p q : Nat} (hp : p < N) (hq : q < N) (hne : p ≠ q) (bp : s.h (p * 5 + 0) ≠ 0) (bq : s.h (q * 5 + 0) ≠ 0) : mine p ≠ mine q := by
  obtain ⟨o, o1, o2, _⟩ := S.H.b p hp bp
  obtain ⟨o', o1', o2', _⟩ := S.H.b q hq bq
  intro he
  rw [he, o1'] at o1
  cases o1
  omega
theorem SRw.begin {N k : Nat} {s s' : SK} {ch os lin G mine} {vs : List Int} (S : SRw N k s ch os lin G mine) {q : Nat} {kind arg : Int} (hq : q < N) (h8 : os.length < 8) (hb : s.h (q * 5 + 0) = 0) (k0 : 0 ≤ kind ∧ kind ≤ 1) (a0 : 0 ≤ arg ∧ arg ≤ 1000)
    (I' : KI N s' k) (A' : CA N s' ch) (hh : s'.h = kHand s.h q vs) (hV : ∀ x, s.U x = true → s'.V x = s.V x)
    (hn : gI vs 0 = 1 ∧ kind = 0 ∧ s'.V (gI vs 1).toNat = arg ∨ gI vs 0 = 3 ∧ kind = 1)
    {mine' : Nat → Nat} (e1 : mine' q = os.length) (e2 : ∀ p, p < N → p ≠ q → mine' p = mine p) : SRw N (k + 1) s' ch (os ++ [⟨q, kind, arg, 0, 2 * k, 0⟩]) lin G mine' := by
  obtain ⟨H1, H2⟩ := S.H.begin (kind := kind) (arg := arg) hq h8 (fun hh => hh hb) k0 a0 e1 e2
  have same : ∀ {p : Nat}, p ≠ q → ∀ j, j < 5 → s'.h (p * 5 + j) = s.h (p * 5 + j) := fun {p} hp j hj => by rw [hh, kHand_ne hp hj]
  have q0 : s'.h (q * 5 + 0) = gI vs 0 := by rw [hh, kHand_same (by omega)]
  have q1 : s'.h (q * 5 + 1) = gI vs 1 := by rw [hh, kHand_same (by omega)]
  refine ⟨I'.mono (by omega), A', H1.ext (fun p hp => ?_) (fun _ _ _ => rfl), ?_, fun p hp => ?_⟩
  · show (p = q ∨ s.h (p * 5 + 0) ≠ 0) ↔ s'.h (p * 5 + 0) ≠ 0
    by_cases hpq : p = q
    · subst hpq
      exact ⟨fun _ => by omega, fun _ => .inl rfl⟩
    · rw [same hpq 0 (by omega)]
      exact ⟨fun hh => hh.resolve_left hpq, .inr⟩
  · rw [H2, S.sum]
    unfold sQ
    rw [List.map_congr_left (fun x hx => (hV x (S.A.c.us x hx)).symm)]
  · by_cases hpq : p = q
    · subst hpq
      have hnl : mine' p ∉ lin := fun hh => by have := S.H.lt _ hh; omega
      refine ⟨fun a => ?_, fun a => ?_⟩
      · rcases hn with ⟨c1, c2, c3⟩ | ⟨c1, _⟩
        · exact ⟨⟨p, kind, arg, 0, 2 * k, 0⟩, by rw [e1]; simp, rfl, c2, rfl, by rw [q1]; exact c3.symm, hnl⟩
        · omega
      · rcases hn with ⟨c1, _⟩ | ⟨_, c2⟩
        · omega
        · exact ⟨⟨p, kind, arg, 0, 2 * k, 0⟩, by rw [e1]; simp, rfl, c2, rfl, hnl⟩
    · refine (S.r p hp).other (same hpq) (fun a => hV _ ((S.A.q p hp).new a).1) (fun _ => e2 p hp hpq) (fun _ o ho => ?_) (fun _ => Iff.rfl)
      rw [List.getElem?_append_left (List.getElem?_eq_some_iff.1 ho).1]; exact ho
inductive SOut (N k : Nat) (s : SK) (q : Nat) (os : List LOp) (mine : Nat → Nat) : Prop
  | on (ch : List Nat) (lin : List Nat) (G : Nat → Int) (e : (kStep s q).2.1 = false) (S : SRw N (k + 1) (kStep s q).1 ch os lin G mine)
  | done (ch : List Nat) (lin : List Nat) (G : Nat → Int) (o : LOp) (e : (kStep s q).2.1 = true) (ho : os[mine q]? = some o) (S : SRw N (k + 1) (kStep s q).1 ch (os.set (mine q) { o with got := (kStep s q).2.2, too := 2 * k + 1 }) lin G mine)
theorem SRw.step {N k : Nat} {s ch os lin G mine} (S : SRw N k s ch os lin G mine) {q : Nat} (hq : q < N) (ha : s.h (q * 5 + 0) ≠ 0) : SOut N k s q os mine := by
  obtain ⟨ch', A', T, hV, vs, hh⟩ := S.A.step S.I hq ha
  have I' := S.I.step hq
  obtain ⟨s', hs'⟩ : ∃ s', s' = (kStep s q).1 := ⟨_, rfl⟩
  obtain ⟨d, hd⟩ : ∃ d, d = (kStep s q).2.1 := ⟨_, rfl⟩
  obtain ⟨v, hv⟩ : ∃ v, v = (kStep s q).2.2 := ⟨_, rfl⟩
  rw [← hs'] at I' A' hV hh
  have same : ∀ {p : Nat}, p ≠ q → ∀ j, j < 5 → s'.h (p * 5 + j) = s.h (p * 5 + j) := fun {p} hp j hj => by rw [hh, kHand_ne hp hj]
  have hsQ : ∀ {c : List Nat}, sQ s' c = sQ s c := fun {c} => by unfold sQ; rw [hV]
  have oth : ∀ {os1 lin1}, (∀ p, p < N → p ≠ q → s.h (p * 5 + 0) ≠ 0 → ∀ o, os[mine p]? = some o → os1[mine p]? = some o) → (∀ p, p < N → p ≠ q → s.h (p * 5 + 0) ≠ 0 → (mine p ∈ lin1 ↔ mine p ∈ lin)) → SHr s' os1 lin1 mine q → ∀ p, p < N → SHr s' os1 lin1 mine p := by
    intro os1 lin1 c1 c2 c4 p hp
    by_cases hpq : p = q
    · subst hpq; exact c4
    · exact (S.r p hp).other (same hpq) (fun _ => by rw [hV]) (fun _ => rfl) (c1 p hp hpq) (c2 p hp hpq)
  have rest : ∀ {os1 lin1 G1}, HI 1 N (k + 1) os1 lin1 G1 mine (fun p => p ≠ q ∧ s.h (p * 5 + 0) ≠ 0) → s'.h (q * 5 + 0) = 0 → HI 1 N (k + 1) os1 lin1 G1 mine (fun p => s'.h (p * 5 + 0) ≠ 0) := fun {os1 lin1 G1} H1 h1 => H1.ext (fun p _ => by
    show (p ≠ q ∧ s.h (p * 5 + 0) ≠ 0) ↔ s'.h (p * 5 + 0) ≠ 0
    by_cases hpq : p = q
    · subst hpq; exact ⟨fun hh => absurd rfl hh.1, fun hh => absurd h1 hh⟩
    · rw [same hpq 0 (by omega)]
      exact ⟨fun hh => hh.2, fun hh => ⟨hpq, hh⟩⟩) (fun _ _ _ => rfl)
  have setne : ∀ {x : LOp}, ∀ p, p < N → p ≠ q → s.h (p * 5 + 0) ≠ 0 → ∀ o, os[mine p]? = some o → (os.set (mine q) x)[mine p]? = some o := fun {x} p hp hpq hb o ho => by
    rw [List.getElem?_set_ne (Ne.symm (S.mne hp hq hpq hb ha))]; exact ho
  have app : ∀ p, p < N → p ≠ q → s.h (p * 5 + 0) ≠ 0 → (mine p ∈ lin ++ [mine q] ↔ mine p ∈ lin) := fun p hp hpq hb => by
    have := S.mne hp hq hpq hb ha
    simp [this]
  -- the op is over, its point is now
  have hfin : ∀ {o : LOp} {y : Int}, os[mine q]? = some o → o.too = 0 → mine q ∉ lin → y = lgot 1 (sQ s ch) o → lgo 1 (sQ s ch) o = sQ s ch' → d = true → v = y → s'.h (q * 5 + 0) = 0 → SOut N k s q os mine := by
    intro o y ho h0 hnl hy hg hdt hvy hz
    obtain ⟨P1, P2⟩ := S.H.point (G' := fun x => if x = mine q then y else G x) ho h0 hnl (by rw [if_pos rfl, S.sum]; exact hy) (fun x hx => if_neg fun hc : x = mine q => hnl (hc ▸ hx))
    obtain ⟨Q1, Q2⟩ := P1.over hq ha ho (by simp)
    rw [if_pos rfl] at Q1 Q2
    refine .done ch' (lin ++ [mine q]) (fun x => if x = mine q then y else G x) o (hd ▸ hdt) ho ?_
    rw [← hs', ← hv, hvy]
    exact ⟨by simpa using I', A', rest Q1 hz, by rw [Q2, P2, S.sum, hg, hsQ], oth setne app (SHr.idle hz)⟩
  cases T with
  | sil e d0 a k1 k2 m =>
    rw [← hs'] at a k1 k2 m
    refine .on ch lin G d0 ?_
    rw [← hs']
    subst e
    refine ⟨by simpa using I', A', (S.H.later (by omega)).ext (fun p _ => ?_) (fun _ _ _ => rfl), by rw [S.sum, hsQ], oth (fun _ _ _ _ _ ho => ho) (fun _ _ _ _ => Iff.rfl) ?_⟩
    · by_cases hpq : p = q
      · subst hpq; exact ⟨fun _ => a, fun _ => ha⟩
      · show s.h (p * 5 + 0) ≠ 0 ↔ s'.h (p * 5 + 0) ≠ 0
        rw [same hpq 0 (by omega)]
    · obtain ⟨r1, r2⟩ := S.r q hq
      exact ⟨fun b => by rw [m, hV]; exact r1 (k1 b), fun b => r2 (k2 b)⟩
  | push x e hx d0 g a a' =>
    rw [← hs'] at a'
    obtain ⟨o, o1, o2, o3, o4, o5, o6⟩ := (S.r q hq).1 (.inr a)
    rw [hx, Int.toNat_natCast] at o5
    refine hfin (y := -1) o1 o4 o6 (by unfold lgot lget; rw [if_neg (by omega), if_pos o3]) ?_ (hd.trans d0) (hv.trans g) a'
    unfold lgo lget
    rw [if_neg (by omega), if_pos o3, o5, e]
    unfold sQ
    simp
  | none e e' d0 g a a' =>
    rw [← hs'] at a'
    obtain ⟨o, o1, o2, o3, o4, o5⟩ := (S.r q hq).2 (by omega)
    subst e e'
    refine hfin (y := -1) o1 o4 o5 (by unfold lgot lget; rw [if_neg (by omega), if_neg (by omega)]; rfl) ?_ (hd.trans d0) (hv.trans g) a'
    unfold lgo lget
    rw [if_neg (by omega), if_neg (by omega)]
    rfl
  | pop x e d0 g a a' =>
    rw [← hs'] at a'
    obtain ⟨o, o1, o2, o3, o4, o5⟩ := (S.r q hq).2 (by omega)
    have he : sQ s ch = sQ s ch' ++ [s.V x] := by rw [e]; unfold sQ; simp
    refine hfin (y := s.V x) o1 o4 o5 ?_ ?_ (hd.trans d0) (hv.trans g) a'
    · rw [he]
      unfold lgot lget
      rw [if_neg (by omega), if_neg (by omega), if_neg (by simp), if_pos rfl]
      simp [gI]
    · rw [he]
      unfold lgo lget
      rw [if_neg (by omega), if_neg (by omega), if_neg (by simp), if_pos rfl]
      simp
theorem kPush_cases (n : Nat) (s : SK) (q v : Int) (hv : 0 ≤ v ∧ v ≤ 1000) : ((kPush n s q v).1 = s ∧ (kPush n s q v).2 ≠ 0) ∨ (kPush n s q v = (kPut s q.toNat v, 0) ∧ kLeast s.U ≠ 4 ∧ (0 ≤ q ∧ q ≤ (n : Int) - 1) ∧ s.h (q.toNat * 5 + 0) = 0) := by
  unfold kPush
  rw [if_neg (not_not_intro hv)]
  by_cases h1 : kFree n s.h q ≠ 0
  · rw [if_pos h1]; exact .inl ⟨rfl, h1⟩
  · rw [if_neg h1]
    have h1 := kFree_zero (Classical.byContradiction h1)
    by_cases h2 : kLeast s.U = 4
    · rw [if_pos h2]; exact .inl ⟨rfl, show (4 : Int) ≠ 0 by decide⟩
    · rw [if_neg h2]; exact .inr ⟨rfl, h2, h1.1, h1.2⟩
theorem kPop_cases (n : Nat) (s : SK) (q : Int) : ((kPop n s q).1 = s ∧ (kPop n s q).2 ≠ 0) ∨ (kPop n s q = ({ s with h := kHand s.h q.toNat [3, 0, 0, 0, 0] }, 0) ∧ (0 ≤ q ∧ q ≤ (n : Int) - 1) ∧ s.h (q.toNat * 5 + 0) = 0) := by
  unfold kPop
  by_cases h1 : kFree n s.h q ≠ 0
  · rw [if_pos h1]; exact .inl ⟨rfl, h1⟩
  · rw [if_neg h1]
    have h1 := kFree_zero (Classical.byContradiction h1)
    exact .inr ⟨rfl, h1.1, h1.2⟩
end Go.Proofs.Ytogbkgimpkaemaa
