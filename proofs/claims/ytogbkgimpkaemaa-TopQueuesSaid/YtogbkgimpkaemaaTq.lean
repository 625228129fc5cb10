import Derived.Test.YtogbkgimpkaemaaFr
import Derived.Test.YtogbkgimpkaemaaRg
namespace Go.Proofs.Ytogbkgimpkaemaa
open Go.Eng
set_option maxRecDepth 20000
/-! ### two queues, each alone, plain -/
def PutSt (Q : List Int) (v : Int) (f h : Nat → Int) (ch : List Nat) (hi : Nat) : Prop := (1 ≤ h (0 * 5 + 0) ∧ h (0 * 5 + 0) ≤ 4 ∧ fQ f ch hi = Q ∧ f (42 + (h (0 * 5 + 1)).toNat) = v) ∨ (h (0 * 5 + 0) = 5 ∧ fQ f ch hi = Q ++ [v])
def GetSt (Q : List Int) (f h : Nat → Int) (ch : List Nat) (hi : Nat) : Prop := 6 ≤ h (0 * 5 + 0) ∧ fQ f ch hi = Q
theorem fV1 {f h : Nat → Int} (ha : h (0 * 5 + 0) = 1 ∨ h (0 * 5 + 0) = 6) : fV 1 f h 0 ≤ 8 := by
  have h1 : cP 1 h 0 = 0 := by
    have := cnt_lt (n := 1) (P := fun p => p ≠ 0 ∧ isP h p) (Q := fun _ => True) (x := 0) (fun _ _ _ => trivial) (by omega) trivial (fun h => h.1 rfl)
    have := cnt_top (n := 1) (P := fun _ => True)
    unfold cP; omega
  have h2 : cG 1 h 0 = 0 := by
    have := cnt_lt (n := 1) (P := fun p => p ≠ 0 ∧ isG h p) (Q := fun _ => True) (x := 0) (fun _ _ _ => trivial) (by omega) trivial (fun h => h.1 rfl)
    have := cnt_top (n := 1) (P := fun _ => True)
    unfold cG; omega
  have h3 := flag_le (f := f)
  rcases ha with ha | ha
  · rw [fV_P ha (by omega) (by omega), h1]
    have : dP f 1 (h (0 * 5 + 3)) = 0 := by simp [dP]
    rw [this]
    show 4 + _ + _ + _ ≤ 8
    omega
  · rw [fV_G ha (by omega), h2]
    have : dG f 6 (h (0 * 5 + 2)) (h (0 * 5 + 3)) = 0 := by simp [dG]
    rw [this]
    show 4 + _ + _ + _ ≤ 8
    omega
theorem fone {f h : Nat → Int} {ch : List Nat} {hi ti : Nat} (I : FInv 1 f h ch hi ti) (lg : FLag f) (ha : h (0 * 5 + 0) ≠ 0) : ∃ ch' hi' ti', FInv 1 (fStep f h 0).1 (fStep f h 0).2.1 ch' hi' ti' ∧ FLag (fStep f h 0).1 ∧ fV 1 (fStep f h 0).1 (fStep f h 0).2.1 0 + 1 ≤ fV 1 f h 0 ∧ (fStep f h 0).1 82 = f 82 ∧
    (∀ Q v, PutSt Q v f h ch hi → ((fStep f h 0).2.2.1 = false ∧ PutSt Q v (fStep f h 0).1 (fStep f h 0).2.1 ch' hi') ∨ ((fStep f h 0).2.2.1 = true ∧ (fStep f h 0).2.1 (0 * 5 + 0) = 0 ∧ fQ (fStep f h 0).1 ch' hi' = Q ++ [v])) ∧
    (∀ Q, GetSt Q f h ch hi → ((fStep f h 0).2.2.1 = false ∧ GetSt Q (fStep f h 0).1 (fStep f h 0).2.1 ch' hi') ∨ ((fStep f h 0).2.2.1 = true ∧ (fStep f h 0).2.1 (0 * 5 + 0) = 0 ∧ ((Q = [] ∧ (fStep f h 0).2.2.2 = -1 ∧ fQ (fStep f h 0).1 ch' hi' = []) ∨ Q = (fStep f h 0).2.2.2 :: fQ (fStep f h 0).1 ch' hi'))) := by
  obtain ⟨ch', hi', ti', I', T, hf, same⟩ := I.step (by omega) ha
  obtain ⟨lg', v1, _⟩ := I.vstep lg (by omega) ha
  refine ⟨ch', hi', ti', I', lg', v1, hf 82 (by omega), ?_⟩
  generalize (fStep f h 0).1 = F' at *
  generalize (fStep f h 0).2.1 = h' at *
  generalize (fStep f h 0).2.2.1 = d at *
  generalize (fStep f h 0).2.2.2 = g at *
  have B := I.b
  have hfq : ∀ {c : List Nat} {j : Nat}, fQ F' c j = fQ f c j := fun {c j} => fQ_eq fun y _ => hf _ (by omega)
  obtain ⟨th, th1, th2⟩ := B.hd
  have hil := (List.getElem?_eq_some_iff.1 th1).1
  have hr := (I.q 0 (by omega)).r
  cases T with
  | sil a1 a2 a3 a4 a5 =>
    refine ⟨fun Q v hp => .inl ⟨rfl, ?_⟩, fun Q hg => .inl ⟨rfl, ?_⟩⟩
    · rcases hp with ⟨p1, p2, p3, p4⟩ | ⟨p1, _⟩
      · exact .inl ⟨(a4.1 ⟨p1, p2⟩).1, (a4.1 ⟨p1, p2⟩).2, by rw [hfq, p3], by rw [a5, hf _ (by omega), p4]⟩
      · exact absurd p1 a1
    · obtain ⟨g1, g2⟩ := hg
      refine ⟨?_, by rw [hfq, g2]⟩
      have hr' := (I'.q 0 (by omega)).r
      have : ¬ (1 ≤ h' (0 * 5 + 0) ∧ h' (0 * 5 + 0) ≤ 4) := fun hh => by have := a4.2 hh; omega
      omega
  | link x a1 a2 a3 a4 a5 =>
    refine ⟨fun Q v hp => .inl ⟨rfl, .inr ⟨a4, ?_⟩⟩, fun Q hg => by obtain ⟨g1, _⟩ := hg; omega⟩
    rcases hp with ⟨p1, p2, p3, p4⟩ | ⟨p1, _⟩
    · rw [hfq, ← p3, ← p4, a2, Int.toNat_natCast]
      unfold fQ
      rw [List.drop_append_of_le_length (by omega), List.map_append]
      rfl
    · omega
  | over a1 a2 =>
    refine ⟨fun Q v hp => .inr ⟨rfl, a2, ?_⟩, fun Q hg => by obtain ⟨g1, _⟩ := hg; omega⟩
    rcases hp with ⟨p1, p2, _⟩ | ⟨p1, p2⟩
    · omega
    · rw [hfq, p2]
  | none a1 a2 a3 =>
    refine ⟨fun Q v hp => by rcases hp with ⟨p1, p2, _⟩ | ⟨p1, p2⟩ <;> omega, fun Q hg => .inr ⟨rfl, a3, .inl ?_⟩⟩
    obtain ⟨g1, g2⟩ := hg
    have he : fQ f ch hi = [] := by unfold fQ; rw [List.drop_of_length_le (by omega)]; rfl
    exact ⟨by rw [← g2, he], rfl, by rw [hfq, he]⟩
  | got y a1 a2 a3 =>
    refine ⟨fun Q v hp => by rcases hp with ⟨p1, p2, _⟩ | ⟨p1, p2⟩ <;> omega, fun Q hg => .inr ⟨rfl, a3, .inr ?_⟩⟩
    obtain ⟨g1, g2⟩ := hg
    rw [← g2, hfq]
    obtain ⟨g1, g2⟩ := List.getElem?_eq_some_iff.1 a2
    unfold fQ
    rw [List.drop_eq_getElem_cons g1, g2]
    rfl
/-- what a ring holds -/
structure RQ (r : Ring) (Q : List Int) : Prop where
  l : r.places.length = 8
  hd : ∃ k : Nat, r.head = k ∧ r.tail = k + Q.length ∧ ∀ j : Nat, j < Q.length → r.places[(k + j) % 8]? = Q[j]?
  q8 : Q.length ≤ 8
def rPut (r : Ring) (v : Int) : Nat → Ring
  | 0 => { r with ia := 1, iv := v }
  | 1 => { r with ia := 2, iv := v }
  | 2 => { r with ia := 3, iv := v, places := r.places.set (r.tail.tmod r.places.length).toNat v }
  | _ => { r with ia := 0, iv := 0, tail := r.tail + 1, places := r.places.set (r.tail.tmod r.places.length).toNat v }
def rGet (r : Ring) (v : Int) : Nat → Ring
  | 0 => { r with oa := 4, ov := 0 }
  | 1 => { r with oa := 5, ov := 0 }
  | 2 => { r with oa := 6, ov := v }
  | _ => { r with oa := 0, ov := 0, head := r.head + 1 }
theorem RQ.put {r : Ring} {Q : List Int} (h : RQ r Q) {v : Int} (h8 : Q.length < 8) {k : Nat} (hk : 3 ≤ k) : RQ (rPut r v k) (Q ++ [v]) := by
  obtain ⟨l, ⟨d, d1, d2, d3⟩, q8⟩ := h
  have e : rPut r v k = { r with ia := 0, iv := 0, tail := r.tail + 1, places := r.places.set (r.tail.tmod r.places.length).toNat v } := by
    obtain ⟨j, rfl⟩ : ∃ j, k = j + 3 := ⟨k - 3, by omega⟩
    rfl
  rw [e]
  have ht : (r.tail.tmod (r.places.length : Int)).toNat = (d + Q.length) % 8 := by
    rw [d2, l]
    have : Int.tmod ((d : Int) + (Q.length : Int)) ((8 : Nat) : Int) = (((d + Q.length) % 8 : Nat) : Int) := by
      rw [← Int.natCast_add]; rfl
    rw [this, Int.toNat_natCast]
  refine ⟨by simpa using l, ⟨d, d1, by simp only [d2, List.length_append, List.length_singleton]; omega, fun j hj => ?_⟩, by simp; omega⟩
  simp only [List.length_append, List.length_singleton] at hj
  dsimp only
  rw [ht]
  by_cases hj2 : j = Q.length
  · subst hj2
    rw [List.getElem?_set_self (by omega)]
    simp
  · rw [List.getElem?_set_ne (by omega), d3 j (by omega), List.getElem?_append_left (by omega)]
theorem RQ.get {r : Ring} {Q : List Int} {v : Int} (h : RQ r (v :: Q)) {k : Nat} (hk : 3 ≤ k) {w : Int} : RQ (rGet r w k) Q := by
  obtain ⟨l, ⟨d, d1, d2, d3⟩, q8⟩ := h
  have e : rGet r w k = { r with oa := 0, ov := 0, head := r.head + 1 } := by
    obtain ⟨j, rfl⟩ : ∃ j, k = j + 3 := ⟨k - 3, by omega⟩
    rfl
  rw [e]
  simp only [List.length_cons] at d2 d3 q8
  refine ⟨l, ⟨d + 1, by dsimp only; omega, by dsimp only; omega, fun j hj => ?_⟩, by omega⟩
  have := d3 (j + 1) (by omega)
  rw [List.getElem?_cons_succ] at this
  rw [← this]
  congr 1
  omega
theorem RQ.top {r : Ring} {Q : List Int} {v : Int} (h : RQ r (v :: Q)) : (r.places[(r.head.tmod r.places.length).toNat]?).getD 0 = v := by
  obtain ⟨l, ⟨d, d1, d2, d3⟩, q8⟩ := h
  have := d3 0 (by simp)
  have ht : (r.head.tmod (r.places.length : Int)).toNat = d % 8 := by
    rw [d1, l]
    have : Int.tmod (d : Int) ((8 : Nat) : Int) = ((d % 8 : Nat) : Int) := rfl
    rw [this, Int.toNat_natCast]
  rw [ht]
  rw [Nat.add_zero] at this
  rw [this]
  rfl
end Go.Proofs.Ytogbkgimpkaemaa
