import Derived.Test.YtogbkgimpkaemaaFl
namespace Go.Proofs.Ytogbkgimpkaemaa
open Go.Eng
set_option maxRecDepth 20000
/-! ### a closed fact of queues -/
theorem fPut_cases (n : Nat) (f h : Nat → Int) (q v : Int) (hv : 0 ≤ v ∧ v ≤ 1000) : ((fPut n f h q v).1 = f ∧ (fPut n f h q v).2.1 = h ∧ (fPut n f h q v).2.2 ≠ 0) ∨
    (fPut n f h q v = (updN (updN f (42 + (f 82).toNat) v) 82 (f 82 + 1), fHand h q.toNat [1, f 82, 0, 0, 0], 0) ∧ f 82 ≠ 40 ∧ (0 ≤ q ∧ q ≤ (n : Int) - 1) ∧ h (q.toNat * 5) = 0) := by
  unfold fPut
  rw [if_neg (not_not_intro hv)]
  by_cases h1 : fFree n h q ≠ 0
  · rw [if_pos h1]; exact .inl ⟨rfl, rfl, h1⟩
  · rw [if_neg h1]
    have h1 := fFree_zero (Classical.byContradiction h1)
    by_cases h2 : f 82 = 40
    · rw [if_pos h2]; exact .inl ⟨rfl, rfl, show (4 : Int) ≠ 0 by decide⟩
    · rw [if_neg h2]; exact .inr ⟨rfl, h2, h1.1, h1.2⟩
theorem fGet_cases (n : Nat) (h : Nat → Int) (q : Int) : ((fGet n h q).1 = h ∧ (fGet n h q).2 ≠ 0) ∨ (fGet n h q = (fHand h q.toNat [6, 0, 0, 0, 0], 0) ∧ (0 ≤ q ∧ q ≤ (n : Int) - 1) ∧ h (q.toNat * 5) = 0) := by
  unfold fGet
  by_cases h1 : fFree n h q ≠ 0
  · rw [if_pos h1]; exact .inl ⟨rfl, h1⟩
  · rw [if_neg h1]
    have h1 := fFree_zero (Classical.byContradiction h1)
    exact .inr ⟨rfl, h1.1, h1.2⟩
theorem FInv.m {n : Nat} {f h : Nat → Int} {ch : List Nat} {hi ti : Nat} (I : FInv n f h ch hi ti) : 0 ≤ f 82 ∧ f 82 ≤ 40 := ⟨by have := I.b.m0; omega, I.b.m1⟩
/-- the four lines of one who puts alone -/
def fF1 : Nat → Int := updN (updN fF0 (42 + (fF0 82).toNat) 6) 82 (fF0 82 + 1)
def fH1 : Nat → Int := fHand (fun _ => 0) 0 [1, fF0 82, 0, 0, 0]
def fGo : Nat → (Nat → Int) × (Nat → Int)
  | 0 => (fF1, fH1)
  | k + 1 => ((fStep (fGo k).1 (fGo k).2 0).1, (fStep (fGo k).1 (fGo k).2 0).2.1)
theorem fGo_inv : ∀ k, k ≤ 4 → ∃ ch hi ti, FInv 1 (fGo k).1 (fGo k).2 ch hi ti
  | 0, _ => ⟨_, _, _, (FInv.start 1).put (q := 0) 6 (by decide)⟩
  | k + 1, hk => by
    obtain ⟨ch, hi, ti, I⟩ := fGo_inv k (by omega)
    have ha : (fGo k).2 (0 * 5 + 0) ≠ 0 := by
      obtain rfl | rfl | rfl | rfl : k = 0 ∨ k = 1 ∨ k = 2 ∨ k = 3 := by omega
      all_goals decide
    obtain ⟨ch', hi', ti', I', _⟩ := I.step (q := 0) (by omega) ha
    exact ⟨ch', hi', ti', I'⟩
theorem fifo_fact_c {own : List Ent} {ro : Addr → Option Value} {post : Value → H → Prop} (hk : post (.bool true) ⟨own, ro⟩) : SemCall Try.prog 16 (List.toArray []) ⟨own, ro⟩ post := by
  refine f16_call _ post (fq_new_c (fun h => absurd (by omega) h) (fun p L hs _ _ => ⟨_, none, rfl, ?_⟩))
  refine ⟨fun b h => b = false ∧ ∃ L', FqAt p 1 fF1 fH1 L' ∧ h = ⟨own ++ L', ro⟩, VIf_nnil ?_, ?_⟩
  · refine fq_put_c (q := 0) own [] (by simp) hs (by decide) (fun L' hs' => ⟨_, rfl, ?_⟩)
    have e : fPut 1 fF0 (fun _ => 0) 0 6 = (fF1, fH1, 0) := rfl
    rw [show (1 : Int).toNat = 1 from rfl] at hs'
    rw [e] at hs'
    rw [show (1 : Int).toNat = 1 from rfl, e, List.append_nil]
    exact ⟨rfl, gi ⟨rfl, L', hs', rfl⟩⟩
  rintro _ _ _ ⟨rfl, L1, hs1, rfl⟩
  refine VIf_b (nomatch ·) (fun _ => ?_)
  refine ⟨fun h => ∃ L', FqAt p 1 (fGo 4).1 (fGo 4).2 L' ∧ h = ⟨own ++ L', ro⟩, ⟨fun m i h => ∃ k : Nat, i = (k : Int) ∧ k ≤ 4 ∧ m = 4 - k ∧ ∃ L', FqAt p 1 (fGo k).1 (fGo k).2 L' ∧ h = ⟨own ++ L', ro⟩, ⟨_, gi ⟨0, rfl, by omega, rfl, L1, hs1, rfl⟩⟩, ?_⟩, ?_⟩
  · rintro m _ i _ ⟨k, rfl, hk4, rfl, L', hs', rfl⟩
    refine VIf_dec (fun hi => ?_) (fun hi => gi (by
      obtain rfl : k = 4 := by omega
      exact ⟨L', hs', rfl⟩))
    obtain ⟨ch, hi', ti, I⟩ := fGo_inv k hk4
    refine fq_step_c (q := 0) own [] (by simp) hs' (by omega) (I.ok (by omega)) (fun L2 hs2 => ?_)
    have ha : (fGo k).2 (0 * 5 + 0) ≠ 0 := by
      obtain rfl | rfl | rfl | rfl : k = 0 ∨ k = 1 ∨ k = 2 ∨ k = 3 := by omega
      all_goals decide
    have e : fStepE (fGo k).1 (fGo k).2 0 = ((fGo (k + 1)).1, (fGo (k + 1)).2, (fStep (fGo k).1 (fGo k).2 0).2.2.1, (fStep (fGo k).1 (fGo k).2 0).2.2.2, 0) := by
      unfold fStepE; rw [if_neg ha]; rfl
    rw [e] at hs2 ⊢
    rw [List.append_nil]
    exact ⟨_, _, none, rfl, VIf_nnil ⟨⟨by omega, by omega⟩, 4 - (k + 1), by omega, gi ⟨k + 1, by omega, by omega, rfl, L2, hs2, rfl⟩⟩⟩
  rintro _ _ ⟨L2, hs2, rfl⟩
  refine fq_ends_c hs2 (fun e he => by simp [he]) ⟨_, _, rfl, ?_⟩
  refine ⟨fun b h => b = true ∧ ∃ L', h = ⟨own ++ L', ro⟩, VIf_eq (fun _ => VIf_eq (fun _ => ?_) (fun h => absurd (by decide) h)) (fun h => absurd (by decide) h), ?_⟩
  · refine fq_get_c (q := 0) own [] (by simp) hs2 (fun L' hs' => ⟨_, rfl, isIfaceV_errV _, gi ⟨?_, L', by simp⟩⟩)
    rw [isNilV_errV, eno_isNone]
    decide
  · rintro _ _ _ ⟨rfl, L', rfl⟩
    exact ⟨⟨own, ro⟩, Gh.drop (by simp), hk⟩
end Go.Proofs.Ytogbkgimpkaemaa
