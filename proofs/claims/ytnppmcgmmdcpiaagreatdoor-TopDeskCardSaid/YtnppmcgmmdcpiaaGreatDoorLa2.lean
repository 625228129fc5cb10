
import Derived.Test.YtnppmcgmmdcpiaaGreatDoorLa0
namespace Go.Proofs.YtnppmcgmmdcpiaaGreatDoor
open Go.Eng
set_option maxRecDepth 20000
theorem free_fact {A B : Prop} (h : B) : VIf (!(ByteArray.toList (bs (drun sFree)) == ByteArray.toList (ByteArray.mk (List.toArray [(102 : UInt8), (114 : UInt8), (101 : UInt8), (101 : UInt8), (32 : UInt8), (54 : UInt8), (32 : UInt8), (52 : UInt8), (10 : UInt8)])))) A B := by
  rw [show ByteArray.mk (List.toArray [(102 : UInt8), (114 : UInt8), (101 : UInt8), (101 : UInt8), (32 : UInt8), (54 : UInt8), (32 : UInt8), (52 : UInt8), (10 : UInt8)]) = bs [102, 114, 101, 101, 32, 54, 32, 52, 10] from rfl, bs_lit fact_free]
  simpa using h
theorem ends_take {t : List UInt8} {j : Nat} (hj : j ≤ t.length) (h : j = 0 ∨ ∃ hj : j - 1 < t.length, t[j - 1] = 10) : Ends (t.take j) := by
  intro h0
  rcases h with rfl | ⟨h1, h2⟩
  · exact absurd rfl h0
  · have hp := List.length_pos_iff.2 h0
    rw [List.length_take] at hp
    rw [List.getLast?_eq_getElem?, List.length_take, Nat.min_eq_left hj, List.getElem?_take_of_lt (by omega), List.getElem?_eq_getElem h1, h2]
set_option maxHeartbeats 1000000 in
theorem deskBegins_c {s : ByteArray} {k : Int} {ro : Addr → Option Value} {T : Nat} (hG : HasErrT ro) (hTab : HasTab ro) (hN : HasNum ro) (hM : HasMax ro) :
    SemCall Tryz.prog 7 #[.string s, .int .i64 k] ⟨[shE 4 T 20], ro⟩ (fun v _ => v = .bool true) := by
  rw [bs_of s]
  generalize s.data.toList = t
  refine f7_call _ _ _ _ ?_
  unfold f7_sem
  refine drun_c (t := sFree) (T := T) (by simp) hG hTab hN hM (fun ro1 m1 => ⟨_, rfl, free_fact ?_⟩)
  rw [bs_size]
  refine ⟨fun c h => c = decide (3000 < t.length ∨ k < 0 ∨ ((t.length : Nat) : Int) < k) ∧ h = (⟨[shE 4 T 20], ro1⟩ : H), ?_, ?_⟩
  · refine VIf_dec (fun h => gi ⟨(decide_eq_true (.inl (by omega))).symm, rfl⟩) (fun h => VIf_dec (fun h1 => gi ⟨(decide_eq_true (.inr (.inl h1))).symm, rfl⟩) (fun h1 => gi ⟨?_, rfl⟩))
    refine decide_eq_decide.2 ⟨fun h2 => .inr (.inr (by omega)), fun h2 => ?_⟩
    rcases h2 with h2 | h2 | h2 <;> omega
  rintro _ c _ ⟨rfl, rfl⟩
  refine VIf_dec (fun h => ret rfl) (fun h => ?_)
  have hl : t.length ≤ 3000 := by omega
  have hk0 : 0 ≤ k := by omega
  have hkl : k ≤ (t.length : Int) := by omega
  clear h
  refine ⟨fun i h => ∃ j : Nat, i = (j : Int) ∧ j ≤ t.length ∧ (j = 0 ∨ ∃ hj : j - 1 < t.length, t[j - 1] = 10) ∧ h = (⟨[shE 4 T 20], ro1⟩ : H),
    ⟨fun n i h => ∃ j : Nat, i = (j : Int) ∧ n = j ∧ j ≤ t.length ∧ h = (⟨[shE 4 T 20], ro1⟩ : H), ⟨_, gi ⟨k.toNat, by omega, rfl, by omega, rfl⟩⟩, ?_⟩, ?_⟩
  · rintro j _ i h7 ⟨_, rfl, rfl, hj, rfl⟩
    unfold f7_L1
    rw [bs_size]
    refine ⟨fun c h => c = decide (0 < j ∧ ∃ hj : j - 1 < t.length, t[j - 1] ≠ 10) ∧ h = (⟨[shE 4 T 20], ro1⟩ : H), ?_, ?_⟩
    · refine VIf_dec (fun hi => ⟨⟨by omega, by omega⟩, by omega, by omega, gi ⟨?_, rfl⟩⟩) (fun hi => gi ⟨(decide_eq_false (fun h => hi (by omega))).symm, rfl⟩)
      have hjl : j - 1 < t.length := by omega
      rw [show ((j : Nat) : Int) - 1 = ((j - 1 : Nat) : Int) by omega, byte_at _ (j - 1) hjl]
      by_cases hc : t[j - 1] = 10
      · rw [hc, decide_eq_false (by rintro ⟨_, _, h⟩; exact h hc)]; rfl
      · rw [decide_eq_true ⟨by omega, hjl, hc⟩, bne_iff_ne]
        intro h
        exact hc (byte_eq.1 h)
    · rintro _ c h8 ⟨rfl, rfl⟩
      refine VIf_dec (fun hc => ⟨⟨by omega, by omega⟩, j - 1, by omega, gi ⟨j - 1, by omega, rfl, by omega, rfl⟩⟩) (fun hc => gi ⟨j, rfl, hj, ?_, rfl⟩)
      rcases Nat.eq_zero_or_pos j with h0 | h0
      · exact .inl h0
      · right
        refine ⟨by omega, Classical.byContradiction fun hn => hc ⟨h0, by omega, hn⟩⟩
  · rintro _ i h8 ⟨j, rfl, hj, he, rfl⟩
    unfold f7_J2
    rw [bs_size, Int.toNat_natCast, bs_ext t j hj]
    have hE := ends_take hj he
    have e1 : drun (t.take j) = dsess x0 (t.take j) := drun_small (by rw [List.length_take]; omega)
    have e2 : drun t = dsess x0 (t.take j) ++ dsess (dend x0 (t.take j)) (t.drop j) := by
      rw [drun_small hl, ← (hE.whole.app x0 (t.drop j)).1, List.take_append_drop]
    refine ⟨by omega, by omega, ?_⟩
    refine drun_c (T := T) (by simp) (hG.up m1) (hTab.up m1) (hN.up m1) (hM.up m1) (fun ro2 m2 => ⟨_, rfl, ?_⟩)
    refine drun_c (T := T) (by simp) ((hG.up m1).up m2) ((hTab.up m1).up m2) ((hN.up m1).up m2) ((hM.up m1).up m2) (fun ro3 m3 => ⟨_, rfl, ?_⟩)
    rw [e1, e2]
    generalize dsess x0 (t.take j) = u
    generalize dsess (dend x0 (t.take j)) (t.drop j) = v
    refine ⟨fun c _ => c = true, ?_, fun _ c _ h => ret (by rw [h])⟩
    refine VIf_dec (fun hi => ⟨by omega, hi, gi ?_⟩) (fun hi => absurd (by rw [bs_size, bs_size, List.length_append]; omega) hi)
    rw [bs_size, Int.toNat_natCast, bs_ext _ _ (by rw [List.length_append]; omega), List.take_left, bs_beq]
    simp
end Go.Proofs.YtnppmcgmmdcpiaaGreatDoor
