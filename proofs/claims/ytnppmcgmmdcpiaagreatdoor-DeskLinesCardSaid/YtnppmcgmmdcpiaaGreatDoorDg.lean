
import Derived.Test.YtnppmcgmmdcpiaaGreatDoorDf
namespace Go.Proofs.YtnppmcgmmdcpiaaGreatDoor
open Go.Eng
set_option maxRecDepth 20000
theorem bs_ext (l : List UInt8) (k : Nat) (h : k ≤ l.length) : (bs l).extract 0 k = bs (l.take k) := bs_take l k h
theorem minI {a : Nat} {b : Nat} : (if ((a : Nat) : Int) < ((b : Nat) : Int) then ((a : Nat) : Int) else ((b : Nat) : Int)) = ((min a b : Nat) : Int) := by
  split <;> omega
theorem bopen_len (x : Bo) (t : List UInt8) : bopen x t = bopenF t.length x t := rfl
theorem take_min (l : List UInt8) (n : Nat) : l.take (min l.length n) = l.take n := by
  rcases Nat.le_total l.length n with h | h
  · rw [Nat.min_eq_left h, List.take_of_length_le (Nat.le_refl _), List.take_of_length_le h]
  · rw [Nat.min_eq_right h]
set_option maxHeartbeats 1000000 in
theorem dcrash_c {rd : Nat} {s : BkS} {x : Bo} {n : Nat} {sl : SV} {own : List Ent} {ro : Addr → Option Value} {post : Value → H → Prop} {T : Nat} (A C : List Ent) (hown : own = bxE rd (.pointer (some (Addr.mk s.r 0 none))) :: A ++ (boL s ++ C)) (hT : shE 4 T 20 ∈ A ++ C)
    (hG : HasErrT ro) (hTab : HasTab ro) (hN : HasNum ro) (hM : HasMax ro) (h : BOO s x ro) (hDI : DI x) (hw : RdSl ⟨[], ro⟩ sl (ints (natI [n])))
    (h1 : ∀ e ro', bopen ⟨bk0, [], 0⟩ (x.l.take n) = .inl e → (∀ a v, ro a = some v → ro' a = some v) → post (.string (bs (codeS e.2))) ⟨own, ro'⟩)
    (h2 : ∀ y s' ro', bopen ⟨bk0, [], 0⟩ (x.l.take n) = .inr y → (∀ a v, ro a = some v → ro' a = some v) → BOO s' y ro' → post (.string (bs (listB sFound [(y.n : Int)]))) ⟨bxE rd (.pointer (some (Addr.mk s'.r 0 none))) :: A ++ (boL s' ++ C), ro'⟩) :
    SemCall Tryz.prog 74 (List.toArray [.pointer (some (Addr.mk rd 0 none)), .slice sl.a sl.len sl.cap]) ⟨own, ro⟩ post := by
  have hTo : shE 4 T 20 ∈ own := by
    rw [hown]
    simp only [List.mem_append, List.mem_cons] at hT ⊢
    rcases hT with h | h <;> simp [h]
  refine f74_call _ _ _ post ⟨_, rfl, some (Addr.mk s.r 0 none), ?_, ?_⟩
  · simp only [add_mk', Nat.zero_add, Nat.add_zero]
    exact rd_bx (by rw [hown]; simp)
  have hl := hw.len
  simp only [ints_length, natI, List.length_map, List.length_singleton] at hl
  obtain ⟨b, hb⟩ := hw.addr (by simp [natI, ints])
  have hle := hDI.br.le
  refine text_c h (bxE rd (.pointer (some (Addr.mk s.r 0 none))) :: A) C hown ⟨_, rfl, b, hb, by omega, by omega, (n : Int), (hw.ro (own := own)).rdi hb (i := 0) (x := (n : Int)) rfl, ?_⟩
  rw [bs_size, minI, Int.toNat_natCast, bs_ext _ _ (by omega), take_min]
  refine ⟨by omega, by omega, dfirst_c (fun sf sc sh ro1 m1 hb1 => ⟨OwnExt.same, sf, sc, sh, rfl, ?_⟩)⟩
  have hlen : (x.l.take n).length ≤ 2000 := by rw [List.length_take]; omega
  refine open_c (T := T) hTo (hTab.up m1) (hN.up m1) (hM.up m1) (hb1.mono (by simp) (fun _ _ h => h)) (fun hc => absurd (bcheck_zero.2 bk0_ok) hc) (fun _ hr => absurd hr (by rw [bk0_row]; simp)) (fun _ _ hl => by omega) (fun _ _ _ at' e ro2 hbo he m2 => ?_) (fun _ _ _ y s' ro2 hbo m2 hB2 => ?_)
  · refine ⟨none, at', eno 57 e, rfl, VIf_nerr (fun _ => ?_) (fun hc => absurd hc he)⟩
    exact dtold_c (hG.up (fun a v h => m2 a v (m1 a v h))) ⟨_, rfl, ret (h1 (at', e) ro2 hbo (fun a v h => m2 a v (m1 a v h)))⟩
  · have hy := DI.opens _ _ y _ DI.first hbo
    have hn := hy.br.n60
    refine ⟨some (Addr.mk s'.r 0 none), (y.n : Int), none, rfl, VIf_nnil ⟨_, rfl, ?_⟩⟩
    subst hown
    simp only [add_mk', Nat.zero_add, Nat.add_zero]
    refine wr_bx (A := []) (v := .pointer (some (Addr.mk s.r 0 none))) (C := A ++ (boL s ++ C) ++ boL s') (by simp) rfl ?_
    intro r23 _
    have hr : RdSl ⟨[] ++ bxE rd (.pointer (some (Addr.mk s'.r 0 none))) :: (A ++ (boL s ++ C) ++ boL s') ++ [⟨some r23, [.int .i64 (y.n : Int)], 1⟩], ro2⟩ ⟨some (Addr.mk r23 0 none), 1, 1⟩ (ints [(y.n : Int)]) := RdSl.at0 ⟨some r23, [.int .i64 (y.n : Int)], 1⟩ (by simp) rfl rfl rfl
    refine dlist_c (T := T) (s := sFound) (sl := ⟨some (Addr.mk r23 0 none), 1, 1⟩) (xs := [(y.n : Int)]) ?_ ((hTab.up m1).up m2) hr (by simp; omega) (by decide) (by simp) ⟨_, rfl, ?_⟩
    · simp only [List.mem_append, List.mem_cons] at hT ⊢
      rcases hT with h | h <;> simp [h]
    refine ⟨⟨bxE rd (.pointer (some (Addr.mk s'.r 0 none))) :: A ++ (boL s' ++ C), ro2⟩, ?_, h2 y s' ro2 hbo (fun a v h => m2 a v (m1 a v h)) hB2⟩
    refine Gh.trans (h1 := ⟨bxE rd (.pointer (some (Addr.mk s'.r 0 none))) :: (A ++ (C ++ boL s')), ro2⟩) (Gh.drop ?_) (Gh.perm ?_)
    · simp only [List.nil_append, List.append_assoc, List.cons_append]
      refine List.Sublist.cons_cons _ (List.Sublist.append_left ?_ _)
      refine List.Sublist.trans ?_ (List.sublist_append_right (boL s) _)
      exact List.Sublist.append_left (List.sublist_append_left _ _) _
    · rw [List.cons_append]
      exact .cons _ (List.Perm.append_left _ List.perm_append_comm)
end Go.Proofs.YtnppmcgmmdcpiaaGreatDoor
