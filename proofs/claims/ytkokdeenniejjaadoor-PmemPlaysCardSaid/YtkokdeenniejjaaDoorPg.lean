import Derived.Test.YtkokdeenniejjaaDoorPf
import Derived.Test.YtkokdeenniejjaaDoorEngJ
import Derived.Test.YtkokdeenniejjaaDoorEngL
namespace Go.Proofs.YtkokdeenniejjaaDoor
open Go.Eng
set_option maxRecDepth 20000
/-! ### any memory, played -/
def MmSt (p r n : Nat) (ro : Addr → Option Value) (h : H) : Prop :=
  ∃ L F Nw Su Nx ro', h = ⟨L ++ [mmE r Nw Su Nx], ro'⟩ ∧ (∀ a v, ro a = some v → ro' a = some v) ∧ MmR ro' n F Nw Su Nx ∧ MemAt p n F L
theorem rows_up {ro ro' : Addr → Option Value} {st : SV} {rows : List (SV × List Int)} (hr : RdRowsOf ⟨[], ro⟩ st rows) (h : ∀ a v, ro a = some v → ro' a = some v) {own : List Ent} : RdRowsOf ⟨own, ro'⟩ st rows := hr.mono (by simp) h
set_option maxHeartbeats 4000000 in
theorem pmemPlays_c {n : Int} {st : SV} {rows : List (SV × List Int)} {ro : Addr → Option Value} {post : Value → H → Prop} (hG : HasErrT ro) (hr : RdRowsOf ⟨[], ro⟩ st rows) (hpost : ∀ h, post (.bool true) h) :
    SemCall Tryd.prog 4 (List.toArray [.int .i64 n, .slice st.a st.len st.cap]) ⟨[], ro⟩ post := by
  refine f4_call _ _ _ post ?_
  refine pmem_new_c (fun hc => ⟨_, _, rfl, join_or ?_⟩) (fun p L hs c0 c1 => ⟨_, none, rfl, join_or ?_⟩)
  · rw [show decide (n < 1 ∨ n > 8) = true from decide_eq_true (by omega)]
    exact VIf_b (fun _ => same_error_c hG ⟨_, rfl, ret (hpost _)⟩) (nomatch ·)
  rw [show decide (n < 1 ∨ n > 8) = false from decide_eq_false (by omega)]
  obtain ⟨N, rfl⟩ : ∃ N : Nat, n = (N : Int) := ⟨n.toNat, by omega⟩
  rw [Int.toNat_natCast] at hs
  have hN : N ≤ 8 := by omega
  have hN1 : 1 ≤ N := by omega
  refine VIf_b (nomatch ·) (fun _ => VIf_nnil (ref4_newmem_c hN (fun Nw Su Nx ro0 hm0 hR0 => ⟨Nw, Su, Nx, rfl, ?_⟩)))
  rw [List.nil_append]
  intro r _
  refine mm_put (r := r) (a0 := Nw) (a1 := Su) (a2 := Nx) (z0 := ⟨none, 0, 0⟩) (z1 := ⟨none, 0, 0⟩) (z2 := ⟨none, 0, 0⟩) L [] rfl ?_
  refine ⟨fun h => MmSt p r N ro h, ⟨fun m i h => MmSt p r N ro h ∧ 0 ≤ i ∧ i ≤ 100 ∧ m = (100 - i).toNat, ⟨100, gi ⟨⟨L, _, Nw, Su, Nx, ro0, rfl, hm0, hR0, hs⟩, by omega, by omega, rfl⟩⟩, ?_⟩, ?_⟩
  rotate_left
  · rintro _ _ ⟨L, F, Nw, Su, Nx, ro', rfl, hm, hR, hs⟩
    refine ⟨fun x h => x = true, ?_, fun _ x h hx => by rw [hx]; exact ret (hpost _)⟩
    refine pmem_read_c [] [mmE r Nw Su Nx] (by simp) hs (by omega) ⟨_, rfl, ?_⟩
    rw [if_neg (by omega)]
    refine VIf_eq (fun _ => ?_) (fun h => absurd rfl h)
    refine pmem_read_c [] [mmE r Nw Su Nx] (by simp) hs (by omega) ⟨_, rfl, ?_⟩
    rw [if_neg (by omega)]
    refine VIf_eq (fun _ => ?_) (fun h => absurd rfl h)
    refine rS0 (mmE r Nw Su Nx) (by simp) rfl rfl (rm_ati hR.nw (k := 0) (by omega) rfl ?_)
    refine pmem_read_c [] [mmE r Nw Su Nx] (by simp) hs (by omega) ⟨⟨[], by simp⟩, _, rfl, ?_⟩
    rw [if_pos (by omega)]
    exact gi (by simp)
  clear hs hR0
  rintro _ _ i _ ⟨hS, hi0, hi1, rfl⟩
  refine join_and (VIf_dec (fun hc => ?_) (fun _ => gi hS))
  obtain ⟨L, F, Nw, Su, Nx, ro', rfl, hm, hR, hs⟩ := hS
  refine RdRowsOf.idx (h := ⟨L ++ [mmE r Nw Su Nx], ro'⟩) (rows_up hr hm) hi0 hc.1 (fun l ys hly _ => ?_)
  have rd : ∀ {own ro2}, (∀ a v, ro a = some v → ro2 a = some v) → RdSl ⟨own, ro2⟩ l (ints ys) := fun {own ro2} h => (rows_up hr (own := own) h).2 (l, ys) (List.mem_of_getElem? hly)
  have hyl : l.len = ys.length := by have := (rd (own := []) hm).len; rwa [ints_length] at this
  have pw2 := pow2_le hN
  -- what is written
  refine ⟨fun e h => (ys.length ≠ 3 → e = 0) ∧ MmSt p r N ro h, VIf_eq (fun hl3 => ?_) (fun hl3 => gi ⟨fun _ => rfl, L, F, Nw, Su, Nx, ro', rfl, hm, hR, hs⟩), ?_⟩
  · refine join_b (h := ⟨L ++ [mmE r Nw Su Nx], ro'⟩) (decide (¬ (0 ≤ gI ys 1 ∧ gI ys 1 ≤ (N : Int) - 1) ∨ ¬ (0 ≤ gI ys 2 ∧ gI ys 2 ≤ 1000))) ?_ ?_
    · refine idx1 (rd hm) (by omega) ⟨⟨by omega, by omega⟩, in_c ⟨_, rfl, VIf_not (fun hx => gi ⟨rfl, (decide_eq_true (.inl hx)).symm⟩) (fun hx => idx2 (rd hm) (by omega) (in_c ⟨_, rfl, gi ⟨rfl, ?_⟩⟩))⟩⟩
      by_cases ha : 0 ≤ gI ys 2 ∧ gI ys 2 ≤ 1000
      · rw [decide_eq_true ha, decide_eq_false (by omega)]; rfl
      · rw [decide_eq_false ha, decide_eq_true (.inr ha)]; rfl
    refine ⟨fun e h => e = (pWrite N F (gI ys 1) (gI ys 2)).2 ∧ ∃ Nw' ro2, h = ⟨L ++ [mmE r Nw' Su Nx], ro2⟩ ∧ (∀ a v, ro' a = some v → ro2 a = some v) ∧ MmR ro2 N (pWrite N F (gI ys 1) (gI ys 2)).1 Nw' Su Nx, VIf_dec (fun hx => gi ⟨by unfold pWrite; rw [if_pos hx], Nw, ro', rfl, fun _ _ h => h, by unfold pWrite; rw [if_pos hx]; exact hR⟩) (fun hx => ?_), ?_⟩
    · obtain ⟨k, hk⟩ : ∃ k : Nat, gI ys 1 = (k : Int) := ⟨(gI ys 1).toNat, by omega⟩
      refine mm_get (a0 := Nw) (a1 := Su) (a2 := Nx) (by simp) (idx1 (rd hm) (by omega) (idx2 (rd hm) (by omega) ?_))
      rw [hk]
      refine ref4_written_c hR hN (k := k) (by omega) (by omega) (fun Nw' ro2 q2 hR2 => ⟨Nw', Su, Nx, rfl, mm_put (r := r) (a0 := Nw') (a1 := Su) (a2 := Nx) (z0 := Nw) (z1 := Su) (z2 := Nx) L [] rfl (gi ⟨?_, Nw', ro2, rfl, q2, ?_⟩)⟩)
      · unfold pWrite; rw [if_neg (by omega)]
      · unfold pWrite; rw [if_neg (by omega), Int.toNat_natCast]; exact hR2
    rintro _ e _ ⟨rfl, Nw', ro2, rfl, q2, hR2⟩
    have hm2 : ∀ a v, ro a = some v → ro2 a = some v := fun a v h => q2 a v (hm a v h)
    obtain ⟨bb, hb⟩ := (rd (own := []) hm).addr (by simp; omega)
    have rd1 : ∀ {own ro2}, (∀ a v, ro a = some v → ro2 a = some v) → H.rd ⟨own, ro2⟩ (Addr.add (Addr.add bb (((1 : Int)).toNat * 1)) 0) (Value.int .i64 (gI ys 1)) := fun {own ro2} h => (rd (own := own) h).rdi hb (gI_ex (by omega))
    have rd2 : ∀ {own ro2}, (∀ a v, ro a = some v → ro2 a = some v) → H.rd ⟨own, ro2⟩ (Addr.add (Addr.add bb (((2 : Int)).toNat * 1)) 0) (Value.int .i64 (gI ys 2)) := fun {own ro2} h => (rd (own := own) h).rdi hb (gI_ex (by omega))
    refine ⟨bb, hb, by omega, by omega, bb, hb, by omega, by omega, _, rd1 hm2, _, rd2 hm2, ?_⟩
    refine pmem_write_c [] [mmE r Nw' Su Nx] (by simp) hs (by omega) (fun L' hs' => ⟨_, rfl, same_error_c (hG.up hm2) ⟨_, rfl, VIf_nb (fun h => absurd rfl (of_decide_eq_false h)) (fun _ => gi ⟨fun h => absurd (by omega) h, L', _, Nw', Su, Nx, ro2, rfl, hm2, hR2, hs'⟩)⟩⟩)
  clear hR hs hm
  rintro _ e0 _ ⟨he0, L, F, Nw, Su, Nx, ro', rfl, hm, hR, hs⟩
  -- what is flushed
  refine join_b (h := ⟨L ++ [mmE r Nw Su Nx], ro'⟩) (decide (ys.length = 2 ∧ gI ys 0 = 0)) (VIf_eq (fun h2 => idx0 (rd hm) (by omega) (gi ⟨rfl, ?_⟩)) (fun h2 => gi ⟨rfl, (decide_eq_false (fun h => h2 (by omega))).symm⟩)) ?_
  · by_cases e : gI ys 0 = 0
    · rw [decide_eq_true ⟨by omega, e⟩, e]; rfl
    · rw [decide_eq_false (fun h => e h.2)]; simpa using e
  refine ⟨fun e h => (ys.length = 2 → gI ys 0 = 1 → e = 0) ∧ MmSt p r N ro h, VIf_dec (fun hf => ?_) (fun hf => gi ⟨fun h2 _ => he0 (by omega), L, F, Nw, Su, Nx, ro', rfl, hm, hR, hs⟩), ?_⟩
  · refine idx1 (rd hm) (by omega) ⟨⟨by omega, by omega⟩, in_c ⟨_, rfl, ?_⟩⟩
    have hez : e0 = 0 := he0 (by omega)
    refine ⟨fun e h => e = (pFlush N F (gI ys 1)).2 ∧ ∃ Nx' ro2, h = ⟨L ++ [mmE r Nw Su Nx'], ro2⟩ ∧ (∀ a v, ro' a = some v → ro2 a = some v) ∧ MmR ro2 N (pFlush N F (gI ys 1)).1 Nw Su Nx', VIf_not (fun hx => gi ⟨by unfold pFlush; rw [if_pos hx], Nx, ro', rfl, fun _ _ h => h, by unfold pFlush; rw [if_pos hx]; exact hR⟩) (fun hx => ?_), ?_⟩
    · obtain ⟨k, hk⟩ : ∃ k : Nat, gI ys 1 = (k : Int) := ⟨(gI ys 1).toNat, by omega⟩
      refine mm_get (a0 := Nw) (a1 := Su) (a2 := Nx) (by simp) (idx1 (rd hm) (by omega) ?_)
      rw [hk]
      refine ref4_flushed_c hR hN (k := k) (by omega) (fun Nx' ro2 q2 hR2 => ⟨Nw, Su, Nx', rfl, mm_put (r := r) (a0 := Nw) (a1 := Su) (a2 := Nx') (z0 := Nw) (z1 := Su) (z2 := Nx) L [] rfl (gi ⟨?_, Nx', ro2, rfl, q2, ?_⟩)⟩)
      · unfold pFlush; rw [if_neg (by omega)]; exact hez
      · unfold pFlush; rw [if_neg (by omega), Int.toNat_natCast]; exact hR2
    rintro _ e _ ⟨rfl, Nx', ro2, rfl, q2, hR2⟩
    have hm2 : ∀ a v, ro a = some v → ro2 a = some v := fun a v h => q2 a v (hm a v h)
    refine idx1 (rd hm2) (by omega) ?_
    refine pmem_flush_c [] [mmE r Nw Su Nx'] (by simp) hs (by omega) (fun L' hs' => ⟨_, rfl, same_error_c (hG.up hm2) ⟨_, rfl, VIf_nb (fun h => absurd rfl (of_decide_eq_false h)) (fun _ => gi ⟨fun _ h => absurd h (by omega), L', _, Nw, Su, Nx', ro2, rfl, hm2, hR2, hs'⟩)⟩⟩)
  clear hR hs hm he0 e0
  rintro _ e0 _ ⟨he0, L, F, Nw, Su, Nx, ro', rfl, hm, hR, hs⟩
  -- a crash
  refine join_b (h := ⟨L ++ [mmE r Nw Su Nx], ro'⟩) (decide (ys.length = 2 ∧ gI ys 0 = 1)) (VIf_eq (fun h2 => idx0 (rd hm) (by omega) (gi ⟨rfl, ?_⟩)) (fun h2 => gi ⟨rfl, (decide_eq_false (fun h => h2 (by omega))).symm⟩)) ?_
  · by_cases e : gI ys 0 = 1
    · rw [decide_eq_true ⟨by omega, e⟩, e]; rfl
    · rw [decide_eq_false (fun h => e h.2)]; simpa using e
  refine ⟨fun h => MmSt p r N ro h, VIf_dec (fun hf => ?_) (fun hf => gi ⟨L, F, Nw, Su, Nx, ro', rfl, hm, hR, hs⟩), ?_⟩
  · have hez : e0 = 0 := he0 hf.1 hf.2
    refine idx1 (rd hm) (by omega) (law4_mask_c hN ⟨_, rfl, ?_⟩)
    refine ⟨fun e h => e = (pCrash N F (gI ys 1)).2 ∧ ∃ Nw' Su' Nx' ro2, h = ⟨L ++ [mmE r Nw' Su' Nx'], ro2⟩ ∧ (∀ a v, ro' a = some v → ro2 a = some v) ∧ MmR ro2 N (pCrash N F (gI ys 1)).1 Nw' Su' Nx', VIf_not (fun hx => gi ⟨by unfold pCrash; rw [if_pos hx], Nw, Su, Nx, ro', rfl, fun _ _ h => h, by unfold pCrash; rw [if_pos hx]; exact hR⟩) (fun hx => ?_), ?_⟩
    · obtain ⟨k, hk⟩ : ∃ k : Nat, gI ys 1 = (k : Int) := ⟨(gI ys 1).toNat, by omega⟩
      refine mm_get (a0 := Nw) (a1 := Su) (a2 := Nx) (by simp) (idx1 (rd hm) (by omega) ?_)
      rw [hk] at hx ⊢
      refine ref4_crashed_c hR hN (m := k) (by omega) (fun Nw' Su' Nx' ro2 q2 hR2 => ⟨Nw', Su', Nx', rfl, mm_put (r := r) (a0 := Nw') (a1 := Su') (a2 := Nx') (z0 := Nw) (z1 := Su) (z2 := Nx) L [] rfl (gi ⟨?_, Nw', Su', Nx', ro2, rfl, q2, ?_⟩)⟩)
      · unfold pCrash; rw [if_neg (not_not_intro hx)]; exact hez
      · unfold pCrash; rw [if_neg (not_not_intro hx)]; exact hR2
    rintro _ e _ ⟨rfl, Nw', Su', Nx', ro2, rfl, q2, hR2⟩
    have hm2 : ∀ a v, ro a = some v → ro2 a = some v := fun a v h => q2 a v (hm a v h)
    refine idx1 (rd hm2) (by omega) ?_
    refine pmem_crash_c [] [mmE r Nw' Su' Nx'] (by simp) hs hN (fun L' hs' => ⟨_, rfl, same_error_c (hG.up hm2) ⟨_, rfl, VIf_nb (fun h => absurd rfl (of_decide_eq_false h)) (fun _ => gi ⟨L', _, Nw', Su', Nx', ro2, rfl, hm2, hR2, hs'⟩)⟩⟩)
  clear hR hs hm he0 e0
  rintro _ _ ⟨L, F, Nw, Su, Nx, ro', rfl, hm, hR, hs⟩
  -- a fence
  refine ⟨fun h => MmSt p r N ro h, VIf_eq (fun hf => ?_) (fun hf => gi ⟨L, F, Nw, Su, Nx, ro', rfl, hm, hR, hs⟩), ?_⟩
  · refine pmem_fence_c [] [mmE r Nw Su Nx] (by simp) hs (by omega) (fun L' hs' => ⟨rfl, mm_get (a0 := Nw) (a1 := Su) (a2 := Nx) (by simp) ?_⟩)
    refine ref4_fenced_c hR hN (fun Su' Nx' ro2 q2 hR2 => ⟨Nw, Su', Nx', rfl, mm_put (r := r) (a0 := Nw) (a1 := Su') (a2 := Nx') (z0 := Nw) (z1 := Su) (z2 := Nx) L' [] (by simp) (gi ⟨L', _, Nw, Su', Nx', ro2, rfl, fun a v h => q2 a v (hm a v h), hR2, hs'⟩)⟩)
  clear hR hs hm
  rintro _ _ ⟨L, F, Nw, Su, Nx, ro', rfl, hm, hR, hs⟩
  refine rS0 (mmE r Nw Su Nx) (by simp) rfl rfl ?_
  refine pmem_cells_c hs (fun _ h => by simp [h]) (by omega) (by omega) (fun s' e' o l' => ⟨⟨[e'], by simp⟩, s', rfl, ?_⟩)
  refine same_ints_c (RdSl.of_own (e := e') (by simp) o) hR.nw.ro (by omega) ⟨_, rfl, VIf_not (fun h => absurd rfl h) (fun _ => ⟨⟨by omega, by omega⟩, _, by omega, ⟨⟨L ++ [mmE r Nw Su Nx], ro'⟩, Gh.drop (by simp), ⟨L, F, Nw, Su, Nx, ro', rfl, hm, hR, hs⟩, by omega, by omega, rfl⟩⟩)⟩
end Go.Proofs.YtkokdeenniejjaaDoor
