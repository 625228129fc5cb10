import Derived.Test.YtkokdeenniejjaaDoorSem
namespace Go.Proofs.YtkokdeenniejjaaDoor
open Go.Eng
set_option maxRecDepth 20000
theorem give_len {c : Int} {ws : List Int} : (semGive c ws).2.1.length ≤ ws.length := by unfold semGive; split <;> simp; split <;> simp
/-- what is kept while SemPlays goes on -/
def SpSt (p : Nat) (ro : Addr → Option Value) (c : Int) (sw : SV) (i : Int) (h : H) : Prop :=
  ∃ L ew ws, h = ⟨L ++ [ew], ro⟩ ∧ SemAt p c ws L ∧ OwnsSl 1 sw ew (ints ws) ∧ 0 ≤ c ∧ c ≤ 1000 ∧ (ws.length : Int) ≤ i ∧ ∀ x ∈ ws, 0 ≤ x ∧ x ≤ 7
theorem semPlays_c {count : Int} {st : SV} {xs : List Int} {ro : Addr → Option Value} {post : Value → H → Prop} (hG : HasErrT ro) (hr : RdSl ⟨[], ro⟩ st (ints xs)) (hpost : ∀ h, post (.bool true) h) :
    SemCall Tryd.prog 3 (List.toArray [.int .i64 count, .slice st.a st.len st.cap]) ⟨[], ro⟩ post := by
  refine f3_call _ _ _ post ?_
  have hr : ∀ {own}, RdSl ⟨own, ro⟩ st (ints xs) := hr.mono (by simp) (fun _ _ h => h)
  refine sem_new_c (fun hc => ⟨_, _, rfl, in_c ⟨_, rfl, VIf_not (fun _ => ?_) (fun h => absurd h hc)⟩⟩) (fun p L hs c0 c1 => ⟨_, none, rfl, in_c ⟨_, rfl, VIf_not (fun h => absurd ⟨c0, c1⟩ h) (fun _ => VIf_nnil ?_)⟩⟩)
  · exact same_error_c hG ⟨_, rfl, ret (hpost _)⟩
  refine ⟨fun _ => True, ⟨fun n c sw i h => SpSt p ro c sw i h ∧ 0 ≤ i ∧ i ≤ 100 ∧ n = (100 - i).toNat, ⟨100, ⟨L ++ [⟨none, [], 0⟩], ro⟩, by simpa using Gh.phantom L [] ro 0, ⟨L, _, [], rfl, hs, OwnsSl.nil 1, c0, c1, by simp, by simp⟩, by omega, by omega, rfl⟩, ?_⟩, fun _ h _ => ret (hpost h)⟩
  rintro n _ c sw i h ⟨⟨L, ew, ws, rfl, hs, ow, hc0, hc1, hwl, hwx⟩, hi0, hi1, rfl⟩
  refine join_and (VIf_dec (fun hi => ?_) (fun _ => gi trivial))
  have hsl := ow.sl_len
  rw [ints_length] at hsl
  refine ⟨fun c sw h => SpSt p ro c sw (i + 1) h, ?_, ?_⟩
  rotate_left
  · rintro _ c sw h hS
    exact ⟨⟨by omega, by omega⟩, _, by omega, gi ⟨hS, by omega, by omega, rfl⟩⟩
  refine hr.idx hi0 hi.1 fun x hx => ?_
  refine ⟨fun c sw h => SpSt p ro c sw (i + 1) h, ?_, ?_⟩
  rotate_left
  · -- what is there, and who waits
    rintro _ c sw h ⟨L, ew, ws, rfl, hs, ow, hc0, hc1, hwl, hwx⟩
    have hsl := ow.sl_len
    rw [ints_length] at hsl
    refine ⟨fun b h => b = false ∧ SpSt p ro c sw (i + 1) h, ?_, ?_⟩
    rotate_left
    · rintro _ b h ⟨rfl, hS⟩
      exact VIf_b (nomatch ·) (fun _ => gi hS)
    refine sem_count_c hs (fun _ h => by simp [h]) ⟨_, rfl, VIf_ne (fun h => absurd rfl h) (fun _ => ?_)⟩
    refine sem_waits_c hs (fun _ h => by simp [h]) (by omega) (fun s2 e2 o2 => ⟨s2, rfl, ?_⟩)
    refine same_ints_c (RdSl.of_own (e := e2) (by simp) o2) (RdSl.of_own (e := ew) (by simp) ow) (by have := o2.sl_len; rw [ints_length] at this; omega) ⟨_, rfl, ?_⟩
    refine ⟨⟨L ++ [ew], ro⟩, Gh.drop (by simp), by simp, L, ew, ws, rfl, hs, ow, hc0, hc1, hwl, hwx⟩
  refine VIf_eq (fun hx1 => ?_) (fun hx1 => ?_)
  · -- given
    refine ⟨fun c2 sw2 e2 want h => ∃ ew2, h = ⟨L ++ [ew2], ro⟩ ∧ OwnsSl 1 sw2 ew2 (ints (semGive c ws).2.1) ∧ c2 = (semGive c ws).1 ∧ e2 = (semGive c ws).2.2.2 ∧ want = (semGive c ws).2.2.1, VIf_dec (fun hw => ?_) (fun hw => ?_), ?_⟩
    · cases ws with
      | nil => simp at hsl; omega
      | cons w ws =>
        have hrw : RdSl ⟨L ++ [ew], ro⟩ sw (ints (w :: ws)) := RdSl.of_own (e := ew) (by simp) ow
        refine hrw.idx (by omega) (by omega) (fun y hy => ⟨by omega, by omega, ?_⟩)
        have hy : w = y := by simpa using hy
        subst hy
        refine ⟨_, Gh.from L [] ro ew (sw.cap = 1) (ew.cells.length - sw.len * 1), _, rfl, ?_, rfl, rfl, rfl⟩
        exact OwnsSl.from ow (k := 1) (by simp at hsl; omega)
    · cases ws with
      | cons w ws => simp at hsl; omega
      | nil =>
        refine VIf_eq (fun h1 => gi ⟨ew, rfl, ?_⟩) (fun h1 => ⟨⟨by omega, by omega⟩, gi ⟨ew, rfl, ?_⟩⟩)
        · simp only [semGive, if_pos h1]; exact ⟨ow, trivial, trivial, trivial⟩
        · simp only [semGive, if_neg h1]; exact ⟨ow, trivial, trivial, trivial⟩
    rintro _ c2 sw2 e2 want _ ⟨ew2, rfl, ow2, rfl, rfl, rfl⟩
    refine sem_give_c [] [ew2] rfl hs hc0 hc1 (by omega) (fun L1 h1 => ⟨_, _, rfl, ?_⟩)
    have hS : SpSt p ro (semGive c ws).1 sw2 (i + 1) ⟨[] ++ (L1 ++ [ew2]), ro⟩ := by
      refine ⟨L1, ew2, _, rfl, h1, ow2, ?_, ?_, ?_, ?_⟩
      · unfold semGive; split
        · exact hc0
        · split <;> simp only <;> omega
      · unfold semGive; split
        · exact hc1
        · split <;> simp only <;> omega
      · have := give_len (c := c) (ws := ws); omega
      · intro y hy
        refine hwx y ?_
        unfold semGive at hy
        split at hy
        · exact List.mem_cons_of_mem _ hy
        · split at hy <;> exact hy
    refine ⟨fun b h => b = false ∧ SpSt p ro (semGive c ws).1 sw2 (i + 1) h, same_error_c hG ⟨_, rfl, VIf_nb (fun h => absurd rfl (of_decide_eq_false h)) (fun _ => gi ⟨by simp, hS⟩)⟩, ?_⟩
    rintro _ b h ⟨rfl, hS⟩
    exact VIf_b (nomatch ·) (fun _ => gi hS)
  · -- taken
    refine in_c ⟨_, rfl, ?_⟩
    refine ⟨fun e h => h = ⟨L ++ [ew], ro⟩ ∧ e = (if ¬ (0 ≤ x ∧ x ≤ 7) then 1 else 0), VIf_not (fun h => gi ⟨rfl, by rw [if_pos h]⟩) (fun h => gi ⟨rfl, by rw [if_neg (not_not_intro h)]⟩), ?_⟩
    rintro _ e0 _ ⟨rfl, he0⟩
    have hrw : RdSl ⟨L ++ [ew], ro⟩ sw (ints ws) := RdSl.of_own (e := ew) (by simp) ow
    refine ⟨fun e h => h = ⟨L ++ [ew], ro⟩ ∧ e = (semTake c ws x).2.2.2, ⟨fun m e k h => ∃ q : Nat, k = (q : Int) ∧ q ≤ ws.length ∧ m = ws.length - q ∧ h = ⟨L ++ [ew], ro⟩ ∧ e = (if x ∈ ws.take q then 7 else e0), ⟨_, gi ⟨0, rfl, by omega, rfl, rfl, by simp⟩⟩, ?_⟩, ?_⟩
    · rintro m _ e k _ ⟨q, rfl, hq, rfl, rfl, rfl⟩
      refine VIf_dec (fun hk => hrw.idx (by omega) hk fun y hy => ?_) (fun hk => gi ⟨rfl, ?_⟩)
      · rw [Int.toNat_natCast] at hy
        have htk : ws.take (q + 1) = ws.take q ++ [y] := by rw [List.take_add_one, hy]; rfl
        refine VIf_eq (fun hyx => ⟨⟨by omega, by omega⟩, ws.length - (q + 1), by omega, gi ⟨q + 1, by omega, by omega, rfl, rfl, ?_⟩⟩) (fun hyx => ⟨⟨by omega, by omega⟩, ws.length - (q + 1), by omega, gi ⟨q + 1, by omega, by omega, rfl, rfl, ?_⟩⟩)
        · rw [if_pos (by rw [htk, hyx]; simp)]
        · rw [htk]
          have : (x ∈ ws.take q ++ [y]) ↔ x ∈ ws.take q := by simp; intro h; exact absurd h.symm hyx
          simp only [this]
      · rw [List.take_of_length_le (by omega), he0]
        unfold semTake
        by_cases hin : ¬ (0 ≤ x ∧ x ≤ 7)
        · rw [if_pos hin, if_neg (fun h => hin (hwx x h)), if_pos hin]
        · rw [if_neg hin, if_neg hin]
          by_cases hm : x ∈ ws
          · rw [if_pos hm, if_pos hm]
          · rw [if_neg hm, if_neg hm]
            split <;> rfl
    rintro _ e _ ⟨rfl, rfl⟩
    refine join_bk (h := ⟨L ++ [ew], ro⟩) (((semTake c ws x).2.2.2 == 0) && decide (c > 0)) ?_ (VIf_eq (fun h => gi ⟨rfl, by simp [h]⟩) (fun h => gi ⟨rfl, by simp [h]⟩))
    -- what the document says
    refine ⟨fun c2 sw2 has h => ∃ ew2, h = ⟨L ++ [ew2], ro⟩ ∧ OwnsSl 1 sw2 ew2 (ints (semTake c ws x).2.1) ∧ c2 = (semTake c ws x).1 ∧ has = (semTake c ws x).2.2.1, VIf_b (fun hb => ?_) (fun hb => VIf_eq (fun h0 => ?_) (fun h0 => gi ⟨ew, rfl, ?_⟩)), ?_⟩
    · simp only [Bool.and_eq_true, beq_iff_eq, decide_eq_true_eq] at hb
      refine ⟨⟨by omega, by omega⟩, gi ⟨ew, rfl, ?_⟩⟩
      have hb1 := hb.1
      unfold semTake at hb1 ⊢
      by_cases hin : ¬ (0 ≤ x ∧ x ≤ 7)
      · rw [if_pos hin] at hb1; exact absurd (show (1 : Int) = 0 from hb1) (by decide)
      · rw [if_neg hin] at hb1 ⊢
        by_cases hm : x ∈ ws
        · rw [if_pos hm] at hb1; exact absurd (show (7 : Int) = 0 from hb1) (by decide)
        · rw [if_neg hm, if_pos hb.2]; exact ⟨ow, rfl, rfl⟩
    · have hc : ¬ c > 0 := fun hc => by simp [h0, hc] at hb
      have h0' := h0
      unfold semTake at h0' ⊢
      by_cases hin : ¬ (0 ≤ x ∧ x ≤ 7)
      · rw [if_pos hin] at h0'; exact absurd (show (1 : Int) = 0 from h0') (by decide)
      · rw [if_neg hin] at h0' ⊢
        by_cases hm : x ∈ ws
        · rw [if_pos hm] at h0'; exact absurd (show (7 : Int) = 0 from h0') (by decide)
        · rw [if_neg hm, if_neg hc]
          refine app_new hrw (by omega) (fun s2 e2 o2 l2 _ => ?_)
          refine app_row grows_ints (vs := [.int .i64 x]) rfl ⟨rfl, trivial⟩ (L ++ [ew]) e2 [] (by simp) o2 (by omega) (fun s3 e3 o3 _ => ?_)
          refine ⟨⟨L ++ [e3], ro⟩, Gh.drop (by simp), e3, rfl, by simpa [ints, intV] using o3, rfl, rfl⟩
    · have h0' := h0
      unfold semTake at h0' ⊢
      by_cases hin : ¬ (0 ≤ x ∧ x ≤ 7)
      · rw [if_pos hin]; exact ⟨ow, rfl, rfl⟩
      · rw [if_neg hin] at h0' ⊢
        by_cases hm : x ∈ ws
        · rw [if_pos hm]; exact ⟨ow, rfl, rfl⟩
        · rw [if_neg hm] at h0'
          exact absurd (by split <;> rfl) h0'
    rintro _ c2 sw2 has _ ⟨ew2, rfl, ow2, rfl, rfl⟩
    refine sem_take_c [] [ew2] rfl hs hc1 (by omega) (fun L1 h1 => ⟨_, _, rfl, ?_⟩)
    have hS : SpSt p ro (semTake c ws x).1 sw2 (i + 1) ⟨[] ++ (L1 ++ [ew2]), ro⟩ := by
      refine ⟨L1, ew2, _, rfl, h1, ow2, ?_⟩
      unfold semTake
      by_cases hin : ¬ (0 ≤ x ∧ x ≤ 7)
      · rw [if_pos hin]; exact ⟨hc0, hc1, by dsimp only; omega, hwx⟩
      · rw [if_neg hin]
        by_cases hm : x ∈ ws
        · rw [if_pos hm]; exact ⟨hc0, hc1, by dsimp only; omega, hwx⟩
        · rw [if_neg hm]
          by_cases hc : c > 0
          · rw [if_pos hc]; exact ⟨by dsimp only; omega, by dsimp only; omega, by dsimp only; omega, hwx⟩
          · rw [if_neg hc]
            refine ⟨hc0, hc1, by simp; omega, fun y hy => ?_⟩
            simp only [List.mem_append, List.mem_singleton] at hy
            rcases hy with hy | rfl
            · exact hwx y hy
            · omega
    refine ⟨fun b h => b = false ∧ SpSt p ro (semTake c ws x).1 sw2 (i + 1) h, same_error_c hG ⟨_, rfl, VIf_nb (fun h => absurd rfl (of_decide_eq_false h)) (fun _ => gi ⟨by simp, hS⟩)⟩, ?_⟩
    rintro _ b h ⟨rfl, hS⟩
    exact VIf_b (nomatch ·) (fun _ => gi hS)
end Go.Proofs.YtkokdeenniejjaaDoor
