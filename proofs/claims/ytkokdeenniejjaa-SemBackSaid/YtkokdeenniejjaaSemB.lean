import Derived.Test.YtkokdeenniejjaaSemL
import Derived.Test.YtkokdeenniejjaaEngJ
namespace Go.Proofs.Ytkokdeenniejjaa
open Go.Eng
def SemOk (c : Int) (ws : List Int) : Prop := 0 ≤ c ∧ c ≤ 1000 ∧ (ws = [] ∨ c = 0)
theorem SemOk.take {c : Int} {ws : List Int} (h : SemOk c ws) (who : Int) : SemOk (semTake c ws who).1 (semTake c ws who).2.1 ∧ (semTake c ws who).2.1.length ≤ ws.length + 1 := by
  obtain ⟨h0, h1, h2⟩ := h
  unfold semTake
  split
  · exact ⟨⟨h0, h1, h2⟩, by simp⟩
  split
  · exact ⟨⟨h0, h1, h2⟩, by simp⟩
  split
  · exact ⟨⟨by simp only; omega, by simp only; omega, .inl (h2.resolve_right (by omega))⟩, by simp⟩
  · exact ⟨⟨h0, h1, .inr (by simp only; omega)⟩, by simp⟩
theorem SemOk.give {c : Int} {ws : List Int} (h : SemOk c ws) : SemOk (semGive c ws).1 (semGive c ws).2.1 ∧ (semGive c ws).2.1.length ≤ ws.length := by
  obtain ⟨h0, h1, h2⟩ := h
  unfold semGive
  split
  · rename_i w ws
    exact ⟨⟨h0, h1, .inr (h2.resolve_left (by simp))⟩, by simp⟩
  · split
    · exact ⟨⟨h0, h1, .inl rfl⟩, by simp⟩
    · exact ⟨⟨by simp only; omega, by simp only; omega, .inl rfl⟩, by simp⟩

theorem semBack_c {count who : Int} {st : SV} {xs : List Int} {ro : Addr → Option Value} {post : Value → H → Prop} (hr : RdSl ⟨[], ro⟩ st (ints xs)) (hpost : ∀ h, post (.bool true) h) :
    SemCall Try.prog 5 (List.toArray [.int .i64 count, .slice st.a st.len st.cap, .int .i64 who]) ⟨[], ro⟩ post := by
  refine f5_call _ _ _ _ post ?_
  refine sem_fact_c ⟨_, rfl, (nomatch ·), fun _ => ?_⟩
  refine sem_new_c (fun hc => ⟨_, _, rfl, VIf_nerr (fun _ => ?_) (nomatch ·)⟩) (fun p L hs c0 c1 => ⟨_, none, rfl, VIf_nnil ?_⟩)
  · refine in_c ⟨_, rfl, ret ?_⟩
    rw [decide_eq_false hc]; exact hpost _
  refine ⟨fun h => ∃ L c ws, h = ⟨L, ro⟩ ∧ SemAt p c ws L ∧ SemOk c ws ∧ (ws.length : Int) ≤ 80, ⟨fun n i h => (∃ L c ws, h = ⟨L, ro⟩ ∧ SemAt p c ws L ∧ SemOk c ws ∧ (ws.length : Int) ≤ i) ∧ 0 ≤ i ∧ i ≤ 80 ∧ n = (80 - i).toNat, ⟨80, gi ⟨⟨L, count, [], rfl, hs, ⟨c0, c1, .inl rfl⟩, by simp⟩, by omega, by omega, rfl⟩⟩, ?_⟩, ?_⟩
  · rintro n _ i h ⟨⟨L, c, ws, rfl, hs, hok, hwl⟩, hi0, hi1, rfl⟩
    have hr : ∀ {own}, RdSl ⟨own, ro⟩ st (ints xs) := hr.mono (by simp) (fun _ _ h => h)
    refine join_and (VIf_dec (fun hi => ?_) (fun _ => gi ⟨L, c, ws, rfl, hs, hok, by omega⟩))
    refine hr.idx hi0 hi.1 fun x hx => VIf_eq (fun _ => ?_) (fun _ => ?_)
    · refine sem_give_c [] [] (by simp) hs hok.1 hok.2.1 (by omega) (fun L1 h1 => ⟨_, _, rfl, ⟨by omega, by omega⟩, (80 - (i + 1)).toNat, by omega, gi ⟨⟨L1, _, _, by simp, h1, hok.give.1, ?_⟩, by omega, by omega, rfl⟩⟩)
      have := hok.give.2
      omega
    · refine hr.idx hi0 hi.1 fun x' hx' => ?_
      refine sem_take_c [] [] (by simp) hs hok.2.1 (by omega) (fun L1 h1 => ⟨_, _, rfl, ⟨by omega, by omega⟩, (80 - (i + 1)).toNat, by omega, gi ⟨⟨L1, _, _, by simp, h1, (hok.take x').1, ?_⟩, by omega, by omega, rfl⟩⟩)
      have := (hok.take x').2
      omega
  rintro _ h ⟨L, c, ws, rfl, hs, hok, hwl⟩
  have hok' := hok
  obtain ⟨h0, h1, h2⟩ := hok
  refine sem_count_c hs (fun _ h => h) ⟨_, rfl, ?_⟩
  refine sem_waits_c hs (fun _ h => h) (by omega) (fun sw ew ow => ⟨sw, rfl, ?_⟩)
  have hswl := ow.sl_len
  rw [ints_length] at hswl
  refine sem_take_c [] [ew] rfl hs h1 (by omega) (fun L1 hs1 => ⟨_, _, rfl, ?_⟩)
  have hl := (hok'.take who).2
  have mem : ∀ {X : List Ent}, ∀ e ∈ L1, e ∈ [] ++ (L1 ++ X) := by intro X e he; simp [he]
  refine VIf_nerr (fun he => ?_) (fun he => ?_)
  · -- refused
    have hsame : (semTake c ws who).1 = c ∧ (semTake c ws who).2.1 = ws := by
      unfold semTake at he ⊢
      split
      · exact ⟨rfl, rfl⟩
      split
      · exact ⟨rfl, rfl⟩
      · rename_i a b; rw [if_neg a, if_neg b] at he; split at he <;> exact absurd rfl he
    rw [hsame.1, hsame.2] at hs1
    refine ⟨fun b _ => b = true, sem_count_c hs1 mem ⟨_, rfl, VIf_eq (fun _ => ?_) (fun h => absurd rfl h)⟩, fun _ b h hb => ret (hb ▸ hpost _)⟩
    refine sem_waits_c hs1 mem (by omega) (fun s2 e2 o2 => ⟨s2, rfl, ?_⟩)
    refine same_ints_c (RdSl.of_own (e := e2) (by simp) o2) (RdSl.of_own (e := ew) (by simp) ow) (by have := o2.sl_len; rw [ints_length] at this; omega) ⟨_, rfl, gi (by simp)⟩
  · have hnot : ¬ ¬ (0 ≤ who ∧ who ≤ 7) := fun hc => by unfold semTake at he; rw [if_pos hc] at he; cases he
    have hnm : ¬ who ∈ ws := fun hc => by unfold semTake at he; rw [if_neg hnot, if_pos hc] at he; cases he
    by_cases hp : c > 0
    · have e : semTake c ws who = (c - 1, ws, true, 0) := by unfold semTake; rw [if_neg hnot, if_neg hnm, if_pos hp]
      rw [e] at hs1 ⊢
      have hw : ws = [] := h2.resolve_right (by omega)
      subst hw
      refine VIf_nb (nomatch ·) (fun _ => ?_)
      have eg : semGive (c - 1) [] = (c, [], -1, 0) := by unfold semGive; rw [if_neg (by omega)]; simp
      refine sem_give_c [] [ew] rfl hs1 (by simp only; omega) (by simp only; omega) (by simp) (fun L2 hs2 => ⟨_, _, rfl, ?_⟩)
      simp only [eg] at hs2 ⊢
      refine ⟨fun b _ => b = true, VIf_err (fun _ => VIf_eq (fun _ => ?_) (fun h => absurd rfl h)) (fun h => absurd rfl h), fun _ b h hb => ret (hb ▸ hpost _)⟩
      refine sem_count_c hs2 (by intro e he; simp [he]) ⟨_, rfl, VIf_eq (fun _ => VIf_eq (fun _ => ?_) (fun h => absurd (by simp at hswl; omega) h)) (fun h => absurd rfl h)⟩
      refine sem_waits_c hs2 (by intro e he; simp [he]) (by simp) (fun s3 e3 o3 => ⟨s3, rfl, gi ?_⟩)
      have := o3.sl_len
      simp [ints] at this
      simp [this]
    · have e : semTake c ws who = (c, ws ++ [who], false, 0) := by unfold semTake; rw [if_neg hnot, if_neg hnm, if_neg hp]
      rw [e] at hs1 hl ⊢
      have hc0 : c = 0 := by omega
      subst hc0
      refine VIf_nb (fun _ => ?_) (nomatch ·)
      refine ⟨fun b _ => b = true, VIf_eq (fun _ => ?_) (fun h => absurd rfl h), fun _ b h hb => ret (hb ▸ hpost _)⟩
      refine sem_count_c hs1 mem ⟨_, rfl, VIf_eq (fun _ => ?_) (fun h => absurd rfl h)⟩
      refine sem_waits_c hs1 mem (by simp only; simp; omega) (fun s2 e2 o2 => ⟨s2, rfl, ⟨by omega, by omega⟩, gi ?_⟩)
      have := o2.sl_len
      simp at this
      simp only [this, hswl]
      simp
end Go.Proofs.Ytkokdeenniejjaa
