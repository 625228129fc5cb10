import Derived.Test.YtkokdeenniejjaaSem
namespace Go.Proofs.Ytkokdeenniejjaa
open Go.Eng
theorem sem_fact_c {own : List Ent} {ro : Addr → Option Value} {post : Value → H → Prop} (hk : post (.bool true) ⟨own, ro⟩) : SemCall Try.prog 16 (List.toArray []) ⟨own, ro⟩ post := by
  refine f16_call _ post ?_
  refine sem_new_c (fun hc => absurd ⟨by decide, by decide⟩ hc) (fun p L hs _ _ => ⟨_, none, rfl, VIf_nnil ?_⟩)
  refine sem_take_c own [] (by simp) hs (by decide) (by decide) (fun L1 h1 => ⟨_, _, rfl, ?_⟩)
  refine sem_take_c own [] (by simp) h1 (by decide) (by decide) (fun L2 h2 => ⟨_, _, rfl, ?_⟩)
  refine sem_give_c own [] (by simp) h2 (by decide) (by decide) (by decide) (fun L3 h3 => ⟨_, _, rfl, ?_⟩)
  refine join_b (h := ⟨own ++ (L3 ++ []), ro⟩) true (VIf_err (fun _ => VIf_err (fun _ => VIf_err (fun _ => VIf_b (fun _ => VIf_nb (fun _ => VIf_eq (fun _ => ?_) ?_) ?_) ?_) ?_) ?_) ?_) ?_
  · refine sem_count_c h3 (by intro e he; simp [he]) ⟨_, rfl, gi ⟨rfl, rfl⟩⟩
  · exact fun h => absurd rfl h
  · exact (nomatch ·)
  · exact (nomatch ·)
  · exact fun h => absurd rfl h
  · exact fun h => absurd rfl h
  · exact fun h => absurd rfl h
  · exact ⟨⟨own, ro⟩, Gh.drop (by simp), hk⟩
/-- what is kept while SemCounts goes on -/
def SemInv (p : Nat) (ro : Addr → Option Value) (count i g t : Int) (h : H) : Prop :=
  ∃ L c ws, h = ⟨L, ro⟩ ∧ SemAt p c ws L ∧ 0 ≤ c ∧ c ≤ 1000 ∧ 0 ≤ g ∧ g ≤ i ∧ 0 ≤ t ∧ t ≤ i ∧ count + g = c + t ∧ (ws = [] ∨ c = 0) ∧ (ws.length : Int) ≤ i ∧ ∀ x ∈ ws, 0 ≤ x

theorem semCounts_c {count : Int} {st : SV} {xs : List Int} {ro : Addr → Option Value} {post : Value → H → Prop} (hr : RdSl ⟨[], ro⟩ st (ints xs)) (hpost : ∀ h, post (.bool true) h) :
    SemCall Try.prog 4 (List.toArray [.int .i64 count, .slice st.a st.len st.cap]) ⟨[], ro⟩ post := by
  refine f4_call _ _ _ post ?_
  refine sem_fact_c ⟨_, rfl, (nomatch ·), fun _ => ?_⟩
  refine sem_new_c (fun hc => ⟨_, _, rfl, VIf_nerr (fun _ => ?_) (nomatch ·)⟩) (fun p L hs c0 c1 => ⟨_, none, rfl, VIf_nnil ?_⟩)
  · refine in_c ⟨_, rfl, ret ?_⟩
    rw [decide_eq_false hc]; exact hpost _
  refine ⟨fun _ => True, ⟨fun n g t i h => SemInv p ro count i g t h ∧ 0 ≤ i ∧ i ≤ 100 ∧ n = (100 - i).toNat, ⟨100, gi ⟨⟨L, count, [], rfl, hs, c0, c1, by omega, by omega, by omega, by omega, by omega, .inl rfl, by simp, by simp⟩, by omega, by omega, rfl⟩⟩, ?_⟩, fun _ h _ => ret (hpost h)⟩
  rintro n _ g t i h ⟨⟨L, c, ws, rfl, hs, hc0, hc1, hg0, hg1, ht0, ht1, hsum, hw, hwl, hwx⟩, hi0, hi1, rfl⟩
  have hr : ∀ {own}, RdSl ⟨own, ro⟩ st (ints xs) := hr.mono (by simp) (fun _ _ h => h)
  refine join_and (VIf_dec (fun hi => ?_) (fun _ => gi trivial))
  refine sem_waits_c hs (fun _ h => h) (by omega) (fun sw ew ow => ⟨sw, rfl, ?_⟩)
  refine hr.idx hi0 hi.1 fun x hx => ?_
  -- what is behind
  refine ⟨fun g t h => SemInv p ro count (i + 1) g t h, ?_, ?_⟩
  · refine VIf_eq (fun hx => ?_) (fun hx => ?_)
    · -- given
      refine sem_give_c [] [ew] rfl hs hc0 hc1 (by omega) (fun L1 h1 => ⟨_, _, rfl, ?_⟩)
      cases ws with
      | cons w ws =>
        simp only [semGive] at h1 ⊢
        refine ⟨rfl, ⟨fun g' h => g' = g + 1 ∧ h = ⟨[] ++ (L1 ++ [ew]), ro⟩, ?_, ?_⟩⟩
        · exact ⟨fun _ => ⟨⟨by omega, by omega⟩, gi ⟨rfl, rfl⟩⟩, (nomatch ·)⟩
        rintro _ _ _ ⟨rfl, rfl⟩
        have hw0 : 0 ≤ w := hwx w (by simp)
        refine join_b true ⟨rfl, fun _ => gi ⟨rfl, by simpa using hw0⟩, (nomatch ·)⟩ ?_
        refine VIf_b (fun _ => ⟨⟨by omega, by omega⟩, ?_⟩) (nomatch ·)
        have hrw : ∀ {A : List Ent}, RdSl ⟨A ++ [ew], ro⟩ sw (ints (w :: ws)) := RdSl.of_own (e := ew) (by simp) ow
        have hlen := (hrw (A := [])).len
        simp only [ints_length, List.length_cons] at hlen
        refine join_b (h := ⟨[] ++ (L1 ++ [ew]), ro⟩) false ?_ ?_
        · refine VIf_eq (fun h0 => ?_) (fun _ => ?_)
          · omega
          · refine (hrw (A := L1)).idx (by omega) (by omega) fun y hy => gi ⟨rfl, ?_⟩
            simp at hy; simp [hy]
        · refine VIf_b (nomatch ·) (fun _ => ?_)
          refine ⟨⟨L1, ro⟩, Gh.drop (by simp), L1, c, ws, rfl, h1, hc0, hc1, by omega, by omega, by omega, by omega, by omega, .inr ?_, ?_, ?_⟩
          · rcases hw with hw | hw
            · cases hw
            · exact hw
          · simp at hwl; omega
          · exact fun x hx => hwx x (by simp [hx])
      | nil =>
        by_cases hf : c = 1000
        · simp only [semGive, if_pos hf] at h1 ⊢
          refine ⟨rfl, ⟨fun g' h => g' = g ∧ h = ⟨[] ++ (L1 ++ [ew]), ro⟩, ?_, ?_⟩⟩
          · exact ⟨(nomatch ·), fun _ => gi ⟨rfl, rfl⟩⟩
          rintro _ _ _ ⟨rfl, rfl⟩
          refine join_b false ⟨rfl, (nomatch ·), fun _ => gi ⟨rfl, rfl⟩⟩ ?_
          refine VIf_b (nomatch ·) (fun _ => ?_)
          exact ⟨⟨L1, ro⟩, Gh.drop (by simp), L1, c, [], rfl, h1, hc0, hc1, by omega, by omega, by omega, by omega, by omega, .inl rfl, by simp; omega, by simp⟩
        · simp only [semGive, if_neg hf] at h1 ⊢
          refine ⟨rfl, ⟨fun g' h => g' = g + 1 ∧ h = ⟨[] ++ (L1 ++ [ew]), ro⟩, ?_, ?_⟩⟩
          · exact ⟨fun _ => ⟨⟨by omega, by omega⟩, gi ⟨rfl, rfl⟩⟩, (nomatch ·)⟩
          rintro _ _ _ ⟨rfl, rfl⟩
          refine join_b false ⟨rfl, fun _ => gi ⟨rfl, rfl⟩, (nomatch ·)⟩ ?_
          refine VIf_b (nomatch ·) (fun _ => ?_)
          exact ⟨⟨L1, ro⟩, Gh.drop (by simp), L1, c + 1, [], rfl, h1, by omega, by omega, by omega, by omega, by omega, by omega, by omega, .inl rfl, by simp; omega, by simp⟩
    · refine hr.idx hi0 hi.1 fun x' hx' => ?_
      refine sem_take_c [] [ew] rfl hs hc1 (by omega) (fun L1 h1 => ⟨_, _, rfl, ?_⟩)
      unfold semTake at h1 ⊢
      by_cases h7 : ¬ (0 ≤ x' ∧ x' ≤ 7)
      · rw [if_pos h7] at h1 ⊢
        refine join_b false ⟨rfl, (nomatch ·), fun _ => gi ⟨rfl, rfl⟩⟩ (VIf_b (nomatch ·) (fun _ => ?_))
        exact ⟨⟨L1, ro⟩, Gh.drop (by simp), L1, c, ws, rfl, h1, hc0, hc1, by omega, by omega, by omega, by omega, by omega, hw, by omega, hwx⟩
      rw [if_neg h7] at h1 ⊢
      by_cases hm : x' ∈ ws
      · rw [if_pos hm] at h1 ⊢
        refine join_b false ⟨rfl, (nomatch ·), fun _ => gi ⟨rfl, rfl⟩⟩ (VIf_b (nomatch ·) (fun _ => ?_))
        exact ⟨⟨L1, ro⟩, Gh.drop (by simp), L1, c, ws, rfl, h1, hc0, hc1, by omega, by omega, by omega, by omega, by omega, hw, by omega, hwx⟩
      rw [if_neg hm] at h1 ⊢
      by_cases hp : c > 0
      · rw [if_pos hp] at h1 ⊢
        have hw0 : ws = [] := hw.resolve_right (by omega)
        subst hw0
        refine join_b true ⟨rfl, fun _ => gi ⟨rfl, rfl⟩, (nomatch ·)⟩ (VIf_b (fun _ => ⟨⟨by omega, by omega⟩, VIf_dec (fun h => ?_) (fun _ => ?_)⟩) (nomatch ·))
        · have := ow.sl_len
          simp [ints] at this
          omega
        · exact ⟨⟨L1, ro⟩, Gh.drop (by simp), L1, c - 1, [], rfl, h1, by omega, by omega, by omega, by omega, by omega, by omega, by omega, .inl rfl, by simp; omega, by simp⟩
      · rw [if_neg hp] at h1 ⊢
        refine join_b false ⟨rfl, fun _ => gi ⟨rfl, rfl⟩, (nomatch ·)⟩ (VIf_b (nomatch ·) (fun _ => ?_))
        refine ⟨⟨L1, ro⟩, Gh.drop (by simp), L1, c, ws ++ [x'], rfl, h1, by omega, by omega, by omega, by omega, by omega, by omega, by omega, .inr (by omega), by simp; omega, ?_⟩
        intro y hy
        simp at hy
        rcases hy with hy | rfl
        · exact hwx y hy
        · omega
  · rintro _ g' t' h ⟨L, c, ws, rfl, hs, hc0, hc1, hg0, hg1, ht0, ht1, hsum, hw, hwl, hwx⟩
    refine ⟨fun b h => b = false ∧ SemInv p ro count (i + 1) g' t' h, ?_, ?_⟩
    · refine ⟨⟨by omega, by omega⟩, sem_count_c hs (fun _ h => h) ⟨_, rfl, ⟨by omega, by omega⟩, VIf_ne (fun h => absurd hsum h) (fun _ => ?_)⟩⟩
      refine sem_count_c hs (fun _ h => h) ⟨_, rfl, VIf_dec (fun h => by omega) (fun _ => ?_)⟩
      refine sem_waits_c hs (fun _ h => h) (by omega) (fun sw ew ow => ⟨sw, rfl, VIf_dec (fun h => ?_) (fun h => ?_)⟩)
      · refine sem_count_c hs (by intro e he; simp [he]) ⟨_, rfl, ⟨⟨L, ro⟩, Gh.drop (by simp), ?_, L, c, ws, rfl, hs, hc0, hc1, hg0, hg1, ht0, ht1, hsum, hw, hwl, hwx⟩⟩
        rcases hw with rfl | rfl
        · have := ow.sl_len
          simp [ints] at this
          omega
        · rfl
      · exact ⟨⟨L, ro⟩, Gh.drop (by simp), rfl, L, c, ws, rfl, hs, hc0, hc1, hg0, hg1, ht0, ht1, hsum, hw, hwl, hwx⟩
    · rintro _ b h ⟨rfl, hI⟩
      refine VIf_b (nomatch ·) (fun _ => ⟨⟨by omega, by omega⟩, (100 - (i + 1)).toNat, by omega, gi ⟨hI, by omega, by omega, rfl⟩⟩)
end Go.Proofs.Ytkokdeenniejjaa
