import Derived.Test.YtiaopgnnibidlaaD6
namespace Go.Proofs.Ytiaopgnnibidlaa
open Go.Eng
set_option maxRecDepth 20000
theorem OwnsSl.cut {A C : List Ent} {ro : Addr → Option Value} {s : SV} {e : Ent} {xs : List Value} {k : Nat} (h : OwnsSl 1 s e xs) (hk : k ≤ s.len) :
    ∃ e2, OwnsSl 1 ⟨s.a, k, s.cap⟩ e2 (xs.take k) ∧ Gh ⟨A ++ e :: C, ro⟩ ⟨A ++ e2 :: C, ro⟩ := by
  rcases h with ⟨h1, h2, h3, h4, h5, h6⟩ | ⟨b, off, h1, h2, h3, h4, h5, h6, h7⟩
  · exact ⟨e, .inl ⟨h1, by show k = 0; omega, h3, h4, h5, by simp [h6]⟩, Gh.refl _⟩
  · refine ⟨⟨e.id, e.cells.take (off + k), e.cap⟩, .inr ⟨b, off, h1, h2, ?_, h4, by show k ≤ s.cap; omega, h6, ?_⟩, Gh.weaken A C ro e _ (List.take_prefix _ _)⟩
    · show (e.cells.take (off + k)).length = off + k * 1
      rw [List.length_take, h3]; omega
    · show (e.cells.take (off + k)).drop off = xs.take k
      rw [List.drop_take, h7, show off + k - off = k by omega]
def AlSt (p : Nat) (ro : Addr → Option Value) (i : Int) (has : SV) (h : H) : Prop :=
  ∃ L e f hh l, h = ⟨L ++ [e], ro⟩ ∧ DqAt p 1 f hh L ∧ OwnsSl 1 has e (ints l) ∧ Al (200 + 4 * i) f hh l ∧ 0 ≤ i ∧ i ≤ 100 ∧ ∀ v, v ∈ l → 0 ≤ v
set_option maxHeartbeats 1000000 in
theorem dequeAlone_c {st : SV} {xs : List Int} {ro : Addr → Option Value} {post : Value → H → Prop} (hr : RdSl ⟨[], ro⟩ st (ints xs)) (hpost : ∀ h, post (.bool true) h) :
    SemCall Try.prog 7 (List.toArray [.slice st.a st.len st.cap]) ⟨[], ro⟩ post := by
  have hr : ∀ {own}, RdSl ⟨own, ro⟩ st (ints xs) := hr.mono (by simp) (fun _ _ h => h)
  refine f7_call _ _ post (deque_fact_c ⟨_, rfl, VIf_nb (nomatch ·) (fun _ => ?_)⟩)
  refine dq_new_c (fun hc => absurd ⟨by decide, by decide⟩ hc) (fun p L hs _ _ => ⟨_, none, rfl, VIf_nnil ?_⟩)
  refine ⟨fun _ => True, ⟨fun n has i h => AlSt p ro i has h ∧ n = (100 - i).toNat, ⟨_, ⟨L ++ [⟨none, [], 0⟩], ro⟩, by simpa using Gh.phantom L [] ro 0, ⟨L, _, _, _, [], rfl, hs, OwnsSl.nil 1, ?_, by omega, by omega, by simp⟩, rfl⟩, ?_⟩, fun _ h _ => ret (hpost h)⟩
  · exact ⟨fun k => by constructor <;> omega, fun k => by constructor <;> omega, rfl, by omega, by simp, by simp, fun j hj => by simp at hj⟩
  rintro n _ has i h ⟨⟨L, e, f, hh, l, rfl, hs, ho, hal, hi0, hi1, hl0⟩, rfl⟩
  refine join_and ?_
  refine VIf_dec (fun hc => ?_) (fun _ => gi trivial)
  obtain ⟨hc1, hc2⟩ := hc
  have hsl := ho.sl_len
  rw [ints_length] at hsl
  have hl8 := hal.l
  refine ⟨fun has2 h => AlSt p ro (i + 1) has2 h, ?_, ?_⟩
  rotate_left
  · rintro _ has2 h hS
    exact ⟨⟨by omega, by omega⟩, _, by omega, gi ⟨hS, rfl⟩⟩
  refine hr.idx hi0 hc1 (fun x hx => ?_)
  have h00 : ¬ hh (0 * 4) ≠ 0 := fun hc => hc hal.h0
  refine ⟨fun o h => o = none ∧ ∃ L, h = ⟨L ++ [e], ro⟩ ∧ DqAt p 1 f (if x ≥ 0 then dBegin hh 0 1 i else dBegin hh 0 4 0) L, VIf_dec (fun hx0 => ?_) (fun hx0 => ?_), ?_⟩
  · refine dq_push_c [] [e] rfl hs (fun L1 h1 => ⟨_, rfl, _, rfl, gi ⟨?_, L1, rfl, ?_⟩⟩)
    · unfold dPush; rw [if_neg (fun h => h ⟨by omega, by omega⟩), if_neg h00]; rfl
    · unfold dPush at h1; rw [if_neg (fun h => h ⟨by omega, by omega⟩), if_neg h00] at h1; rw [if_pos hx0]; exact h1
  · refine dq_pop_c [] [e] rfl hs (fun L1 h1 => ⟨_, rfl, _, rfl, gi ⟨?_, L1, rfl, ?_⟩⟩)
    · unfold dPop; rw [if_neg h00]; rfl
    · unfold dPop at h1; rw [if_neg h00] at h1; rw [if_neg hx0]; exact h1
  rintro _ o h ⟨rfl, L1, rfl, hs1⟩
  refine VIf_nnil ?_
  -- what the operation comes to
  obtain ⟨f', h', g, l', hrun, hal', hg, hl', hwhat⟩ : ∃ f' h' g l', DRun 4 f (if x ≥ 0 then dBegin hh 0 1 i else dBegin hh 0 4 0) f' h' g ∧ Al (200 + 4 * (i + 1)) f' h' l' ∧ g ≠ -3 ∧ (∀ v, v ∈ l' → 0 ≤ v) ∧
      (if x ≥ 0 then (if l.length = 8 then g = -2 ∧ l' = l else g = -1 ∧ l' = l ++ [i]) else (if l.length = 0 then g = -1 ∧ l' = l else g = gI l (l.length - 1) ∧ l' = l.take (l.length - 1))) := by
    by_cases hx0 : x ≥ 0
    · simp only [if_pos hx0]
      obtain ⟨f', h', h1, h2⟩ := al_push hal (by omega) (by omega) (v := i) ⟨by omega, by omega⟩
      have mono : ∀ d f h f' h' g, DRun d f h f' h' g → DRun (d + 1) f h f' h' g := by
        intro d
        induction d with
        | zero => intro _ _ _ _ _ h; exact h.elim
        | succ d ih =>
          rintro f h f' h' g ⟨a, b⟩
          refine ⟨a, b.imp id ?_⟩
          rintro ⟨f1, h1, e, r⟩
          exact ⟨f1, h1, e, ih _ _ _ _ _ r⟩
      refine ⟨f', h', _, if l.length = 8 then l else l ++ [i], mono _ _ _ _ _ _ h1, ?_, ?_, ?_, ?_⟩
      · rw [show 200 + 4 * (i + 1) = 200 + 4 * i + 4 by omega]; exact h2
      · split <;> omega
      · split
        · exact hl0
        · intro v hv
          simp only [List.mem_append, List.mem_singleton] at hv
          rcases hv with hv | rfl
          · exact hl0 v hv
          · omega
      · by_cases h8 : l.length = 8
        · simp only [if_pos h8]; exact ⟨trivial, trivial⟩
        · simp only [if_neg h8]; exact ⟨trivial, trivial⟩
    · simp only [if_neg hx0]
      obtain ⟨f', h', h1, h2⟩ := al_pop hal (by omega) (by omega)
      have hge : ∀ j, j < l.length → 0 ≤ gI l j := fun j hj => by
        unfold gI; rw [List.getElem?_eq_getElem hj]; exact hl0 _ (List.getElem_mem hj)
      refine ⟨f', h', _, l.take (l.length - 1), h1, ?_, ?_, ?_, ?_⟩
      · rw [show 200 + 4 * (i + 1) = 200 + 4 * i + 4 by omega]; exact h2
      · by_cases h8 : l.length = 0
        · rw [if_pos h8]; omega
        · rw [if_neg h8]; have := hge (l.length - 1) (by omega); omega
      · intro v hv; exact hl0 v (List.mem_of_mem_take hv)
      · by_cases h8 : l.length = 0
        · simp only [if_pos h8]; exact ⟨trivial, by rw [List.eq_nil_of_length_eq_zero h8]; rfl⟩
        · simp only [if_neg h8]; exact ⟨trivial, trivial⟩
  generalize (if x ≥ 0 then dBegin hh 0 1 i else dBegin hh 0 4 0) = h1 at hs1 hrun
  refine ⟨fun got h => got = g ∧ ∃ L, h = ⟨L ++ [e], ro⟩ ∧ DqAt p 1 f' h' L, ⟨fun m got k h => 0 ≤ k ∧ k ≤ 6 ∧ m = (6 - k).toNat ∧ ∃ L fc hc, h = ⟨L ++ [e], ro⟩ ∧ DqAt p 1 fc hc L ∧ ((got = -3 ∧ ∃ d : Nat, k + d ≤ 6 ∧ DRun d fc hc f' h' g) ∨ (got = g ∧ fc = f' ∧ hc = h')),
    ⟨_, gi ⟨by omega, by omega, rfl, L1, _, _, rfl, hs1, .inl ⟨rfl, 4, by omega, hrun⟩⟩⟩, ?_⟩, ?_⟩
  · rintro m _ got k _ ⟨k0, k6, rfl, L2, fc, hc, rfl, hs2, hw⟩
    refine join_b (h := ⟨L2 ++ [e], ro⟩) (decide (k < 6) && (got == -3)) (VIf_dec (fun hk => gi ⟨rfl, by simp [hk]⟩) (fun hk => gi ⟨rfl, by simp [hk]⟩)) ?_
    refine VIf_b (fun hb => ?_) (fun hb => gi ?_)
    · simp only [Bool.and_eq_true, decide_eq_true_eq, beq_iff_eq] at hb
      rcases hw with ⟨_, d, hd, hrun⟩ | ⟨hgg, _, _⟩
      rotate_left
      · exact absurd (hgg.symm.trans hb.2) hg
      cases d with
      | zero => exact hrun.elim
      | succ d =>
        obtain ⟨ok, hr2⟩ := hrun
        refine dq_step_c (q := 0) [] [e] rfl hs2 (by omega) ok (fun L' hL => ⟨_, _, _, rfl, ?_⟩)
        rcases hr2 with he | ⟨f1, h1, he, hr3⟩
        · rw [he] at hL ⊢
          refine VIf_nerr (fun h => absurd rfl h) (fun _ => VIf_b (fun _ => ⟨⟨by omega, by omega⟩, _, ?_, gi ⟨by omega, by omega, rfl, L', f', h', rfl, hL, .inr ⟨rfl, rfl, rfl⟩⟩⟩) (nomatch ·))
          omega
        · rw [he] at hL ⊢
          refine VIf_nerr (fun h => absurd rfl h) (fun _ => VIf_b (nomatch ·) (fun _ => ⟨⟨by omega, by omega⟩, _, ?_, gi ⟨by omega, by omega, rfl, L', f1, h1, rfl, hL, .inl ⟨hb.2, d, by omega, hr3⟩⟩⟩))
          omega
    · rcases hw with ⟨h3, d, hd, hrun⟩ | ⟨hgg, rfl, rfl⟩
      · cases d with
        | zero => exact hrun.elim
        | succ d =>
          subst h3
          have : k < 6 := by omega
          simp [this] at hb
      · exact ⟨hgg, L2, rfl, hs2⟩
  rintro _ got _ ⟨rfl, L2, rfl, hs2⟩
  refine hr.idx hi0 hc1 (fun x' hx' => ?_)
  rw [hx] at hx'
  cases hx'
  refine VIf_dec (fun hx0 => ?_) (fun hx0 => ?_)
  · rw [if_pos hx0] at hwhat
    refine VIf_eq (fun h8 => ?_) (fun h8 => ?_)
    · rw [if_pos (by omega)] at hwhat
      obtain ⟨rfl, rfl⟩ := hwhat
      exact VIf_ne (fun h => absurd rfl h) (fun _ => gi ⟨L2, e, _, _, _, rfl, hs2, ho, hal', by omega, by omega, hl'⟩)
    · rw [if_neg (by omega)] at hwhat
      obtain ⟨rfl, rfl⟩ := hwhat
      refine app_row grows_ints (vs := [.int .i64 i]) rfl ⟨rfl, trivial⟩ L2 e [] rfl ho (by omega) (fun s2 e2 o2 l2 => ?_)
      exact VIf_ne (fun h => absurd rfl h) (fun _ => gi ⟨L2, e2, _, _, _, rfl, hs2, by simpa [ints, intV] using o2, hal', by omega, by omega, hl'⟩)
  · rw [if_neg hx0] at hwhat
    refine VIf_eq (fun h8 => ?_) (fun h8 => ?_)
    · rw [if_pos (by omega)] at hwhat
      obtain ⟨rfl, rfl⟩ := hwhat
      exact VIf_ne (fun h => absurd rfl h) (fun _ => gi ⟨L2, e, _, _, _, rfl, hs2, ho, hal', by omega, by omega, hl'⟩)
    · rw [if_neg (by omega)] at hwhat
      obtain ⟨rfl, rfl⟩ := hwhat
      refine ⟨⟨by omega, by omega⟩, ?_⟩
      have hrd : RdSl ⟨L2 ++ [e], ro⟩ has (ints l) := RdSl.of_own (e := e) (by simp) ho
      refine hrd.idx (by omega) (by omega) (fun y hy => ?_)
      have hy : y = gI l (l.length - 1) := by
        unfold gI
        rw [show l.length - 1 = (((has.len : Nat) : Int) - 1).toNat by omega, hy]; rfl
      refine VIf_ne (fun h => absurd hy.symm h) (fun _ => ⟨⟨by omega, by omega⟩, by omega, by have := ho.cap_le; omega, ?_⟩)
      obtain ⟨e2, o2, g2⟩ := OwnsSl.cut (A := L2) (C := []) (ro := ro) (k := (((has.len : Nat) : Int) - 1).toNat) ho (by omega)
      refine ⟨_, g2, L2, e2, _, _, _, rfl, hs2, ?_, hal', by omega, by omega, hl'⟩
      rw [show (((has.len : Nat) : Int) - 1).toNat = l.length - 1 by omega] at o2 ⊢
      rw [ints, List.map_take]; exact o2
end Go.Proofs.Ytiaopgnnibidlaa
