import Derived.Test.YtiaopgnnibidlaaDp
import Derived.Test.YtiaopgnnibidlaaEngJ
namespace Go.Proofs.Ytiaopgnnibidlaa
open Go.Eng
set_option maxRecDepth 20000
theorem norm_eq {t : TS} {k : Nat} (hk : k < t.n) (h2 : t.g k = 2) : (tRest t (k : Int)).2 = 0 ∧ (tHunger (tRest t (k : Int)).1 (k : Int)).2 = 0 ∧ (tHunger (tRest t (k : Int)).1 (k : Int)).1 = tNorm t k := by
  rw [tRest, if_neg (by omega), if_neg (by rw [Int.toNat_natCast]; exact not_not_intro h2)]
  rw [tHunger, if_neg (by dsimp only; omega), if_neg (by dsimp only; rw [Int.toNat_natCast, updN_same]; simp)]
  refine ⟨rfl, rfl, ?_⟩
  unfold tNorm
  rw [if_pos h2]
  dsimp only
  rw [Int.toNat_natCast]
  congr 1
  funext j
  by_cases hj : j = k
  · subst hj; rw [updN_same, updN_same]
  · rw [updN_ne hj, updN_ne hj, updN_ne hj]
def WIn (t : TS) (R k x : Nat) : Prop := t.g x = 1 ∧ ((∃ M, M + R + 1 ≤ 75 ∧ WPot t x M) ∨ ∃ M b, M + R ≤ 75 ∧ WKey t x M b ∧ k ≤ b)
theorem WIn.turn {t : TS} (h : TI t) {R k x : Nat} (hk : k < t.n) (hx : x < t.n) (w : WIn t R k x) :
    (k = x ∧ (tLine (tNorm t k) k (prv t.n k)).1.g x = 2) ∨ WIn (tLine (tNorm t k) k (prv t.n k)).1 R (k + 1) x := by
  obtain ⟨hg, w⟩ := w
  obtain ⟨_, _, _, en⟩ := tNorm_w t k
  have h' := h.norm hk
  have hg' := (tNorm_g t k x).2 hg
  have hk2 := tNorm_k t k
  have nrm : ∀ {M b}, WKey t x M b → WKey (tNorm t k) x M b := fun w => w.norm k
  generalize tNorm t k = t1 at *
  rw [← en] at hk hx
  rw [← en]
  by_cases hd : k = x ∧ (tLine t1 k (prv t1.n k)).1.g x = 2
  · exact .inl hd
  refine .inr ⟨?_, ?_⟩
  · rcases line_pr h' hk hk2 with ⟨_, p⟩ | ⟨_, _, _, _, p5, p6⟩
    · rw [p]; exact hg'
    · by_cases e : x = k
      · exact absurd ⟨e.symm, by rw [e]; exact p5⟩ hd
      · rw [p6 _ e]; exact hg'
  · rcases w with ⟨M, hM, b, w⟩ | ⟨M, b, hM, w, hkb⟩
    · rcases (nrm w).line h' hx (by omega) hk hk2 hd with ⟨_, w'⟩ | ⟨M', hM', w'⟩
      · exact .inl ⟨M, hM, b, w'⟩
      · exact .inl ⟨M', by omega, w'⟩
    · rcases (nrm w).line h' hx (by omega) hk hk2 hd with ⟨hne, w'⟩ | ⟨M', hM', w'⟩
      · exact .inr ⟨M, b, hM, w', by omega⟩
      · exact .inl ⟨M', by omega, w'⟩
theorem WIn.round {t : TS} (h : TI t) {R x : Nat} (hx : x < t.n) (w : WIn t R t.n x) : WIn t (R + 1) 0 x := by
  obtain ⟨hg, w⟩ := w
  refine ⟨hg, ?_⟩
  rcases w with ⟨M, hM, b, w⟩ | ⟨M, b, hM, w, hkb⟩
  · exact .inr ⟨M, b, by omega, w, Nat.zero_le _⟩
  · have := w.lt h hx (by omega); omega
theorem repl_bools (n : Nat) : repl n [Value.bool false] = (rm n fun _ => false).map bV := by
  rw [repl_rows (f := fun b => [Value.bool b]) false n]
  simp only [rm, List.map_const', List.length_range, List.map_replicate]
  induction n with
  | zero => rfl
  | succ n ih => rw [List.replicate_succ, List.replicate_succ, List.flatMap_cons, ih]; rfl
theorem dineGoes_c {n : Int} {st : SV} {rows : List (SV × List Int)} {ro : Addr → Option Value} {post : Value → H → Prop} (hr : RdRowsOf ⟨[], ro⟩ st rows) (hpost : ∀ h, post (.bool true) h) :
    SemCall Try.prog 3 (List.toArray [.int .i64 n, .slice st.a st.len st.cap]) ⟨[], ro⟩ post := by
  refine f3_call _ _ _ post ?_
  refine dine_fact_c ⟨_, rfl, VIf_nb (nomatch ·) (fun _ => ?_)⟩
  refine tab_new_c (fun hc => ⟨_, _, rfl, VIf_nerr (fun _ => ?_) (nomatch ·)⟩) (fun p L hs n3 n6 => ⟨_, none, rfl, VIf_nnil ?_⟩)
  · exact join_or (ret (by rw [decide_eq_true (show n < 3 ∨ n > 6 by omega)]; exact hpost _))
  obtain ⟨N, rfl⟩ : ∃ N : Nat, n = (N : Int) := ⟨n.toNat, by omega⟩
  simp only [Int.toNat_natCast] at hs
  have N3 : 3 ≤ N := by omega
  have N6 : N ≤ 6 := by omega
  obtain ⟨T, hT⟩ : ∃ T, T = tHaps (tab0 N) rows := ⟨_, rfl⟩
  have hti := (TI.start N3 N6).haps rows
  rw [← hT] at hti
  obtain ⟨hti, htn⟩ := hti
  have htn : T.n = N := htn
  refine happens_c [] [] (by simp) hs hr (fun L1 h1 => ⟨rfl, ?_⟩)
  rw [← hT] at h1
  clear hs hT
  simp only [repl_bools, Int.toNat_natCast]
  refine ⟨by omega, by omega, by omega, by omega, fun r _ => ?_⟩
  have wat : ∀ {own : List Ent} {e : Ent} {W : Nat → Bool} {k : Nat} {v : Bool} {K : H → Prop} (A' C' : List Ent), own = A' ++ e :: C' → OwnsSl 1 ⟨some (Addr.mk r 0 none), N, N⟩ e ((rm N W).map bV) → k < N →
      (∀ e', OwnsSl 1 ⟨some (Addr.mk r 0 none), N, N⟩ e' ((rm N (updN W k v)).map bV) → K ⟨A' ++ e' :: C', ro⟩) → ∃ b : Addr, some (Addr.mk r 0 none) = some b ∧ 0 ≤ (k : Int) ∧ (k : Int) < (N : Int) ∧ H.wr ⟨own, ro⟩ (Addr.add b ((k : Int).toNat * 1)) [Value.bool v] K := fun {own e W k v K} A' C' h1 h2 h3 h4 =>
    wr_atM (f := bV) (fun _ => rfl) (s := ⟨some (Addr.mk r 0 none), N, N⟩) (xs := rm N W) (i := (k : Int)) (v := v) A' e C' h1 h2 (by omega) (by show (k : Int) < (N : Int); omega) (fun e' o' _ => h4 e' (by rw [Int.toNat_natCast, rm_set] at o'; exact o'))
  have gk : ∀ {t : TS} {L own : List Ent} {k : Nat} {post : Value → H → Prop}, TabAt p t L → (∀ e ∈ L, e ∈ own) → t.n = N → k < N → post (.int .i64 (t.g k)) ⟨own, ro⟩ → SemCall Try.prog 11 (List.toArray [.pointer (some (Addr.mk p 0 none)), .int .i64 (k : Int)]) ⟨own, ro⟩ post := fun {t L own k post} hs hL hn hk hp => by
    refine tab_guest_c hs hL ?_
    rw [if_pos (by omega), Int.toNat_natCast]; exact hp
  refine ⟨fun h => ∃ e W, h = ⟨L1 ++ [e], ro⟩ ∧ OwnsSl 1 ⟨some (Addr.mk r 0 none), N, N⟩ e ((rm N W).map bV) ∧ ∀ x, x < N → W x = false ∨ T.g x = 1, ⟨fun m k h => ∃ (k' : Nat) (e : Ent) (W : Nat → Bool), k = (k' : Int) ∧ k' ≤ N ∧ m = N - k' ∧ h = ⟨L1 ++ [e], ro⟩ ∧ OwnsSl 1 ⟨some (Addr.mk r 0 none), N, N⟩ e ((rm N W).map bV) ∧ ∀ x, x < N → W x = false ∨ T.g x = 1, ⟨N, gi ⟨0, ⟨some r, (rm N fun _ => false).map bV, N⟩, fun _ => false, rfl, by omega, rfl, by simp [rm_len], OwnsSl.at0 1 (by simp [rm_len]) (by omega) (by unfold maxLen; omega), fun x _ => .inl rfl⟩⟩, ?_⟩, ?_⟩
  · rintro m _ k h ⟨k, e, W, rfl, hkN, rfl, rfl, ho, hW⟩
    refine VIf_dec (fun hk => ?_) (fun _ => gi ⟨e, W, rfl, ho, hW⟩)
    have hk : k < N := by have : (k : Int) < N := hk; omega
    refine gk h1 (fun _ h => List.mem_append_left _ h) htn hk ⟨_, rfl, ?_⟩
    refine wat L1 [] rfl ho hk (fun e' o' => ⟨⟨by omega, by omega⟩, _, ?_, gi ⟨k + 1, e', _, rfl, by omega, rfl, rfl, o', fun x hx => ?_⟩⟩)
    · omega
    · rcases updN_cases (f := W) (q := k) (v := T.g k == 1) x with ⟨rfl, e1⟩ | ⟨_, e1⟩ <;> rw [e1]
      · by_cases hg : T.g x = 1
        · exact .inr hg
        · exact .inl (by simpa using hg)
      · exact hW x hx
  rintro _ h ⟨e, W, rfl, ho, hW⟩
  -- the rounds
  refine ⟨fun h => ∃ L e W, h = ⟨L ++ [e], ro⟩ ∧ OwnsSl 1 ⟨some (Addr.mk r 0 none), N, N⟩ e ((rm N W).map bV) ∧ ∀ x, x < N → W x = false, ⟨fun m R h => ∃ (R' : Nat) (L : List Ent) (t : TS) (e : Ent) (W : Nat → Bool), R = (R' : Int) ∧ R' ≤ 100 ∧ m = 100 - R' ∧ h = ⟨L ++ [e], ro⟩ ∧ TabAt p t L ∧ TI t ∧ t.n = N ∧ OwnsSl 1 ⟨some (Addr.mk r 0 none), N, N⟩ e ((rm N W).map bV) ∧ ∀ x, x < N → W x = false ∨ WIn t R' 0 x, ⟨100, gi ⟨0, L1, T, e, W, rfl, by omega, rfl, rfl, h1, hti, htn, ho, fun x hx => ?_⟩⟩, ?_⟩, ?_⟩
  · rcases hW x hx with w | w
    · exact .inl w
    · obtain ⟨b, wk⟩ := WPot.start hti (x := x) (by omega)
      exact .inr ⟨w, .inr ⟨75, b, by omega, wk, Nat.zero_le _⟩⟩
  · clear h1 hti htn ho hW
    rintro m _ R h ⟨R, L, t, e, W, rfl, hR1, rfl, rfl, hs, hti, htn, ho, hW⟩
    refine VIf_dec (fun hR => ?_) (fun hR => gi ⟨L, e, W, rfl, ho, fun x hx => ?_⟩)
    · have hR : (R : Int) < 100 := hR
      refine ⟨fun h => ∃ L t e W, h = ⟨L ++ [e], ro⟩ ∧ TabAt p t L ∧ TI t ∧ t.n = N ∧ OwnsSl 1 ⟨some (Addr.mk r 0 none), N, N⟩ e ((rm N W).map bV) ∧ ∀ x, x < N → W x = false ∨ WIn t (R + 1) 0 x, ?_, ?_⟩
      · refine ⟨fun h => ∃ L t e W, h = ⟨L ++ [e], ro⟩ ∧ TabAt p t L ∧ TI t ∧ t.n = N ∧ OwnsSl 1 ⟨some (Addr.mk r 0 none), N, N⟩ e ((rm N W).map bV) ∧ ∀ x, x < N → W x = false ∨ WIn t (R + 1) 0 x, ⟨fun m k h => ∃ (k' : Nat) (L : List Ent) (t : TS) (e : Ent) (W : Nat → Bool), k = (k' : Int) ∧ k' ≤ N ∧ m = N - k' ∧ h = ⟨L ++ [e], ro⟩ ∧ TabAt p t L ∧ TI t ∧ t.n = N ∧ OwnsSl 1 ⟨some (Addr.mk r 0 none), N, N⟩ e ((rm N W).map bV) ∧ ∀ x, x < N → W x = false ∨ WIn t R k' x, ⟨N, gi ⟨0, L, t, e, W, rfl, by omega, rfl, rfl, hs, hti, htn, ho, hW⟩⟩, ?_⟩, fun _ _ h => gi h⟩
        clear hs hti htn ho hW
        rintro m _ k h ⟨k, L, t, e, W, rfl, hk1, rfl, rfl, hs, hti, htn, ho, hW⟩
        refine VIf_dec (fun hk => ?_) (fun hk => gi ⟨L, t, e, W, rfl, hs, hti, htn, ho, fun x hx => ?_⟩)
        · have hk : k < N := by have : (k : Int) < N := hk; omega
          refine gk hs (fun _ h => List.mem_append_left _ h) htn hk ⟨_, rfl, ?_⟩
          refine ⟨fun h => ∃ L, h = ⟨[] ++ (L ++ [e]), ro⟩ ∧ TabAt p (tNorm t k) L, VIf_eq (fun h2 => ?_) (fun h2 => gi ⟨L, rfl, by unfold tNorm; rw [if_neg h2]; exact hs⟩), ?_⟩
          · obtain ⟨q1, q2, q3⟩ := norm_eq (t := t) (k := k) (by omega) h2
            refine ⟨fun b h => b = false ∧ ∃ L, h = ⟨[] ++ (L ++ [e]), ro⟩ ∧ TabAt p (tNorm t k) L, ?_, ?_⟩
            · refine tab_rest_c [] [e] (by simp) hs (fun L2 h2 => ⟨_, rfl, ?_⟩)
              rw [q1]
              refine VIf_nerr (fun h => absurd rfl h) (fun _ => ?_)
              refine tab_hunger_c [] [e] rfl h2 (fun L3 h3 => ⟨_, rfl, isIfaceV_errV _, gi ⟨?_, L3, rfl, by rw [← q3]; exact h3⟩⟩)
              rw [q2]; rfl
            · rintro _ b h ⟨rfl, L3, rfl, h3⟩
              exact VIf_b (nomatch ·) (fun _ => gi ⟨L3, rfl, h3⟩)
          clear hs
          rintro _ h ⟨L, rfl, hs⟩
          have en : (tNorm t k).n = N := by rw [(tNorm_w t k).2.2.2]; exact htn
          have e0 : (tStep (tNorm t k) (k : Int)).2.2 = 0 := by rw [tStep, if_neg (by omega)]
          have e1 : (tStep (tNorm t k) (k : Int)).1 = (tLine (tNorm t k) k (prv t.n k)).1 := by rw [tStep, if_neg (by omega), en, htn]; rfl
          refine tab_step_c [] [e] rfl hs (fun L2 h2 => ⟨_, _, rfl, ?_⟩)
          rw [e0]
          rw [e1] at h2
          refine VIf_nerr (fun h => absurd rfl h) (fun _ => ?_)
          have hti' : TI (tLine (tNorm t k) k (prv t.n k)).1 := by
            have := (hti.norm (k := k) (by omega)).line (i := k) (by omega)
            rw [en, ← htn] at this; exact this
          have htn' : (tLine (tNorm t k) k (prv t.n k)).1.n = N := by rw [tLine_n]; exact en
          have turn := fun x (hx : x < N) (w : WIn t R k x) => w.turn hti (by omega) (by omega)
          generalize (tLine (tNorm t k) k (prv t.n k)).1 = t' at *
          refine gk h2 (fun _ h => by simp [h]) htn' hk ⟨_, rfl, VIf_eq (fun hg2 => ?_) (fun hg2 => ⟨⟨by omega, by omega⟩, _, ?_, gi ⟨k + 1, L2, t', e, W, rfl, by omega, rfl, rfl, h2, hti', htn', ho, fun x hx => ?_⟩⟩)⟩
          · refine wat ([] ++ L2) [] (by simp) ho hk (fun e' o' => ⟨⟨by omega, by omega⟩, _, ?_, gi ⟨k + 1, L2, t', e', _, rfl, by omega, rfl, rfl, h2, hti', htn', o', fun x hx => ?_⟩⟩)
            · omega
            · rcases updN_cases (f := W) (q := k) (v := false) x with ⟨rfl, e1⟩ | ⟨hne, e1⟩ <;> rw [e1]
              · exact .inl rfl
              · rcases hW x hx with w | w
                · exact .inl w
                · rcases turn x hx w with ⟨e, _⟩ | w'
                  · exact absurd e.symm hne
                  · exact .inr w'
          · omega
          · rcases hW x hx with w | w
            · exact .inl w
            · rcases turn x hx w with ⟨e, e2⟩ | w'
              · exact absurd (by rw [e]; exact e2) hg2
              · exact .inr w'
        · obtain rfl : k = N := by have : ¬ (k : Int) < N := hk; omega
          rcases hW x hx with w | w
          · exact .inl w
          · refine .inr (WIn.round hti (by omega) ?_)
            rw [htn]; exact w
      · rintro _ h ⟨L, t, e, W, rfl, hs, hti, htn, ho, hW⟩
        refine ⟨⟨by omega, by omega⟩, _, ?_, gi ⟨R + 1, L, t, e, W, by omega, by omega, rfl, rfl, hs, hti, htn, ho, hW⟩⟩
        omega
    · have hR : ¬ (R : Int) < 100 := hR
      rcases hW x hx with w | ⟨_, w⟩
      · exact w
      · rcases w with ⟨M, hM, _⟩ | ⟨M, b, hM, _⟩ <;> omega
  clear h1 hti htn ho hW
  rintro _ h ⟨L, e, W, rfl, ho, hW⟩
  refine ⟨fun _ => True, ⟨fun m k h => ∃ k' : Nat, k = (k' : Int) ∧ k' ≤ N ∧ m = N - k' ∧ h = ⟨L ++ [e], ro⟩, ⟨_, gi ⟨0, rfl, by omega, rfl, rfl⟩⟩, ?_⟩, fun _ h _ => ret (hpost h)⟩
  rintro m _ k h ⟨k, rfl, hk1, rfl, rfl⟩
  refine VIf_dec (fun hk => ?_) (fun _ => gi trivial)
  have hk : k < N := by have : (k : Int) < N := hk; omega
  have hrd : RdSl ⟨L ++ [e], ro⟩ ⟨some (Addr.mk r 0 none), N, N⟩ ((rm N W).map bV) := RdSl.of_own (e := e) (by simp) ho
  refine hrd.idxM (i := (k : Int)) (by omega) (by show (k : Int) < (N : Int); omega) fun b hb => ?_
  rw [Int.toNat_natCast, rm_get _ hk] at hb
  cases hb
  rw [hW k hk]
  refine VIf_b (nomatch ·) (fun _ => ⟨⟨by omega, by omega⟩, _, ?_, gi ⟨k + 1, rfl, by omega, rfl, rfl⟩⟩)
  omega
end Go.Proofs.Ytiaopgnnibidlaa
