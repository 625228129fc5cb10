import Derived.Test.YtockhbbpcbcenaaCp
import Derived.Test.YtockhbbpcbcenaaEngJ
namespace Go.Proofs.Ytockhbbpcbcenaa
open Go.Eng
set_option maxRecDepth 20000
def cfb : Nat → List Int
  | 0 => (combBegin (comb0 2) 1 6).1
  | k + 1 => (combStep (cfb k) 1).1
theorem cfb_e : ∀ k, k < 5 → (combStep (cfb k) 1).2.2.2 = 0 := by decide +kernel
theorem cfb_ok : ∀ k : Nat, ∃ c, CRel c (cfb k) ∧ CI c ((k : Int) + 1)
  | 0 => by
    rcases comb_begins (CRel.start 2) (CI.start (n := 2) (by decide) (by decide)) 1 6 with ⟨_, e⟩ | ⟨k, _, _, _, _, _, _, _, a, b⟩
    · exact ⟨_, by rw [cfb, e]; exact CRel.start 2, (CI.start (n := 2) (by decide) (by decide)).mono (by decide)⟩
    · exact ⟨_, a, b⟩
  | k + 1 => by
    obtain ⟨c, hr, h⟩ := cfb_ok k
    rcases comb_line hr h 1 with ⟨e, _, e1, _⟩ | ⟨_, c', _, _, _, _, _, _, _, a, b, _⟩
    · exact ⟨c, by rw [cfb, e1]; exact hr, h.mono (by omega)⟩
    · exact ⟨c', a, b⟩
theorem cfb_sum : gI (cfb 5) (1 + (gI (cfb 5) 37).toNat * 9) = 6 := by decide +kernel
theorem cfb_done : (if 0 ≤ (1 : Int) ∧ (1 : Int) ≤ gI (cfb 5) 0 - 1 then gI (cfb 5) (2 + (gI (cfb 5) 37).toNat * 9 + (1 : Int).toNat) else 0) = 1 := by decide +kernel
theorem cfb_got : (if 0 ≤ (1 : Int) ∧ (1 : Int) ≤ gI (cfb 5) 0 - 1 then gI (cfb 5) (6 + (gI (cfb 5) 37).toNat * 9 + (1 : Int).toNat) else 0) = 0 := by decide +kernel
theorem cfb_at : (if 0 ≤ (1 : Int) ∧ (1 : Int) ≤ gI (cfb 5) 0 - 1 then gI (cfb 5) (47 + (1 : Int).toNat * 3) else 0) = 8 := by decide +kernel
theorem comb_fact_c {own : List Ent} {ro : Addr → Option Value} {post : Value → H → Prop} (hk : post (.bool true) ⟨own, ro⟩) : SemCall Try.prog 9 (List.toArray []) ⟨own, ro⟩ post := by
  refine f9_call _ post ?_
  refine comb_new_c (fun hc => absurd ⟨by decide, by decide⟩ hc) (fun p L hs _ _ => ⟨_, none, rfl, ?_⟩)
  have ok0 : COk (comb0 2) := (CRel.start 2).ok (CI.start (n := 2) (by decide) (by decide)) (by decide)
  have ok : ∀ k : Nat, k ≤ 5 → COk (cfb k) := fun k hk => by obtain ⟨c, hr, h⟩ := cfb_ok k; exact hr.ok h (by omega)
  refine ⟨fun b h => b = false ∧ ∃ L, h = ⟨own ++ L, ro⟩ ∧ CombAt p (cfb 0) L, VIf_nnil ?_, ?_⟩
  · refine comb_begin_c own [] (by simp) hs ok0 (fun L1 h1 => ⟨none, rfl, rfl, gi ⟨rfl, L1, by simp, h1⟩⟩)
  rintro _ b h ⟨rfl, L1, rfl, h1⟩
  refine VIf_b (nomatch ·) (fun _ => ?_)
  refine ⟨fun h => ∃ L, h = ⟨own ++ L, ro⟩ ∧ CombAt p (cfb 5) L, ⟨fun n i h => ∃ (k : Nat) (L : List Ent), h = ⟨own ++ L, ro⟩ ∧ CombAt p (cfb k) L ∧ i = k ∧ k ≤ 5 ∧ n = 5 - k, ⟨5, gi ⟨0, L1, rfl, h1, rfl, by omega, rfl⟩⟩, ?_⟩, ?_⟩
  · rintro n _ i h ⟨k, L, rfl, hs, rfl, hk3, rfl⟩
    refine VIf_dec (fun hi => ?_) (fun hi => gi ⟨L, rfl, by rw [show 5 = k by omega]; exact hs⟩)
    have hi : (k : Int) < 5 := hi
    have e2 := cfb_e k (by omega)
    refine comb_step_c own [] (by simp) hs (ok k (by omega)) (fun k' j => by obtain ⟨c, hr, h⟩ := cfb_ok k; exact hr.ok9 h (by omega) k' j) (fun L' h3 => ⟨_, _, _, rfl, ?_⟩)
    rw [e2]
    exact VIf_nnil ⟨⟨by omega, by omega⟩, 5 - (k + 1), by omega, ⟨own ++ L', ro⟩, Gh.drop (by simp), k + 1, L', rfl, h3, by omega, by omega, rfl⟩
  rintro _ h ⟨L2, rfl, h2⟩
  refine comb_done_c h2 (fun e he => List.mem_append_right _ he) (ok 5 (by omega)) ⟨_, _, rfl, ?_⟩
  rw [cfb_done, cfb_got]
  refine join_b (h := ⟨own ++ L2, ro⟩) true ?_ ⟨⟨own, ro⟩, Gh.drop (by simp), hk⟩
  refine comb_sum_c h2 (fun e he => List.mem_append_right _ he) (ok 5 (by omega)) ⟨_, rfl, ?_⟩
  rw [cfb_sum]
  refine VIf_eq (fun _ => VIf_eq (fun _ => VIf_eq (fun _ => ?_) (fun h => absurd rfl h)) (fun h => absurd rfl h)) (fun h => absurd rfl h)
  refine comb_at_c h2 (fun e he => List.mem_append_right _ he) (ok 5 (by omega)) ⟨_, rfl, gi ⟨rfl, ?_⟩⟩
  rw [cfb_at]; rfl
theorem combGoes_c {n : Int} {st : SV} {rows : List (SV × List Int)} {ro : Addr → Option Value} {post : Value → H → Prop} (hr : RdRowsOf ⟨[], ro⟩ st rows) (hpost : ∀ h, post (.bool true) h) :
    SemCall Try.prog 5 (List.toArray [.int .i64 n, .slice st.a st.len st.cap]) ⟨[], ro⟩ post := by
  refine f5_call _ _ _ post ?_
  refine comb_fact_c ⟨_, rfl, VIf_nb (nomatch ·) (fun _ => ?_)⟩
  refine cv_new (fun hc => ⟨_, _, rfl, VIf_nerr (fun _ => ?_) (nomatch ·)⟩) (fun p L hs c0 c1 => ⟨_, none, rfl, VIf_nnil ?_⟩)
  · exact join_or (ret (by rw [decide_eq_true (show n < 1 ∨ n > 4 by omega)]; exact hpost _))
  have hr : ∀ {own}, RdRowsOf ⟨own, ro⟩ st rows := hr.mono (by simp) (fun _ _ h => h)
  have htr : ∀ {own} {i : Nat} {t xs}, rows[i]? = some (t, xs) → RdSl ⟨own, ro⟩ t (ints xs) := fun {own} i t xs ht => hr.2 _ (List.mem_of_getElem? ht)
  refine ⟨fun h => ∃ L c, h = ⟨L, ro⟩ ∧ c.n = n ∧ CV p c 600 L, ⟨fun k i h => ∃ L c, h = ⟨L, ro⟩ ∧ c.n = n ∧ CV p c (i * 3) L ∧ 0 ≤ i ∧ i ≤ 200 ∧ k = (200 - i).toNat, ⟨200, gi ⟨L, _, rfl, rfl, hs, by omega, by omega, rfl⟩⟩, ?_⟩, ?_⟩
  · rintro k _ i h ⟨L, c, rfl, hn, hs, hi0, hi1, rfl⟩
    refine join_and (VIf_dec (fun hi => ?_) (fun _ => gi ⟨L, c, rfl, hn, by obtain ⟨m, a, b, d⟩ := hs; exact ⟨m, a, b, d.mono (by omega)⟩⟩))
    refine hr.idx hi0 hi.1 fun t xs ht _ => ?_
    refine ⟨fun h => ∃ L c, h = ⟨L, ro⟩ ∧ c.n = n ∧ CV p c (i * 3 + 1) L, VIf_eq (fun h2 => ?_) (fun _ => gi ⟨L, c, rfl, hn, by obtain ⟨m, a, b, d⟩ := hs; exact ⟨m, a, b, d.mono (by omega)⟩⟩), ?_⟩
    · refine (htr ht).idx (by omega) (by omega) fun x0 _ => (htr ht).idx (by omega) (by omega) fun x1 _ => ?_
      refine cv_begin [] [] (by simp) hs (by omega) (fun L' c' e h' hx => ⟨_, rfl, gi ⟨L', c', by simp, ?_, h'⟩⟩)
      rcases hx with ⟨_, rfl⟩ | ⟨_, k, _, _, _, _, _, _, rfl⟩ <;> exact hn
    clear hs hn
    rintro _ h ⟨L, c, rfl, hn, hs⟩
    refine ⟨fun h => ∃ L c, h = ⟨L, ro⟩ ∧ c.n = n ∧ CV p c (i * 3 + 2) L, VIf_eq (fun h2 => ?_) (fun _ => gi ⟨L, c, rfl, hn, by obtain ⟨m, a, b, d⟩ := hs; exact ⟨m, a, b, d.mono (by omega)⟩⟩), ?_⟩
    · refine (htr ht).idx (by omega) (by omega) fun x0 _ => ?_
      refine cv_step [] [] (by simp) hs (by omega) (fun L' c' b g e h' hx => ⟨_, _, _, rfl, gi ⟨L', c', by simp, ?_, by obtain ⟨m, a, b, d⟩ := h'; exact ⟨m, a, b, d.mono (by omega)⟩⟩⟩)
      rcases hx with ⟨_, rfl, _⟩ | ⟨_, k, _, _, _, _, hl⟩
      · exact hn
      · cases hl <;> exact hn
    clear hs hn
    rintro _ h ⟨L, c, rfl, hn, hs⟩
    refine VIf_eq (fun h3 => ?_) (fun _ => ?_)
    · refine (htr ht).idx (by omega) (by omega) fun x2 _ => ?_
      refine cv_crash [] [] (by simp) hs (fun L' h' => ⟨rfl, ⟨by omega, by omega⟩, _, ?_, gi ⟨L', csCrash c (x2 == 1), by simp, hn, by obtain ⟨m, a, b, d⟩ := h'; exact ⟨m, a, b, d.mono (by omega)⟩, by omega, by omega, rfl⟩⟩)
      omega
    · refine ⟨⟨by omega, by omega⟩, _, ?_, gi ⟨L, c, rfl, hn, by obtain ⟨m, a, b, d⟩ := hs; exact ⟨m, a, b, d.mono (by omega)⟩, by omega, by omega, rfl⟩⟩
      omega
  clear hs L
  rintro _ h ⟨L, c, rfl, hn, hs⟩
  refine ⟨fun h => ∃ L c, h = ⟨L, ro⟩ ∧ c.n = n ∧ CV p c 900 L ∧ CPot c 0, ⟨fun k r h => ∃ L c, h = ⟨L, ro⟩ ∧ c.n = n ∧ CV p c (600 + r * 4) L ∧ CPot c (if r < 48 then 48 - r else 0) ∧ 0 ≤ r ∧ r ≤ 60 ∧ k = (60 - r).toNat, ⟨60, gi ⟨L, c, rfl, hn, hs, ?_, by omega, by omega, rfl⟩⟩, ?_⟩, ?_⟩
  · obtain ⟨m, a, b, d⟩ := hs
    have := csum_b c
    exact CPot.pick d (by simp; omega)
  · clear hs hn
    rintro k _ r h ⟨L, c, rfl, hn, hs, hp, hr0, hr1, rfl⟩
    refine VIf_dec (fun hi => ?_) (fun hi => gi ⟨L, c, rfl, hn, by obtain ⟨m, a, b, d⟩ := hs; exact ⟨m, a, b, d.mono (by omega)⟩, by rw [if_neg (by omega)] at hp; exact hp⟩)
    have fin : ∀ {L c}, c.n = n → CV p c (600 + r * 4 + 4) L → CPot c (if r + 1 < 48 then 48 - (r + 1) else 0) → In64 (r + 1) ∧ ∃ m, m < (60 - r).toNat ∧ ∃ h2, Gh ⟨L, ro⟩ h2 ∧ ∃ L c, h2 = ⟨L, ro⟩ ∧ c.n = n ∧ CV p c (600 + (r + 1) * 4) L ∧ CPot c (if r + 1 < 48 then 48 - (r + 1) else 0) ∧ 0 ≤ r + 1 ∧ r + 1 ≤ 60 ∧ m = (60 - (r + 1)).toNat := fun {L c} hn hs hp =>
      ⟨⟨by omega, by omega⟩, _, by omega, gi ⟨L, c, rfl, hn, by rw [show 600 + (r + 1) * 4 = 600 + r * 4 + 4 by omega]; exact hs, hp, by omega, by omega, rfl⟩⟩
    obtain ⟨M, hM⟩ : ∃ M, M = (if r < 48 then 48 - r else 0) := ⟨_, rfl⟩
    have hM' : (if r + 1 < 48 then 48 - (r + 1) else 0) = M - 1 ∨ M = 0 ∧ (if r + 1 < 48 then 48 - (r + 1) else 0) = 0 := by rw [hM]; split <;> split <;> omega
    have hM0 : 0 ≤ M := by rw [hM]; split <;> omega
    rw [← hM] at hp
    refine ⟨fun h => ∃ L c, h = ⟨L, ro⟩ ∧ c.n = n ∧ CV p c (600 + r * 4 + 4) L ∧ CPot c (if r + 1 < 48 then 48 - (r + 1) else 0), ?_, ?_⟩
    · refine ⟨fun h => ∃ L c, h = ⟨L, ro⟩ ∧ c.n = n ∧ CV p c (600 + r * 4 + 4) L ∧ CPot c (if r + 1 < 48 then 48 - (r + 1) else 0), ⟨fun k q h => ∃ L c, h = ⟨L, ro⟩ ∧ c.n = n ∧ CV p c (600 + r * 4 + q) L ∧ 0 ≤ q ∧ q ≤ n ∧ k = (n - q).toNat ∧ (CPot c (M - 1) ∨ (∀ p, p < 4 → c.hL p = 0) ∨ ∃ b, CKey c M b ∧ q ≤ (b : Int)), ⟨_, gi ⟨L, c, rfl, hn, by rw [show 600 + r * 4 + 0 = 600 + r * 4 by omega]; exact hs, by omega, by omega, rfl, ?_⟩⟩, ?_⟩, fun _ _ h => gi h⟩
      · rcases hp with ⟨h0, _⟩ | ⟨b, h0⟩
        · exact .inr (.inl h0)
        · exact .inr (.inr ⟨b, h0, by omega⟩)
      clear hs hn hp
      rintro k _ q h ⟨L, c, rfl, hn, hs, hq0, hq1, rfl, hp⟩
      have hci : CI c (600 + r * 4 + q) := by obtain ⟨m, a, b, d⟩ := hs; exact d
      have hn4 := hci.n4
      have hqn : ((q.toNat : Nat) : Int) = q := by omega
      refine VIf_dec (fun hi => ?_) (fun hi => gi ⟨L, c, rfl, hn, by obtain ⟨m, a, b, d⟩ := hs; exact ⟨m, a, b, d.mono (by omega)⟩, ?_⟩)
      · refine cv_at hs (fun _ h => h) (by omega) hq0 (by omega) ⟨_, rfl, VIf_ne (fun h0 => ?_) (fun h0 => ?_)⟩
        · refine cv_step [] [] (by simp) hs (by omega) (fun L' c' b g e h' hx => ⟨_, _, _, rfl, ?_⟩)
          rcases hx with ⟨_, _, _, _, h00⟩ | ⟨rfl, k, hk, k4, kn, hk0, hl⟩
          · exact absurd (h00 q.toNat (by omega) (by omega)) h0
          obtain rfl : k = q.toNat := by omega
          have hci' : CI c' (600 + r * 4 + q + 1) := by obtain ⟨m, a, b, d⟩ := h'; exact d
          have mv := hl.move hci k4
          refine VIf_nerr (fun h => absurd rfl h) (fun _ => ⟨⟨by omega, by omega⟩, _, ?_, gi ⟨L', c', by simp, by rw [mv.n]; exact hn, by rw [show 600 + r * 4 + (q + 1) = 600 + r * 4 + q + 1 by omega]; exact h', by omega, by omega, rfl, ?_⟩⟩)
          · omega
          · rcases hp with hp | hp | ⟨b, hp, hb⟩
            · exact .inl (mv.pot hci hci' k4 hp)
            · exact absurd (hp _ k4) h0
            · rcases mv.key hci hci' k4 hp with ⟨h1, h2⟩ | h1
              · exact .inr (.inr ⟨b, h2, by omega⟩)
              · exact .inl h1
        · refine ⟨⟨by omega, by omega⟩, _, ?_, gi ⟨L, c, rfl, hn, by obtain ⟨m, a, b, d⟩ := hs; exact ⟨m, a, b, d.mono (by omega)⟩, by omega, by omega, rfl, ?_⟩⟩
          · omega
          · rcases hp with hp | hp | ⟨b, hp, hb⟩
            · exact .inl hp
            · exact .inr (.inl hp)
            · refine .inr (.inr ⟨b, hp, ?_⟩)
              have : b ≠ q.toNat := fun he => hp.2.2.1 (by rw [he]; exact h0)
              omega
      · have hp2 : CPot c (M - 1) ∨ ∀ p, p < 4 → c.hL p = 0 := by
          rcases hp with hp | hp | ⟨b, hp, hb⟩
          · exact .inl hp
          · exact .inr hp
          · have := hp.2.1; omega
        rcases hp2 with hp | hp
        · refine hp.mono ?_
          rcases hM' with h | h
          · rw [h]; omega
          · rw [h.2]; omega
        · refine .inl ⟨hp, ?_⟩
          split <;> omega
    clear hs hn hp
    rintro _ h ⟨L, c, rfl, hn, hs, hp⟩
    exact fin hn hs hp
  clear hs hn
  rintro _ h ⟨L, c, rfl, hn, hs, hp⟩
  have hci : CI c 900 := by obtain ⟨m, a, b, d⟩ := hs; exact d
  have hn4 := hci.n4
  have hz := hp.zero hci
  refine ⟨fun _ => True, ⟨fun k q h => h = ⟨L, ro⟩ ∧ 0 ≤ q ∧ q ≤ n ∧ k = (n - q).toNat, ⟨_, gi ⟨rfl, by omega, by omega, rfl⟩⟩, ?_⟩, fun _ h _ => ret (hpost h)⟩
  rintro k _ q h ⟨rfl, hq0, hq1, rfl⟩
  refine VIf_dec (fun hi => ?_) (fun hi => gi trivial)
  refine cv_at hs (fun _ h => h) (by omega) hq0 (by omega) ⟨_, rfl, VIf_ne (fun h0 => absurd (hz _ (by omega)) h0) (fun h0 => ⟨⟨by omega, by omega⟩, _, ?_, gi ⟨rfl, by omega, by omega, rfl⟩⟩)⟩
  omega
end Go.Proofs.Ytockhbbpcbcenaa
