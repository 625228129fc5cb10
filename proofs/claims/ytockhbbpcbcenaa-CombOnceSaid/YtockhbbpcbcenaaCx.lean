import Derived.Test.YtockhbbpcbcenaaCv
import Derived.Test.YtockhbbpcbcenaaEngJ
namespace Go.Proofs.Ytockhbbpcbcenaa
open Go.Eng
set_option maxRecDepth 20000
set_option maxHeartbeats 1000000 in
theorem combOnce_c {n : Int} {st : SV} {rows : List (SV × List Int)} {ro : Addr → Option Value} {post : Value → H → Prop} (hr : RdRowsOf ⟨[], ro⟩ st rows) (hpost : ∀ h, post (.bool true) h) :
    SemCall Try.prog 3 (List.toArray [.int .i64 n, .slice st.a st.len st.cap]) ⟨[], ro⟩ post := by
  refine f3_call _ _ _ post ?_
  refine comb_fact_c ⟨_, rfl, VIf_nb (nomatch ·) (fun _ => ?_)⟩
  refine cv_new (fun hc => ⟨_, _, rfl, VIf_nerr (fun _ => ?_) (nomatch ·)⟩) (fun p L hs c0 c1 => ⟨_, none, rfl, VIf_nnil ?_⟩)
  · exact join_or (ret (by rw [decide_eq_true (show n < 1 ∨ n > 4 by omega)]; exact hpost _))
  have hr : ∀ {own}, RdRowsOf ⟨own, ro⟩ st rows := hr.mono (by simp) (fun _ _ h => h)
  have htr : ∀ {own} {i : Nat} {t xs}, rows[i]? = some (t, xs) → RdSl ⟨own, ro⟩ t (ints xs) := fun {own} i t xs ht => hr.2 _ (List.mem_of_getElem? ht)
  have hmono : ∀ {c i j L}, CV p c i L → i ≤ j → CV p c j L := fun ⟨m, a, b, d⟩ h => ⟨m, a, b, d.mono h⟩
  simp only [repl_ints]
  refine ⟨by omega, by omega, by omega, by omega, fun r1 _ => ⟨by omega, by omega, by omega, by omega, fun r2 _ => ⟨by omega, by omega, by omega, by omega, fun r3 _ => ?_⟩⟩⟩
  generalize hk1 : (ints (List.replicate n.toNat 0)).length = k1
  refine ⟨fun _ => True, ⟨fun k sum i h => ∃ L c ad wa nu, h = ⟨L ++ [⟨some r1, ints ad, k1⟩, ⟨some r2, ints wa, k1⟩, ⟨some r3, ints nu, k1⟩], ro⟩ ∧ c.n = n ∧ CV p c (i * 3) L ∧ OMain c ad wa nu sum ∧ 0 ≤ i ∧ i ≤ 300 ∧ k = (300 - i).toNat, ⟨300, gi ⟨L, _, _, _, _, by simp, rfl, hs, OMain.start c0, by omega, by omega, rfl⟩⟩, ?_⟩, fun _ h _ => ret (hpost h)⟩
  clear hs hk1
  rintro k _ sum i h ⟨L, c, ad, wa, nu, rfl, hn, hs, hm, hi0, hi1, rfl⟩
  refine join_and (VIf_dec (fun hi => ?_) (fun _ => gi trivial))
  have ci_of : ∀ {c i L}, CV p c i L → CI c i := fun ⟨m, a, b, d⟩ => d
  refine ⟨fun sum h => ∃ L c ad wa nu, h = ⟨L ++ [⟨some r1, ints ad, k1⟩, ⟨some r2, ints wa, k1⟩, ⟨some r3, ints nu, k1⟩], ro⟩ ∧ c.n = n ∧ CV p c (i * 3 + 3) L ∧ OMain c ad wa nu sum, ?_, ?_⟩
  · refine hr.idx hi0 hi.1 fun t xs ht _ => ?_
    -- begun
    refine ⟨fun b h => ∃ L c', h = ⟨L ++ [⟨some r1, ints ad, k1⟩, ⟨some r2, ints wa, k1⟩, ⟨some r3, ints nu, k1⟩], ro⟩ ∧ CV p c' (i * 3 + 1) L ∧ ((b = false ∧ c' = c) ∨ b = true ∧ t.len = 2 ∧ ∃ (k : Nat) (add : Int), xs[0]? = some (k : Int) ∧ xs[1]? = some add ∧ k < 4 ∧ (k : Int) < c.n ∧ 0 ≤ add ∧ add ≤ 1000 ∧ c' = { c with hL := upd1 c.hL k 1, hA := upd1 c.hA k add, hN := upd1 c.hN k (c.D c.W k + 1) }), VIf_eq (fun h2 => ?_) (fun h2 => (VIf_false _ _).2 (gi ⟨L, c, rfl, hmono hs (by omega), .inl ⟨rfl, rfl⟩⟩)), ?_⟩
    · refine (htr ht).idx (by omega) (by omega) fun x0 hx0 => (htr ht).idx (by omega) (by omega) fun x1 hx1 => (VIf_true _ _).2 ?_
      refine cv_begin [] [⟨some r1, ints ad, k1⟩, ⟨some r2, ints wa, k1⟩, ⟨some r3, ints nu, k1⟩] (by simp) hs (by omega) (fun L' c' e h' hx => ⟨_, rfl, isIfaceV_errV _, gi ⟨L', c', by simp, h', ?_⟩⟩)
      rcases hx with ⟨he, rfl⟩ | ⟨rfl, k, rfl, k4, kn, hl0, a0, a1, rfl⟩
      · exact .inl ⟨by rw [isNilV_errV, eno_isNone]; exact decide_eq_false he, rfl⟩
      · exact .inr ⟨by rw [isNilV_errV, eno_isNone]; rfl, by omega, k, x1, hx0, hx1, k4, kn, a0, a1, rfl⟩
    clear hs
    rintro _ b h ⟨L, c', rfl, hs, hb⟩
    refine ⟨fun h => ∃ c ad nu, h = ⟨L ++ [⟨some r1, ints ad, k1⟩, ⟨some r2, ints wa, k1⟩, ⟨some r3, ints nu, k1⟩], ro⟩ ∧ c.n = n ∧ CV p c (i * 3 + 1) L ∧ OMain c ad wa nu sum, VIf_b (fun hbt => ?_) (fun hbf => ?_), ?_⟩
    · rcases hb with ⟨rfl, _⟩ | ⟨_, hl2, k, add, hx0, hx1, k4, kn, a0, a1, rfl⟩
      · cases hbt
      have la := hm.la; have lw := hm.lw; have ln := hm.ln
      have hw0 := hm.w k k4 kn
      refine (htr ht).idx (by omega) (by omega) fun y hy => ?_
      rw [show (0 : Int).toNat = 0 by rfl, hx0] at hy; cases hy
      refine ⟨⟨by omega, by omega⟩, in_c ⟨_, rfl, VIf_nb (fun hc => absurd ⟨by omega, by omega⟩ (of_decide_eq_false hc)) (fun _ => ?_)⟩⟩
      refine (htr ht).idx (by omega) (by omega) fun y hy => ?_
      rw [show (0 : Int).toNat = 0 by rfl, hx0] at hy; cases hy
      refine (htr ht).idx (by omega) (by omega) fun y hy => ?_
      rw [show (1 : Int).toNat = 1 by rfl, hx1] at hy; cases hy
      refine at_wr L [⟨some r2, ints wa, k1⟩, ⟨some r3, ints nu, k1⟩] rfl (by rw [la, hn]) (by omega) (by omega) ?_
      refine (htr ht).idx (by omega) (by omega) fun y hy => ?_
      rw [show (0 : Int).toNat = 0 by rfl, hx0] at hy; cases hy
      refine (htr ht).idx (by omega) (by omega) fun y hy => ?_
      rw [show (0 : Int).toNat = 0 by rfl, hx0] at hy; cases hy
      have hD := (ci_of hs).bD c.W k (ci_of hs).w k4
      refine at_rd (m := wa) (k := k1) (by simp) (by rw [lw, hn]) (by omega) (by omega) ⟨?_, ?_⟩
      · rw [Int.toNat_natCast, hw0]
        dsimp only at hD
        constructor <;> omega
      refine at_wr (m := nu) (k := k1) (L ++ [⟨some r1, ints (ad.set (k : Int).toNat add), k1⟩, ⟨some r2, ints wa, k1⟩]) [] (by simp) (by rw [ln, hn]) (by omega) (by omega) (gi ⟨_, _, _, by simp; exact ⟨rfl, rfl⟩, ?_, hs, ?_⟩)
      · exact hn
      · exact hm.begin k4 kn a0 a1
    · rcases hb with ⟨_, rfl⟩ | ⟨rfl, _⟩
      · exact gi ⟨_, ad, nu, rfl, hn, hs, hm⟩
      · cases hbf
    clear hs hb hm hn
    rintro _ h ⟨c, ad, nu, rfl, hn, hs, hm⟩
    have hci := ci_of hs
    have hn4 := hci.n4
    -- a line
    refine ⟨fun told got h => ∃ L c, h = ⟨L ++ [⟨some r1, ints ad, k1⟩, ⟨some r2, ints wa, k1⟩, ⟨some r3, ints nu, k1⟩], ro⟩ ∧ c.n = n ∧ CV p c (i * 3 + 2) L ∧ OMid c ad wa nu sum told got, VIf_eq (fun h1 => ?_) (fun _ => gi ⟨L, c, rfl, hn, hmono hs (by omega), hm.mid hn4⟩), ?_⟩
    · refine (htr ht).idx (by omega) (by omega) fun x0 hx0 => ?_
      refine cv_step [] [⟨some r1, ints ad, k1⟩, ⟨some r2, ints wa, k1⟩, ⟨some r3, ints nu, k1⟩] (by simp) hs (by omega) (fun L' c' b g e h' hx => ⟨_, _, _, rfl, ?_⟩)
      refine join_b (h := ⟨[] ++ (L' ++ [⟨some r1, ints ad, k1⟩, ⟨some r2, ints wa, k1⟩, ⟨some r3, ints nu, k1⟩]), ro⟩) b (VIf_err (fun _ => gi ⟨rfl, rfl⟩) (fun he => gi ⟨rfl, ?_⟩)) ?_
      · rcases hx with ⟨_, _, rfl, _⟩ | ⟨rfl, _⟩
        · rfl
        · exact absurd rfl he
      rcases hx with ⟨_, rfl, rfl, rfl, _⟩ | ⟨rfl, k, rfl, k4, kn, hk0, hl⟩
      · exact VIf_b (nomatch ·) (fun _ => gi ⟨L', c', by simp, hn, hmono h' (by omega), hm.mid hn4⟩)
      have hn' : c'.n = n := by rw [(hl.grow hci k4).1]; exact hn
      have hmid := hm.line hci k4 kn hl
      refine VIf_b (fun hb => ?_) (fun hb => ?_)
      · refine (htr ht).idx (by omega) (by omega) fun y hy => gi ⟨L', c', by simp, hn', hmono h' (by omega), ?_⟩
        rw [hx0] at hy; cases hy
        rw [hb] at hmid; exact hmid
      · rw [hb] at hmid; exact gi ⟨L', c', by simp, hn', hmono h' (by omega), hmid⟩
    clear hs hm hn hn4 hci
    rintro _ told got h ⟨L, c, rfl, hn, hs, hm⟩
    have hci := ci_of hs
    -- a crash
    refine ⟨fun h => ∃ L c, h = ⟨L ++ [⟨some r1, ints ad, k1⟩, ⟨some r2, ints wa, k1⟩, ⟨some r3, ints nu, k1⟩], ro⟩ ∧ c.n = n ∧ CV p c (i * 3 + 3) L ∧ OMid c ad wa nu sum told got, VIf_eq (fun h3 => ?_) (fun _ => gi ⟨L, c, rfl, hn, hmono hs (by omega), hm⟩), ?_⟩
    · refine (htr ht).idx (by omega) (by omega) fun x2 _ => ?_
      exact cv_crash [] [⟨some r1, ints ad, k1⟩, ⟨some r2, ints wa, k1⟩, ⟨some r3, ints nu, k1⟩] (by simp) hs (fun L' h' => ⟨rfl, gi ⟨L', csCrash c (x2 == 1), by simp, hn, hmono h' (by omega), hm.crash hci _⟩⟩)
    clear hs hm hn hci
    rintro _ h ⟨L, c, rfl, hn, hs, hm⟩
    have hci := ci_of hs
    have hn4 := hci.n4
    have bS := hci.bS c.W hci.w
    have la := hm.la; have lw := hm.lw; have ln := hm.ln
    have dk : ∀ k, k ≤ 4 → 0 ≤ dsum (gI wa) (c.D c.W) (gI ad) k ∧ dsum (gI wa) (c.D c.W) (gI ad) k ≤ 1000 * k := fun k hk => dsum_ok k (fun p _ => hm.b p)
    have bsum : -4000 ≤ sum ∧ sum ≤ 4000000 := by have := hm.s; have := dk c.n.toNat (by omega); omega
    -- the counts
    refine ⟨fun sum' h => ∃ wa', h = ⟨L ++ [⟨some r1, ints ad, k1⟩, ⟨some r2, ints wa', k1⟩, ⟨some r3, ints nu, k1⟩], ro⟩ ∧ OLoop c ad wa nu wa' sum sum' c.n.toNat, ⟨fun k sum' q h => ∃ wa' q', h = ⟨L ++ [⟨some r1, ints ad, k1⟩, ⟨some r2, ints wa', k1⟩, ⟨some r3, ints nu, k1⟩], ro⟩ ∧ q = ((q' : Nat) : Int) ∧ (q' : Int) ≤ n ∧ OLoop c ad wa nu wa' sum sum' q' ∧ k = (n - q).toNat, ⟨_, gi ⟨wa, 0, rfl, rfl, by omega, ⟨lw, by simp [dsum], fun p => by rw [if_neg (by omega)]⟩, rfl⟩⟩, ?_⟩, ?_⟩
    · rintro k _ sum' q h ⟨wa', q, rfl, rfl, hqn, ho, rfl⟩
      refine VIf_dec (fun hi => ?_) (fun hi => gi ⟨wa', rfl, by rw [show c.n.toNat = q by omega]; exact ho⟩)
      have hi : (q : Int) < n := hi
      have lo := ho.l
      obtain ⟨o1, o2, o3⟩ := ho.next hm (k := q) (by omega) (by omega)
      have os := ho.s
      have dq := dk q (by omega)
      have bD := hci.bD c.W q hci.w (by omega)
      have bq := hm.b q
      refine cv_done hs (fun _ h => List.mem_append_left _ h) (by omega) (by omega) (by omega) ⟨_, _, rfl, ?_⟩
      simp only [Int.toNat_natCast]
      refine join_b (h := ⟨L ++ [⟨some r1, ints ad, k1⟩, ⟨some r2, ints wa', k1⟩, ⟨some r3, ints nu, k1⟩], ro⟩) false ?_ (VIf_b (nomatch ·) (fun _ => ?_))
      · refine at_rd (m := wa') (k := k1) (by simp) (by rw [lo, hn]) (by omega) (by omega) ?_
        simp only [Int.toNat_natCast]
        refine VIf_ne (fun hne => ?_) (fun _ => gi ⟨rfl, by simp⟩)
        refine at_rd (m := wa') (k := k1) (by simp) (by rw [lo, hn]) (by omega) (by omega) ⟨?_, VIf_ne (fun h => absurd ⟨hne, .inl h⟩ o1) (fun h1 => ?_)⟩
        · simp only [Int.toNat_natCast]
          have := ho.w q
          rw [if_neg (by omega)] at this
          have := hm.w q (by omega) (by omega)
          constructor <;> omega
        refine at_rd (m := nu) (k := k1) (by simp) (by rw [ln, hn]) (by omega) (by omega) (gi ⟨rfl, ?_⟩)
        simp only [Int.toNat_natCast]
        exact bne_eq_false_iff_eq.2 (Classical.byContradiction fun h => o1 ⟨hne, .inr h⟩)
      · refine at_rd (m := wa') (k := k1) (by simp) (by rw [lo, hn]) (by omega) (by omega) ?_
        simp only [Int.toNat_natCast]
        refine VIf_dec (fun hgt => ?_) (fun hgt => ⟨⟨by omega, by omega⟩, _, ?_, gi ⟨wa', q + 1, rfl, by simp, by omega, o3 hgt, rfl⟩⟩)
        · refine at_rd (m := ad) (k := k1) (by simp) (by rw [la, hn]) (by omega) (by omega) ⟨?_, ?_⟩
          · simp only [Int.toNat_natCast]; constructor <;> omega
          simp only [Int.toNat_natCast]
          refine at_wr (m := wa') (k := k1) (L ++ [⟨some r1, ints ad, k1⟩]) [⟨some r3, ints nu, k1⟩] (by simp) (by rw [lo, hn]) (by omega) (by omega) ⟨⟨by omega, by omega⟩, _, ?_, gi ⟨wa'.set q (c.D c.W q), q + 1, by simp, by simp, by omega, (o2 hgt).2.2, rfl⟩⟩
          omega
        · omega
    rintro _ sum' h ⟨wa', rfl, ho⟩
    have hmain := ho.main hm
    have os := ho.s
    have dn := dk c.n.toNat (by omega)
    have lw' := ho.l
    refine cv_sum hs (fun _ h => List.mem_append_left _ h) (by omega) ⟨_, rfl, VIf_ne (fun h => absurd hmain.s.symm h) (fun _ => ?_)⟩
    refine VIf_dec (fun ht0 => ?_) (fun _ => gi ⟨L, c, ad, wa', nu, rfl, hn, hs, hmain⟩)
    rcases hm.t with h | ⟨q, q4, qn, rfl, tD, tG, tS, tA⟩
    · rw [h] at ht0; exact absurd ht0 (by decide)
    have bG := hci.bG c.W q hci.w q4
    refine ⟨⟨by omega, by omega⟩, in_c ⟨_, rfl, VIf_nb (fun hc => absurd ⟨by omega, by omega⟩ (of_decide_eq_false hc)) (fun _ => ?_)⟩⟩
    refine cv_done hs (fun _ h => List.mem_append_left _ h) (by omega) (by omega) (by omega) ⟨_, _, rfl, ?_⟩
    refine join_b (h := ⟨L ++ [⟨some r1, ints ad, k1⟩, ⟨some r2, ints wa', k1⟩, ⟨some r3, ints nu, k1⟩], ro⟩) false ?_ (VIf_b (nomatch ·) (fun _ => gi ⟨L, c, ad, wa', nu, rfl, hn, hs, hmain⟩))
    refine at_rd (m := nu) (k := k1) (by simp) (by rw [ln, hn]) (by omega) (by omega) ?_
    simp only [Int.toNat_natCast]
    refine VIf_ne (fun h => absurd tD h) (fun _ => VIf_ne (fun h => absurd tG h) (fun _ => ?_))
    refine at_rd (m := ad) (k := k1) (by simp) (by rw [la, hn]) (by omega) (by omega) ⟨?_, gi ⟨rfl, ?_⟩⟩
    · simp only [Int.toNat_natCast]; constructor <;> omega
    · simp only [Int.toNat_natCast]
      have := hmain.s
      exact decide_eq_false (by omega)
  clear hs hm hn
  rintro _ sum h ⟨L, c, ad, wa, nu, rfl, hn, hs, hm⟩
  refine ⟨⟨by omega, by omega⟩, _, ?_, gi ⟨L, c, ad, wa, nu, rfl, hn, by rw [show (i + 1) * 3 = i * 3 + 3 by omega]; exact hs, hm, by omega, by omega, rfl⟩⟩
  omega
end Go.Proofs.Ytockhbbpcbcenaa
