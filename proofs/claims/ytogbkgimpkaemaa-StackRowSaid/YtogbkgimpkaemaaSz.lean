import Derived.Test.YtogbkgimpkaemaaSs
import Derived.Test.YtogbkgimpkaemaaSy
import Derived.Test.YtogbkgimpkaemaaEngL
import Derived.Test.YtogbkgimpkaemaaEngJ
import Derived.Test.YtogbkgimpkaemaaT2
namespace Go.Proofs.Ytogbkgimpkaemaa
open Go.Eng
set_option maxRecDepth 20000
theorem grows_ops : Grows Try.prog 49 51 6 := ⟨rfl, rfl, by decide, by decide, ⟨_, rfl, rfl, ⟨rfl, rfl, rfl, rfl, rfl, rfl, trivial⟩⟩⟩
def opOf (R : Nat → Int) : LOp := ⟨R 0, R 1, R 2, R 3, R 4, R 5⟩
theorem ops_rows {h : H} {s : SV} {R : List (Nat → Int)} (hr : RdRows h 6 s (R.flatMap (intRow 6))) : RdRows h 6 s ((R.map opOf).flatMap lopV) := by
  rw [List.flatMap_map]
  exact hr
/-! ### StackRow, walked -/
theorem gI_set {m : List Int} {i k : Nat} {v : Int} (h : i < m.length) : gI (m.set i v) k = if k = i then v else gI m k := by
  unfold gI
  split
  · rename_i e; subst e; rw [List.getElem?_set_self h]; rfl
  · rename_i e; rw [List.getElem?_set_ne (Ne.symm e)]
theorem row3_c {k : Int} {os : List LOp} {s : SV} {own : List Ent} {ro : Addr → Option Value} {post : Value → H → Prop} (hr : RdRows ⟨[], ro⟩ 6 s (os.flatMap lopV)) (hcap : s.len ≤ s.cap) (hok : LOk k os) (hl : ∃ l, lrow k os = some l) (hk : ∀ X, post (.bool true) ⟨own ++ X, ro⟩) :
    SemCall Try.prog 24 (List.toArray [.int .i64 k, .slice s.a s.len s.cap]) ⟨own, ro⟩ post := by
  refine f24_call _ _ _ post (lin_row_c hr hcap (fun hc => absurd (lcheck_zero.2 hok) hc) (fun _ hn => by obtain ⟨l, hl⟩ := hl; rw [hl] at hn; cases hn) (fun l s' e' _ _ o' => ⟨true, s', none, rfl, ?_⟩))
  exact join_b (h := ⟨own ++ [e'], ro⟩) true (VIf_nil (gi ⟨rfl, rfl⟩)) (ret (hk _))
theorem spo_diff_c {X1 X2 : List Ent} {a b : SV} {xf : List Int} {ro : Addr → Option Value} {R : Bool → H → Prop} (r1 : RdSl ⟨[] ++ X1, ro⟩ a (ints [9, -1])) (r2 : RdSl ⟨[] ++ X1 ++ X2, ro⟩ b (ints xf)) (hne : xf ≠ [9, -1]) (lf : xf.length ≤ 28) (hR : ∀ h, Gh h ⟨[], ro⟩ → ∃ h', Gh h h' ∧ R false h') :
    H.new ⟨[] ++ X1 ++ X2, ro⟩ [.int .i64 9, .int .i64 (-1)] fun r8 h9 => SemCall Try.prog 19 (List.toArray [.slice a.a a.len a.cap, .slice (some (Addr.mk r8 0 none)) 2 2]) h9 fun v10 h11 => ∃ x12, v10 = .bool x12 ∧ VIf (!x12) (∃ h13, Gh h11 h13 ∧ R true h13) (SemCall Try.prog 19 (List.toArray [.slice b.a b.len b.cap, .slice a.a a.len a.cap]) h11 fun v14 h15 => ∃ x16, v14 = .bool x16 ∧ ∃ h17, Gh h15 h17 ∧ R x16 h17) := by
  intro r8 _
  have la := r1.len
  have lb := r2.len
  rw [ints_length] at la lb
  refine same_ints_c (s2 := ⟨some (Addr.mk r8 0 none), 2, 2⟩) (xs := [9, -1]) (ys := [9, -1]) (r1.mono (by simp; intro e h; simp [h]) (fun _ _ h => h)) (RdSl.row (n := 2) (vs := ints [9, -1]) (e := ⟨some r8, ints [9, -1], 2⟩) (by simp [ints, intV]) rfl rfl) (by rw [la]; decide) ⟨_, rfl, VIf_nb (fun h => absurd rfl (of_decide_eq_false h)) (fun _ => ?_)⟩
  refine same_ints_c (xs := xf) (ys := [9, -1]) (r2.mono (by simp; intro e h; rcases h with h | h <;> simp [h]) (fun _ _ h => h)) (r1.mono (by simp; intro e h; simp [h]) (fun _ _ h => h)) (by omega) ⟨_, rfl, ?_⟩
  rw [decide_eq_false hne]
  exact hR _ (Gh.drop (by simp))
def SrSt (p rm N : Nat) (ro : Addr → Option Value) (k : Nat) (s : SV) (h : H) : Prop :=
  ∃ L z ch os lin G ms em eh, KAt p N z L ∧ SRw N k z ch os lin G (fun q => (gI ms q).toNat) ∧ ms.length = N ∧ (∀ q, 0 ≤ gI ms q) ∧ (160 ≤ k → ∀ q, q < N → Due N 240 k q (sV N z q)) ∧ h = ⟨[] ++ (L ++ [em, eh]), ro⟩ ∧ OwnsSl 1 ⟨some (Addr.mk rm 0 none), (N : Int).toNat, (N : Int).toNat⟩ em (ints ms) ∧ OwnsSl 6 s eh (os.flatMap lopV)
set_option maxHeartbeats 1600000 in
theorem stackRow_c {n : Int} {st : SV} {rows : List (SV × List Int)} {ro : Addr → Option Value} {post : Value → H → Prop} (hr : RdRowsOf ⟨[], ro⟩ st rows) (hpost : ∀ h, post (.bool true) h) :
    SemCall Try.prog 5 (List.toArray [.int .i64 n, .slice st.a st.len st.cap]) ⟨[], ro⟩ post := by
  refine f5_call _ _ _ post (spoilt_c (fun X1 a r1 => ⟨a, rfl, spoilt_c (fun X2 b r2 => ⟨b, rfl, ?_⟩)⟩))
  rw [spo_true] at r1
  have hne := spo_false
  have lf := spo_len false 28
  generalize (spo false 28).2 = xf at r2 hne lf
  refine ⟨fun b h => b = false ∧ h = ⟨[], ro⟩, ?_, ?_⟩
  · exact spo_diff_c (R := fun b h => b = false ∧ h = ⟨[], ro⟩) r1 r2 hne lf (fun h g => ⟨_, g, rfl, rfl⟩)
  rintro _ _ _ ⟨rfl, rfl⟩
  refine VIf_b (nomatch ·) (fun _ => ?_)
  refine stk_new_c (fun hc => ⟨_, _, rfl, VIf_nerr (fun _ => ?_) (nomatch ·)⟩) (fun p L hs c0 c1 => ⟨_, none, rfl, VIf_nnil ?_⟩)
  · exact join_or (ret (by rw [decide_eq_true (show n < 1 ∨ n > 4 by omega)]; exact hpost _))
  obtain ⟨N, rfl⟩ : ∃ N : Nat, n = (N : Int) := ⟨n.toNat, by omega⟩
  refine ⟨by omega, by omega, by omega, by omega, fun rm _ => ?_⟩
  rw [repl_ints]
  rw [Int.toNat_natCast] at hs
  have hr : ∀ {X}, RdRowsOf ⟨X, ro⟩ st rows := fun {X} => hr.mono (by simp) (fun _ _ h => h)
  refine ⟨fun s h => SrSt p rm N ro 240 s h, ⟨fun m s i h => ∃ k : Nat, i = (k : Int) ∧ k ≤ 240 ∧ m = 240 - k ∧ SrSt p rm N ro k s h,
    ⟨_, ⟨[] ++ (L ++ [⟨some rm, ints (List.replicate (N : Int).toNat 0), (ints (List.replicate (N : Int).toNat 0)).length⟩, ⟨none, [], 0⟩]), ro⟩, ?_, 0, rfl, by omega, rfl, L, _, [], [], [], _, List.replicate (N : Int).toNat 0, _, _, hs, SRw.start (by omega) _, by simp, fun q => ?_, fun h => by omega, rfl, ?_, OwnsSl.nil 6⟩, ?_⟩, ?_⟩
  · have g := Gh.phantom ([] ++ L ++ [⟨some rm, ints (List.replicate (N : Int).toNat 0), (ints (List.replicate (N : Int).toNat 0)).length⟩]) [] ro 0
    simpa using g
  · unfold gI
    rw [List.getElem?_replicate]
    split <;> simp
  · exact OwnsSl.at0 1 (by simp) (by simp) (by simp only [maxLen]; omega)
  · rintro m _ s i _ ⟨k, rfl, hk, rfl, L, z, ch, os, lin, G, ms, em, eh, hs, S, ml, m0, due, rfl, om, oh⟩
    refine VIf_dec (fun hk2 => ?_) (fun hk2 => gi ?_)
    rotate_left
    · have : k = 240 := by omega
      subst this
      exact ⟨L, z, ch, os, lin, G, ms, em, eh, hs, S, ml, m0, due, rfl, om, oh⟩
    refine ⟨by omega, fun r23 _ => ?_⟩
    obtain ⟨e23, he23⟩ : ∃ e : Ent, e = ⟨some r23, [.int .i64 (Int.tmod (k : Int) (N : Int))], [Value.int .i64 (Int.tmod (k : Int) (N : Int))].length⟩ := ⟨_, rfl⟩
    rw [← he23, show ([] ++ (L ++ [em, eh])) ++ [e23] = [] ++ (L ++ [em, eh, e23]) by simp]
    refine join_b (h := ⟨[] ++ (L ++ [em, eh, e23]), ro⟩) (decide ((k : Int) < ((st.len : Nat) : Int) ∧ (k : Int) < 160)) (VIf_dec (fun h1 => gi ⟨rfl, ?_⟩) (fun h1 => gi ⟨rfl, (decide_eq_false (fun h => h1 h.1)).symm⟩)) ?_
    · exact decide_eq_decide.2 ⟨fun h => ⟨h1, h⟩, fun h => h.2⟩
    refine ⟨fun l h => h = ⟨[] ++ (L ++ [em, eh, e23]), ro⟩ ∧ ∃ xs : List Int, (∀ {X}, e23 ∈ X → RdSl ⟨X, ro⟩ l (ints xs)) ∧ (160 ≤ k → xs = [((k % N : Nat) : Int)]), VIf_dec (fun hc => ?_) (fun hc => ?_), ?_⟩
    · refine hr.idx (by omega) hc.1 (fun t xs hx ht => gi ⟨rfl, xs, fun {X} _ => ?_, fun h => by omega⟩)
      exact RdSl.mono (h := ⟨[], ro⟩) ((hr (X := [])).2 (t, xs) (List.mem_of_getElem? hx)) (by simp) (fun _ _ h => h)
    · exact gi ⟨rfl, [((k % N : Nat) : Int)], fun {X} hX => RdSl.row (n := 1) (vs := ints [((k % N : Nat) : Int)]) (e := e23) hX (by rw [he23]) (by rw [he23]; rfl), fun _ => rfl⟩
    rintro _ l _ ⟨rfl, xs, rl, hxs⟩
    have tl : l.len = xs.length := by
      have := (rl (X := [e23]) (by simp)).len
      rw [ints_length] at this; omega
    have hsl := oh.rows_len lopV_len (by decide)
    -- to be begun?
    refine join_b (h := ⟨[] ++ (L ++ [em, eh, e23]), ro⟩) (decide (xs.length = 2 ∧ k < 160 ∧ os.length < 8 ∧ (0 ≤ gI xs 0 ∧ gI xs 0 ≤ (N : Int) - 1) ∧ (-1 ≤ gI xs 1 ∧ gI xs 1 ≤ 1000))) ?_ ?_
    · refine VIf_eq (fun h2 => VIf_dec (fun h3 => VIf_dec (fun h4 => idx0 (rl (by simp)) (by omega) ⟨⟨by omega, by omega⟩, in_c ⟨_, rfl, VIf_dec (fun h5 => idx1 (rl (by simp)) (by omega) (in_c ⟨_, rfl, gi ⟨rfl, ?_⟩⟩)) (fun h5 => gi ⟨rfl, (decide_eq_false (fun h => h5 h.2.2.2.1)).symm⟩)⟩⟩) (fun h4 => gi ⟨rfl, (decide_eq_false (fun h => h4 (by omega))).symm⟩)) (fun h3 => gi ⟨rfl, (decide_eq_false (fun h => h3 (by omega))).symm⟩)) (fun h2 => gi ⟨rfl, (decide_eq_false (fun h => h2 (by omega))).symm⟩)
      exact decide_eq_decide.2 ⟨fun h => ⟨by omega, by omega, by omega, h5, h⟩, fun h => h.2.2.2.2⟩
    refine ⟨fun s h => ∃ L z os ms em eh, h = ⟨[] ++ (L ++ [em, eh, e23]), ro⟩ ∧ KAt p N z L ∧ (xs.length = 1 → SRw N k z ch os lin G (fun q => (gI ms q).toNat)) ∧ (xs.length ≠ 1 → SRw N (k + 1) z ch os lin G (fun q => (gI ms q).toNat)) ∧ ms.length = N ∧ (∀ q, 0 ≤ gI ms q) ∧ (160 ≤ k → ∀ q, q < N → Due N 240 k q (sV N z q)) ∧
      OwnsSl 1 ⟨some (Addr.mk rm 0 none), (N : Int).toNat, (N : Int).toNat⟩ em (ints ms) ∧ OwnsSl 6 s eh (os.flatMap lopV), VIf_dec (fun hbt => ?_) (fun hbf => ?_), ?_⟩
    · obtain ⟨x2, k1, o8, ⟨q0, q1⟩, a0, a1⟩ := hbt
      obtain ⟨q, hq⟩ : ∃ q : Nat, gI xs 0 = (q : Int) := ⟨(gI xs 0).toNat, by omega⟩
      have hqN : q < N := by omega
      obtain ⟨b, hb⟩ := (rl (X := [e23]) (by simp)).addr (by simp; omega)
      refine ⟨b, hb, by omega, by omega, b, hb, by omega, by omega, ⟨by omega, by omega⟩, gI xs 0, (rl (by simp)).rdi hb (gI_ex (by omega)), gI xs 1, (rl (by simp)).rdi hb (gI_ex (by omega)), fun r60 _ => ?_⟩
      rw [hq]
      refine ⟨rfl, rfl, ?_⟩
      -- the op, as it is laid out
      have wop : ∀ {o o' : LOp} {L' : List Ent} {j : Nat} {vs : List Value} {K : H → Prop}, lopV o' = spl (lopV o) j vs → j + vs.length ≤ 6 → allOne vs → K ⟨[] ++ (L' ++ [em, eh, e23, ⟨some r60, lopV o', 6⟩]), ro⟩ → H.wr ⟨[] ++ (L' ++ [em, eh, e23, ⟨some r60, lopV o, 6⟩]), ro⟩ (Addr.mk r60 j none) vs K := fun {o o' L' j vs K} h1 h2 h3 hK => by
        refine wro (L' ++ [em, eh, e23]) ⟨some r60, lopV o, 6⟩ [] h3 (by simp) rfl (by simpa [lopV] using h2) ?_
        rw [← h1]
        simpa using hK
      have e6 : ([] ++ (L ++ [em, eh, e23])) ++ [⟨some r60, [Value.int .i64 0, .int .i64 0, .int .i64 0, .int .i64 0, .int .i64 0, .int .i64 0], [Value.int .i64 0, .int .i64 0, .int .i64 0, .int .i64 0, .int .i64 0, .int .i64 0].length⟩] = [] ++ (L ++ [em, eh, e23, ⟨some r60, lopV ⟨0, 0, 0, 0, 0, 0⟩, 6⟩]) := by simp [lopV]
      dsimp only
      rw [e6]
      refine wop (o' := ⟨q, 0, gI xs 1, 0, 2 * k, 0⟩) (j := 0) rfl (by simp) ⟨rfl, rfl, rfl, rfl, rfl, rfl, trivial⟩ ?_
      refine idx1 (rl (by simp)) (by omega) ?_
      refine ⟨fun er h => ∃ c L' z' op, er = eno 57 c ∧ h = ⟨[] ++ (L' ++ [em, eh, e23, ⟨some r60, lopV op, 6⟩]), ro⟩ ∧ KAt p N z' L' ∧ (c ≠ 0 → z' = z) ∧ (c = 0 → SRw N (k + 1) z' ch (os ++ [op]) lin G (fun x => (gI (ms.set q os.length) x).toNat)), VIf_dec (fun hneg => ?_) (fun hpos => ?_), ?_⟩
      · refine wop (o := ⟨q, 0, gI xs 1, 0, 2 * k, 0⟩) (o' := ⟨q, 1, gI xs 1, 0, 2 * k, 0⟩) (j := 1) rfl (by simp) ⟨rfl, trivial⟩ ?_
        refine wop (o := ⟨q, 1, gI xs 1, 0, 2 * k, 0⟩) (o' := ⟨q, 1, 0, 0, 2 * k, 0⟩) (j := 2) rfl (by simp) ⟨rfl, trivial⟩ ?_
        refine idx0 (rl (by simp)) (by omega) ?_
        rw [hq]
        refine stk_pop_c [] [em, eh, e23, ⟨some r60, lopV ⟨q, 1, 0, 0, 2 * k, 0⟩, 6⟩] rfl hs (fun L' hs' => ⟨_, rfl, _, rfl, gi ?_⟩)
        rcases kPop_cases N z q with ⟨e1, e2⟩ | ⟨e1, _, e3⟩
        · rw [e1] at hs'
          exact ⟨_, L', z, _, rfl, rfl, hs', fun _ => rfl, fun h => absurd h e2⟩
        · rw [e1] at hs' ⊢
          rw [Int.toNat_natCast] at e3 hs'
          refine ⟨0, L', _, _, rfl, rfl, hs', fun h => absurd rfl h, fun _ => S.begin hqN o8 e3 ⟨by omega, by omega⟩ ⟨by omega, by omega⟩ (S.I.pop q) (S.A.pop S.I q) rfl (fun _ _ => rfl) (.inr ⟨rfl, rfl⟩) ?_ (fun x _ hne => ?_)⟩
          · rw [gI_set (by omega), if_pos rfl]; simp
          · rw [gI_set (by omega), if_neg hne]
      · refine idx0 (rl (by simp)) (by omega) (idx1 (rl (by simp)) (by omega) ?_)
        rw [hq]
        refine stk_push_c [] [em, eh, e23, ⟨some r60, lopV ⟨q, 0, gI xs 1, 0, 2 * k, 0⟩, 6⟩] rfl hs (fun L' hs' => ⟨_, rfl, _, rfl, gi ?_⟩)
        rcases kPush_cases N z q (gI xs 1) ⟨by omega, by omega⟩ with ⟨e1, e3⟩ | ⟨e1, e2, _, e4⟩
        · rw [e1] at hs'
          exact ⟨_, L', z, _, rfl, rfl, hs', fun _ => rfl, fun h => absurd h e3⟩
        · rw [e1] at hs' ⊢
          rw [Int.toNat_natCast] at e4 hs'
          have hu := kLeast_used e2
          refine ⟨0, L', _, _, rfl, rfl, hs', fun h => absurd rfl h, fun _ => S.begin (vs := [1, kLeast z.U, 0, 0, 0]) hqN o8 e4 ⟨by omega, by omega⟩ ⟨by omega, by omega⟩ (S.I.put q _ e2) (S.A.put S.I q _ e2) rfl (fun x hx => updN_ne (fun he => by rw [he, hu] at hx; cases hx)) (.inl ⟨rfl, rfl, ?_⟩) ?_ (fun x _ hne => ?_)⟩
          · show updN z.V (kLeast z.U) (gI xs 1) ((kLeast z.U : Nat) : Int).toNat = gI xs 1
            rw [Int.toNat_natCast, updN_same]
          · rw [gI_set (by omega), if_pos rfl]; simp
          · rw [gI_set (by omega), if_neg hne]
      rintro _ er _ ⟨c, L', z', op, rfl, rfl, hs', cn, cz⟩
      refine VIf_err (fun hz => ?_) (fun hnz => ?_)
      · have S' := cz hz
        refine idx0 (rl (by simp)) (by omega) ?_
        rw [hq]
        refine wr_at L' em [eh, e23, ⟨some r60, lopV op, 6⟩] rfl om (by omega) (by dsimp only; omega) (fun em' om' _ => ?_)
        have rdop : ∀ {j v}, (lopV op)[j]? = some v → H.rd ⟨L' ++ em' :: [eh, e23, ⟨some r60, lopV op, 6⟩], ro⟩ (Addr.add (Addr.mk r60 0 none) j) v := fun {j v} hv => by
          rw [add_mk', Nat.zero_add]
          exact rdo ⟨some r60, lopV op, 6⟩ (by simp) rfl hv
        refine ⟨_, rdop (j := 0) rfl, _, rdop (j := 1) rfl, _, rdop (j := 2) rfl, _, rdop (j := 3) rfl, _, rdop (j := 4) rfl, _, rdop (j := 5) rfl, ?_⟩
        refine app_row grows_ops (vs := lopV op) rfl ⟨rfl, rfl, rfl, rfl, rfl, rfl, trivial⟩ (L' ++ [em']) eh [e23, ⟨some r60, lopV op, 6⟩] (by simp) oh (by omega) (fun s2 e2 o2 _ => ?_)
        rw [hsl, Int.toNat_natCast] at om'
        refine ⟨⟨[] ++ (L' ++ [em', e2, e23]), ro⟩, Gh.drop (by simp), L', z', os ++ [op], ms.set q os.length, em', e2, rfl, hs', fun h => absurd h (by omega), fun _ => S', by simpa using ml, fun q' => ?_, fun h => by omega, om', by simpa [List.flatMap_append] using o2⟩
        rw [gI_set (by omega)]
        split
        · omega
        · exact m0 q'
      · obtain rfl := cn hnz
        exact ⟨⟨[] ++ (L' ++ [em, eh, e23]), ro⟩, Gh.drop (by simp), L', z', os, ms, em, eh, rfl, hs', fun _ => S, fun _ => S.later, ml, m0, due, om, oh⟩
    · exact gi ⟨L, z, os, ms, em, eh, rfl, hs, fun _ => S, fun _ => S.later, ml, m0, due, om, oh⟩
    clear hs S ml m0 due om oh hsl
    rintro _ s _ ⟨L, z, os, ms, em, eh, rfl, hs, S1, S2, ml, m0, due, om, oh⟩
    have hsl := oh.rows_len lopV_len (by decide)
    have fin : ∀ {L' z' ch' os' lin' G' em' eh' s'}, KAt p N z' L' → SRw N (k + 1) z' ch' os' lin' G' (fun q => (gI ms q).toNat) → (160 ≤ k → ∀ q, q < N → Due N 240 (k + 1) q (sV N z' q)) → OwnsSl 1 ⟨some (Addr.mk rm 0 none), (N : Int).toNat, (N : Int).toNat⟩ em' (ints ms) → OwnsSl 6 s' eh' (os'.flatMap lopV) →
        (In64 ((k : Int) + 1) ∧ ∃ m18, m18 < 240 - k ∧ ∃ h, Gh ⟨[] ++ (L' ++ [em', eh', e23]), ro⟩ h ∧ ∃ k' : Nat, (k : Int) + 1 = (k' : Int) ∧ k' ≤ 240 ∧ m18 = 240 - k' ∧ SrSt p rm N ro k' s' h) := by
      intro L' z' ch' os' lin' G' em' eh' s' a b c d e
      refine ⟨⟨by omega, by omega⟩, 240 - (k + 1), by omega, ⟨[] ++ (L' ++ [em', eh']), ro⟩, Gh.drop (by simp), k + 1, by omega, by omega, rfl, L', z', ch', os', lin', G', ms, em', eh', a, b, ml, m0, fun h q hq => ?_, rfl, d, e⟩
      by_cases hk3 : 160 ≤ k
      · exact c hk3 q hq
      · exact Due.start (by omega) (by omega) (by have := sV_le (n := N) (s := z') (p := q) (by omega); omega)
    refine join_b (h := ⟨[] ++ (L ++ [em, eh, e23]), ro⟩) (decide (xs.length = 1 ∧ (0 ≤ gI xs 0 ∧ gI xs 0 ≤ (N : Int) - 1))) (VIf_eq (fun h1 => idx0 (rl (by simp)) (by omega) ⟨⟨by omega, by omega⟩, in_c ⟨_, rfl, gi ⟨rfl, ?_⟩⟩⟩) (fun h1 => gi ⟨rfl, (decide_eq_false (fun h => h1 (by omega))).symm⟩)) ?_
    · exact decide_eq_decide.2 ⟨fun h => ⟨by omega, h⟩, fun h => h.2⟩
    refine VIf_dec (fun hc => ?_) (fun hc => ?_)
    rotate_left
    · have hk3 : k < 160 := Nat.lt_of_not_le fun h => hc (by
        rw [hxs h]
        have := Nat.mod_lt k (show 0 < N by omega)
        refine ⟨rfl, ?_⟩
        show 0 ≤ ((k % N : Nat) : Int) ∧ ((k % N : Nat) : Int) ≤ (N : Int) - 1
        omega)
      by_cases hx1 : xs.length = 1
      · exact fin hs (S1 hx1).later (fun h => by omega) om oh
      · exact fin hs (S2 hx1) (fun h => by omega) om oh
    obtain ⟨hx1, q0, q1⟩ := hc
    obtain ⟨q, hq⟩ : ∃ q : Nat, gI xs 0 = (q : Int) := ⟨(gI xs 0).toNat, by omega⟩
    have hqN : q < N := by omega
    have S := S1 hx1
    have hkq : 160 ≤ k → k % N = q := fun h => by
      have := hxs h
      rw [this] at hq
      have : ((k % N : Nat) : Int) = (q : Int) := hq
      omega
    refine idx0 (rl (by simp)) (by omega) ?_
    rw [hq]
    have hdue : ∀ z', sV N z' q + 1 ≤ sV N z q ∨ sV N z' q = 0 → (∀ q', q' < N → q' ≠ q → sV N z' q' ≤ sV N z q') → 160 ≤ k → ∀ q', q' < N → Due N 240 (k + 1) q' (sV N z' q') := by
      intro z' hv ho h q' hq'
      by_cases hqq : q' = q
      · subst hqq
        rcases hv with hv | hv
        · exact (due h q' hq').turn (by omega) (by omega) (hkq h) hv
        · rw [hv]; exact .inl rfl
      · exact (due h q' hq').other (by omega) (by omega) hq' (fun h2 => hqq (by rw [← h2, hkq h])) (ho q' hq' hqq)
    refine stk_step_c [] [em, eh, e23] rfl hs S.I (by omega) hqN (fun L1 h1 => ?_)
    by_cases ha : z.h (q * 5 + 0) = 0
    · simp only [if_pos ha] at h1 ⊢
      exact ⟨false, 0, _, rfl, join_b (h := ⟨[] ++ (L1 ++ [em, eh, e23]), ro⟩) false (VIf_err (fun h => absurd h (show (7 : Int) ≠ 0 by decide)) (fun _ => gi ⟨rfl, rfl⟩)) (VIf_b (nomatch ·) (fun _ => fin h1 S.later (hdue z (.inr (by unfold sV; rw [if_pos ha])) (fun _ _ _ => Nat.le_refl _)) om oh))⟩
    simp only [if_neg ha] at h1 ⊢
    have v := sV_turn S.I hqN ha
    have vo : ∀ q', q' < N → q' ≠ q → sV N (kStep z q).1 q' ≤ sV N z q' := fun q' h1 h2 => sV_other S.I hqN ha h1 h2
    refine ⟨_, _, none, rfl, ?_⟩
    rcases S.step hqN ha with ⟨ch', lin', G', e, S'⟩ | ⟨ch', lin', G', o, e, ho, S'⟩
    · exact join_b (h := ⟨[] ++ (L1 ++ [em, eh, e23]), ro⟩) false (VIf_nil (gi ⟨rfl, e⟩)) (VIf_b (nomatch ·) (fun _ => fin h1 S' (hdue _ (.inl v) vo) om oh))
    refine join_b (h := ⟨[] ++ (L1 ++ [em, eh, e23]), ro⟩) true (VIf_nil (gi ⟨rfl, e⟩)) (VIf_b (fun _ => ?_) (nomatch ·))
    obtain ⟨got, hgot⟩ : ∃ g, g = (kStep z q).2.2 := ⟨_, rfl⟩
    dsimp only
    rw [← hgot] at S' ⊢
    have hol := (List.getElem?_eq_some_iff.1 ho).1
    have mq := m0 q
    have rm' : ∀ {X : List Ent}, RdSl ⟨[] ++ (L1 ++ (em :: X)), ro⟩ ⟨some (Addr.mk rm 0 none), (N : Int).toNat, (N : Int).toNat⟩ (ints ms) := fun {X} => RdSl.of_own (e := em) (by simp) om
    refine idx0 (rl (by simp)) (by omega) ?_
    rw [hq]
    refine idxI rm' (by omega) (by omega) (VIf_dec (fun h => absurd h (by rw [Int.toNat_natCast]; omega)) (fun _ => ?_))
    refine idx0 (rl (by simp)) (by omega) ?_
    rw [hq]
    refine idxI rm' (by omega) (by omega) ?_
    rw [Int.toNat_natCast]
    obtain ⟨b2, hb2⟩ : ∃ b2, s.a = some b2 := by
      rcases oh with ⟨h1, h2, _⟩ | ⟨b, off, h1, _⟩
      · omega
      · exact ⟨_, h1⟩
    refine ⟨b2, hb2, mq, by omega, wr_row lopV_len (by decide) (x' := { o with got := got }) (L1 ++ [em]) eh [e23] (by simp) oh ho hb2 (by simp) rfl ⟨rfl, trivial⟩ (fun e3 o3 _ => ?_)⟩
    refine idx0 (rl (by simp)) (by omega) ?_
    rw [hq]
    refine idxI (RdSl.of_own (e := em) (by simp) om) (by omega) (by omega) ⟨⟨by omega, by omega⟩, ⟨by omega, by omega⟩, ?_⟩
    rw [Int.toNat_natCast]
    have hx3 : (os.set (gI ms q).toNat { o with got := got })[(gI ms q).toNat]? = some { o with got := got } := List.getElem?_set_self hol
    refine ⟨b2, hb2, mq, by omega, wr_row lopV_len (by decide) (x' := { o with got := got, too := 2 * k + 1 }) (L1 ++ [em]) e3 [e23] (by simp) o3 hx3 hb2 (by simp) rfl ⟨rfl, trivial⟩ (fun e4 o4 _ => ?_)⟩
    rw [List.set_set] at o4
    have := fin h1 S' (hdue _ (.inl v) vo) om o4
    simpa using this
  rintro _ s _ ⟨L, z, ch, os, lin, G, ms, em, eh, hs, S, ml, m0, due, rfl, om, oh⟩
  have nb : ∀ q, q < N → ¬ (z.h (q * 5 + 0) ≠ 0) := fun q hq h0 => h0 (sV_zero (S.I.q q hq).at0 hq (Due.none (due (by omega) q hq)))
  obtain ⟨hok, hl⟩ := S.H.done (by omega) (by omega) (by omega) nb
  exact SemCall.frz (L ++ [em]) eh [] (by simp) oh (fun ro3 m3 r3 => row3_c r3 oh.cap_le hok hl (fun X => ⟨true, rfl, ret (hpost _)⟩))
end Go.Proofs.Ytogbkgimpkaemaa
