import Derived.Test.YtockhbbpcbcenaaUr
import Derived.Test.YtockhbbpcbcenaaUf
import Derived.Test.YtockhbbpcbcenaaEngL
import Derived.Test.YtockhbbpcbcenaaTu
namespace Go.Proofs.Ytockhbbpcbcenaa
open Go.Eng
set_option maxRecDepth 20000
def rm {α : Type} (n : Nat) (f : Nat → α) : List α := (List.range n).map f
theorem rm_len {α : Type} (n : Nat) (f : Nat → α) : (rm n f).length = n := by simp [rm]
theorem rm_get {α : Type} {n k : Nat} (f : Nat → α) (h : k < n) : (rm n f)[k]? = some (f k) := by simp [rm, h]
theorem rm_succ {α : Type} (n : Nat) (f : Nat → α) : rm (n + 1) f = rm n f ++ [f n] := by simp [rm, List.range_succ]
def updN {α : Type} (f : Nat → α) (q : Nat) (v : α) : Nat → α := fun p => if p = q then v else f p
theorem updN_same {α : Type} (f : Nat → α) (q : Nat) (v : α) : updN f q v q = v := if_pos rfl
theorem updN_ne {α : Type} {f : Nat → α} {q p : Nat} {v : α} (h : p ≠ q) : updN f q v p = f p := if_neg h
theorem rm_set {α : Type} (n k : Nat) (f : Nat → α) (v : α) : (rm n f).set k v = rm n (updN f k v) := by
  refine List.ext_getElem? fun i => ?_
  by_cases hi : i < n
  · rw [rm_get _ hi]
    by_cases hk : k = i
    · subst hk; rw [List.getElem?_set_self (by rw [rm_len]; exact hi), updN_same]
    · rw [List.getElem?_set_ne hk, rm_get _ hi, updN_ne (Ne.symm hk)]
  · rw [List.getElem?_eq_none (by simp [rm_len]; omega), List.getElem?_eq_none (by simp [rm_len]; omega)]
theorem updN_cases {α : Type} {f : Nat → α} {q : Nat} {v : α} (p : Nat) : (p = q ∧ updN f q v p = v) ∨ (p ≠ q ∧ updN f q v p = f p) := by
  by_cases h : p = q
  · subst h; exact .inl ⟨rfl, updN_same _ _ _⟩
  · exact .inr ⟨h, updN_ne h⟩
theorem gI_rm {n k : Nat} {f : Nat → Int} (h : k < n) : gI (rm n f) k = f k := by unfold gI; rw [rm_get _ h]; rfl
theorem rm_spl {n o : Nat} {f : Nat → Int} {vs : List Int} (h : o + vs.length ≤ n) : splI (rm n f) o vs = rm n fun k => if o ≤ k ∧ k < o + vs.length then gI vs (k - o) else f k := by
  refine List.ext_getElem? fun k => ?_
  have hl : (splI (rm n f) o vs).length = n := by rw [splI_length (by rw [rm_len]; exact h), rm_len]
  by_cases hk : k < n
  · rw [rm_get _ hk]
    have e := gI_spl (m := rm n f) (vs := vs) (o := o) (by rw [rm_len]; exact h) k
    rw [gI_rm hk] at e
    unfold gI at e
    rw [List.getElem?_eq_getElem (by omega)] at e ⊢
    exact congrArg some e
  · rw [List.getElem?_eq_none (by omega), List.getElem?_eq_none (by rw [rm_len]; omega)]
theorem idxI {h : H} {s : SV} {xs : List Int} (r : RdSl h s (ints xs)) {i : Int} (h0 : 0 ≤ i) (h1 : i < (xs.length : Int)) {K : Int → Prop} (hK : K (gI xs i.toNat)) :
    ∃ b : Addr, s.a = some b ∧ 0 ≤ i ∧ i < ((s.len : Nat) : Int) ∧ ∃ x : Int, H.rd h (Addr.add (Addr.add b (i.toNat * 1)) 0) (Value.int .i64 x) ∧ K x := by
  have hl := r.len
  rw [ints_length] at hl
  refine r.idx h0 (by omega) fun x hx => ?_
  have : gI xs i.toNat = x := by unfold gI; rw [hx]; rfl
  rw [← this]; exact hK
theorem idx0 {h : H} {s : SV} {xs : List Int} (r : RdSl h s (ints xs)) (h1 : 0 < xs.length) {K : Int → Prop} (hK : K (gI xs 0)) :
    ∃ b : Addr, s.a = some b ∧ 0 ≤ (0 : Int) ∧ (0 : Int) < ((s.len : Nat) : Int) ∧ ∃ x : Int, H.rd h (Addr.add (Addr.add b ((0 : Int).toNat * 1)) 0) (Value.int .i64 x) ∧ K x := idxI r (by omega) (by omega) hK
theorem idx1 {h : H} {s : SV} {xs : List Int} (r : RdSl h s (ints xs)) (h1 : 1 < xs.length) {K : Int → Prop} (hK : K (gI xs 1)) :
    ∃ b : Addr, s.a = some b ∧ 0 ≤ (1 : Int) ∧ (1 : Int) < ((s.len : Nat) : Int) ∧ ∃ x : Int, H.rd h (Addr.add (Addr.add b ((1 : Int).toNat * 1)) 0) (Value.int .i64 x) ∧ K x := idxI r (by omega) (by omega) hK
theorem gI_of {m : List Int} {k : Nat} {x : Int} (h : m[k]? = some x) : gI m k = x := by unfold gI; rw [h]; rfl
theorem gI_ex {m : List Int} {k : Nat} (h : k < m.length) : m[k]? = some (gI m k) := by unfold gI; rw [List.getElem?_eq_getElem h]; rfl
theorem grows_ops : Grows Try.prog 44 46 6 := ⟨rfl, rfl, by decide, by decide, ⟨_, rfl, rfl, ⟨rfl, rfl, rfl, rfl, rfl, rfl, trivial⟩⟩⟩
def opOf (R : Nat → Int) : LOp := ⟨R 0, R 1, R 2, R 3, R 4, R 5⟩
theorem ops_rows {h : H} {s : SV} {R : List (Nat → Int)} (hr : RdRows h 6 s (R.flatMap (intRow 6))) : RdRows h 6 s ((R.map opOf).flatMap lopV) := by
  rw [List.flatMap_map]
  exact hr
/-! ### UnivRow, walked -/
theorem gI_set {m : List Int} {i k : Nat} {v : Int} (h : i < m.length) : gI (m.set i v) k = if k = i then v else gI m k := by
  unfold gI
  split
  · rename_i e; subst e; rw [List.getElem?_set_self h]; rfl
  · rename_i e; rw [List.getElem?_set_ne (Ne.symm e)]
theorem row3_c {k : Int} {os : List LOp} {s : SV} {own : List Ent} {ro : Addr → Option Value} {post : Value → H → Prop} (hr : RdRows ⟨[], ro⟩ 6 s (os.flatMap lopV)) (hcap : s.len ≤ s.cap) (hok : LOk k os) (hl : ∃ l, lrow k os = some l) (hk : ∀ X, post (.bool true) ⟨own ++ X, ro⟩) :
    SemCall Try.prog 26 (List.toArray [.int .i64 k, .slice s.a s.len s.cap]) ⟨own, ro⟩ post := by
  refine f26_call _ _ _ post (lin_row_c hr hcap (fun hc => absurd (lcheck_zero.2 hok) hc) (fun _ hn => by obtain ⟨l, hl⟩ := hl; rw [hl] at hn; cases hn) (fun l s' e' _ _ o' => ⟨true, s', none, rfl, ?_⟩))
  exact join_b (h := ⟨own ++ [e'], ro⟩) true (VIf_nil (gi ⟨rfl, rfl⟩)) (ret (hk _))
def UrSt (p rm N : Nat) (ro : Addr → Option Value) (k : Nat) (s : SV) (h : H) : Prop :=
  ∃ L u m os lin G ms em eh, UnivAt p u L ∧ US N k u m os lin G (fun q => (gI ms q).toNat) ∧ ms.length = N ∧ (∀ q, 0 ≤ gI ms q) ∧ (140 ≤ k → ∀ q, q < N → Due N 240 k q (uV u q)) ∧ h = ⟨[] ++ (L ++ [em, eh]), ro⟩ ∧ OwnsSl 1 ⟨some (Addr.mk rm 0 none), (N : Int).toNat, (N : Int).toNat⟩ em (ints ms) ∧ OwnsSl 6 s eh (os.flatMap lopV)
set_option maxHeartbeats 1600000 in
theorem univRow_c {n : Int} {st : SV} {rows : List (SV × List Int)} {ro : Addr → Option Value} {post : Value → H → Prop} (hr : RdRowsOf ⟨[], ro⟩ st rows) (hpost : ∀ h, post (.bool true) h) :
    SemCall Try.prog 7 (List.toArray [.int .i64 n, .slice st.a st.len st.cap]) ⟨[], ro⟩ post := by
  refine f7_call _ _ _ post (univ_fact_c ⟨_, rfl, VIf_nb (nomatch ·) (fun _ => ?_)⟩)
  refine univ_new_c (fun hc => ⟨_, _, rfl, VIf_nerr (fun _ => ?_) (nomatch ·)⟩) (fun p L hs c0 c1 => ⟨_, none, rfl, VIf_nnil ?_⟩)
  · exact join_or (ret (by rw [decide_eq_true (show n < 1 ∨ n > 4 by omega)]; exact hpost _))
  obtain ⟨N, rfl⟩ : ∃ N : Nat, n = (N : Int) := ⟨n.toNat, by omega⟩
  refine ⟨by omega, by omega, by omega, by omega, fun rm _ => ?_⟩
  rw [repl_ints]
  rw [Int.toNat_natCast] at hs
  have hr : ∀ {X}, RdRowsOf ⟨X, ro⟩ st rows := fun {X} => hr.mono (by simp) (fun _ _ h => h)
  refine ⟨fun s h => UrSt p rm N ro 240 s h, ⟨fun m s i h => ∃ k : Nat, i = (k : Int) ∧ k ≤ 240 ∧ m = 240 - k ∧ UrSt p rm N ro k s h,
    ⟨_, ⟨[] ++ (L ++ [⟨some rm, ints (List.replicate (N : Int).toNat 0), (ints (List.replicate (N : Int).toNat 0)).length⟩, ⟨none, [], 0⟩]), ro⟩, ?_, 0, rfl, by omega, rfl, L, _, 0, [], [], _, List.replicate (N : Int).toNat 0, _, _, hs, US.start (by omega) _, by simp, fun q => ?_, fun h => by omega, rfl, ?_, OwnsSl.nil 6⟩, ?_⟩, ?_⟩
  · have g := Gh.phantom ([] ++ L ++ [⟨some rm, ints (List.replicate (N : Int).toNat 0), (ints (List.replicate (N : Int).toNat 0)).length⟩]) [] ro 0
    simpa using g
  · unfold gI
    rw [List.getElem?_replicate]
    split <;> simp
  · exact OwnsSl.at0 1 (by simp) (by simp) (by simp only [maxLen]; omega)
  · rintro m _ s i _ ⟨k, rfl, hk, rfl, L, u, mm, os, lin, G, ms, em, eh, hs, S, ml, m0, due, rfl, om, oh⟩
    refine VIf_dec (fun hk2 => ?_) (fun hk2 => gi ?_)
    rotate_left
    · have : k = 240 := by omega
      subst this
      exact ⟨L, u, mm, os, lin, G, ms, em, eh, hs, S, ml, m0, due, rfl, om, oh⟩
    refine ⟨by omega, fun r23 _ => ?_⟩
    obtain ⟨e23, he23⟩ : ∃ e : Ent, e = ⟨some r23, [.int .i64 (Int.tmod (k : Int) (N : Int))], [Value.int .i64 (Int.tmod (k : Int) (N : Int))].length⟩ := ⟨_, rfl⟩
    rw [← he23, show ([] ++ (L ++ [em, eh])) ++ [e23] = [] ++ (L ++ [em, eh, e23]) by simp]
    refine join_b (h := ⟨[] ++ (L ++ [em, eh, e23]), ro⟩) (decide ((k : Int) < ((st.len : Nat) : Int) ∧ (k : Int) < 140)) (VIf_dec (fun h1 => gi ⟨rfl, ?_⟩) (fun h1 => gi ⟨rfl, (decide_eq_false (fun h => h1 h.1)).symm⟩)) ?_
    · exact decide_eq_decide.2 ⟨fun h => ⟨h1, h⟩, fun h => h.2⟩
    refine ⟨fun l h => h = ⟨[] ++ (L ++ [em, eh, e23]), ro⟩ ∧ ∃ xs : List Int, (∀ {X}, e23 ∈ X → RdSl ⟨X, ro⟩ l (ints xs)) ∧ (140 ≤ k → xs = [((k % N : Nat) : Int)]), VIf_dec (fun hc => ?_) (fun hc => ?_), ?_⟩
    · refine hr.idx (by omega) hc.1 (fun t xs hx ht => gi ⟨rfl, xs, fun {X} _ => ?_, fun h => by omega⟩)
      exact RdSl.mono (h := ⟨[], ro⟩) ((hr (X := [])).2 (t, xs) (List.mem_of_getElem? hx)) (by simp) (fun _ _ h => h)
    · exact gi ⟨rfl, [((k % N : Nat) : Int)], fun {X} hX => RdSl.row (n := 1) (vs := ints [((k % N : Nat) : Int)]) (e := e23) hX (by rw [he23]) (by rw [he23]; rfl), fun _ => rfl⟩
    rintro _ l _ ⟨rfl, xs, rl, hxs⟩
    have tl : l.len = xs.length := by
      have := (rl (X := [e23]) (by simp)).len
      rw [ints_length] at this; omega
    have hsl := oh.rows_len lopV_len (by decide)
    -- to be begun?
    refine ⟨fun b h => ∃ L, h = ⟨[] ++ (L ++ [em, eh, e23]), ro⟩ ∧ ((b = false ∧ UnivAt p u L) ∨ (b = true ∧ xs.length = 2 ∧ k < 140 ∧ os.length < 8 ∧ ∃ (q : Nat) (h : UHand), gI xs 0 = (q : Int) ∧ q < N ∧ (0 ≤ gI xs 1 ∧ gI xs 1 ≤ 1000) ∧ u.hands[q]? = some h ∧ h.ln = 0 ∧
      UInv { u with deeds := u.deeds ++ [((q : Int), gI xs 1)], hands := u.hands.set q ⟨1, u.deeds.length + 1, 0, 0⟩ } mm ∧ UnivAt p { u with deeds := u.deeds ++ [((q : Int), gI xs 1)], hands := u.hands.set q ⟨1, u.deeds.length + 1, 0, 0⟩ } L)), ?_, ?_⟩
    · refine VIf_eq (fun h2 => VIf_dec (fun h3 => VIf_dec (fun h4 => ?_) (fun _ => ?_)) (fun _ => ?_)) (fun _ => ?_)
      · refine idx0 (rl (by simp)) (by omega) (idx1 (rl (by simp)) (by omega) (VIf_b (fun _ => ?_) (nomatch ·)))
        refine univ_begin_c [] [em, eh, e23] rfl hs S.I.ok (fun L1 h1 => ⟨_, rfl, isIfaceV_errV _, ?_⟩)
        rw [isNilV_errV, eno_isNone]
        have hn := S.n
        rcases S.I.begin (gI xs 0) (gI xs 1) with ⟨c, hc, e⟩ | ⟨q0, q1, a0, h, hh, hl, e, i1⟩ <;> rw [e] at h1 ⊢
        · exact gi ⟨L1, rfl, .inl ⟨decide_eq_false hc, h1⟩⟩
        · obtain ⟨q, hq⟩ : ∃ q : Nat, gI xs 0 = (q : Int) := ⟨(gI xs 0).toNat, by omega⟩
          have ha := i1.a (gI xs 0, gI xs 1) (by simp)
          rw [hq, Int.toNat_natCast] at h1 i1
          rw [hq, Int.toNat_natCast] at hh
          exact gi ⟨L1, rfl, .inr ⟨rfl, by omega, by omega, by omega, q, h, hq, by omega, ha, hh, hl, i1, h1⟩⟩
      all_goals exact VIf_b (nomatch ·) (fun _ => gi ⟨L, rfl, .inl ⟨rfl, hs⟩⟩)
    rintro _ b _ ⟨L1, rfl, hb⟩
    refine ⟨fun s h => ∃ L u os ms em eh, h = ⟨[] ++ (L ++ [em, eh, e23]), ro⟩ ∧ UnivAt p u L ∧ (xs.length = 1 → US N k u mm os lin G (fun q => (gI ms q).toNat)) ∧ (xs.length ≠ 1 → US N (k + 1) u mm os lin G (fun q => (gI ms q).toNat)) ∧ ms.length = N ∧ (∀ q, 0 ≤ gI ms q) ∧ (140 ≤ k → ∀ q, q < N → Due N 240 k q (uV u q)) ∧
      OwnsSl 1 ⟨some (Addr.mk rm 0 none), (N : Int).toNat, (N : Int).toNat⟩ em (ints ms) ∧ OwnsSl 6 s eh (os.flatMap lopV), VIf_b (fun hbt => ?_) (fun hbf => ?_), ?_⟩
    · obtain ⟨-, x2, k1, o8, q, h, hq, hqN, ha, hh, hl, i1, h1⟩ := hb.resolve_left (fun h => by rw [hbt] at h; exact absurd h.1 (by simp))
      refine idx0 (rl (by simp)) (by omega) ⟨⟨by omega, by omega⟩, in3_c ⟨_, rfl, VIf_not (fun h => absurd (by omega) h) (fun _ => ?_)⟩⟩
      refine idx0 (rl (by simp)) (by omega) ?_
      rw [hq]
      refine wr_at L1 em [eh, e23] rfl om (by omega) (by dsimp only; omega) (fun em' om' _ => ?_)
      obtain ⟨b, hb⟩ := (rl (X := L1 ++ em' :: [eh, e23]) (by simp)).addr (by simp; omega)
      refine ⟨b, hb, by omega, by omega, b, hb, by omega, by omega, ⟨by omega, by omega⟩, gI xs 0, (rl (by simp)).rdi hb (gI_ex (by omega)), gI xs 1, (rl (by simp)).rdi hb (gI_ex (by omega)), ?_⟩
      rw [hq]
      refine app_row grows_ops (vs := lopV ⟨q, 0, gI xs 1, 0, 2 * k, 0⟩) rfl ⟨rfl, rfl, rfl, rfl, rfl, rfl, trivial⟩ (L1 ++ [em']) eh [e23] (by simp) oh (by omega) (fun s2 e2 o2 _ => ?_)
      rw [hsl, Int.toNat_natCast] at om'
      refine gi ⟨L1, _, os ++ [⟨q, 0, gI xs 1, 0, 2 * k, 0⟩], ms.set q os.length, em', e2, by simp, h1, fun h => absurd h (by omega), fun _ => S.begin hqN o8 ha hh hl i1 ?_ (fun q' _ hne => ?_), by simpa using ml, fun q' => ?_, fun h => by omega, om', by simpa [List.flatMap_append] using o2⟩
      · rw [gI_set (by omega), if_pos rfl]; simp
      · rw [gI_set (by omega), if_neg hne]
      · rw [gI_set (by omega)]
        split
        · omega
        · exact m0 q'
    · have h1 : UnivAt p u L1 := by
        rcases hb with ⟨_, h⟩ | ⟨h, _⟩
        · exact h
        · rw [hbf] at h; exact absurd h (by simp)
      exact gi ⟨L1, u, os, ms, em, eh, rfl, h1, fun _ => S, fun _ => S.later, ml, m0, due, om, oh⟩
    clear hs S ml m0 due om oh hsl hb
    rintro _ s _ ⟨L, u, os, ms, em, eh, rfl, hs, S1, S2, ml, m0, due, om, oh⟩
    have hsl := oh.rows_len lopV_len (by decide)
    have fin : ∀ {L' u' m' os' lin' G' em' eh' s'}, UnivAt p u' L' → US N (k + 1) u' m' os' lin' G' (fun q => (gI ms q).toNat) → (140 ≤ k → ∀ q, q < N → Due N 240 (k + 1) q (uV u' q)) → OwnsSl 1 ⟨some (Addr.mk rm 0 none), (N : Int).toNat, (N : Int).toNat⟩ em' (ints ms) → OwnsSl 6 s' eh' (os'.flatMap lopV) →
        (In64 ((k : Int) + 1) ∧ ∃ m18, m18 < 240 - k ∧ ∃ h, Gh ⟨[] ++ (L' ++ [em', eh', e23]), ro⟩ h ∧ ∃ k' : Nat, (k : Int) + 1 = (k' : Int) ∧ k' ≤ 240 ∧ m18 = 240 - k' ∧ UrSt p rm N ro k' s' h) := by
      intro L' u' m' os' lin' G' em' eh' s' a b c d e
      refine ⟨⟨by omega, by omega⟩, 240 - (k + 1), by omega, ⟨[] ++ (L' ++ [em', eh']), ro⟩, Gh.drop (by simp), k + 1, by omega, by omega, rfl, L', u', m', os', lin', G', ms, em', eh', a, b, ml, m0, fun h q hq => ?_, rfl, d, e⟩
      by_cases hk3 : 140 ≤ k
      · exact c hk3 q hq
      · exact Due.start (by omega) (by omega) (by have := uV_le b q; omega)
    refine join_b (h := ⟨[] ++ (L ++ [em, eh, e23]), ro⟩) (decide (xs.length = 1 ∧ (0 ≤ gI xs 0 ∧ gI xs 0 ≤ (N : Int) - 1))) (VIf_eq (fun h1 => idx0 (rl (by simp)) (by omega) ⟨⟨by omega, by omega⟩, in3_c ⟨_, rfl, gi ⟨rfl, ?_⟩⟩⟩) (fun h1 => gi ⟨rfl, (decide_eq_false (fun h => h1 (by omega))).symm⟩)) ?_
    · exact decide_eq_decide.2 ⟨fun h => ⟨by omega, h⟩, fun h => h.2⟩
    refine VIf_dec (fun hc => ?_) (fun hc => ?_)
    rotate_left
    · have hk3 : k < 140 := Nat.lt_of_not_le fun h => hc (by
        rw [hxs h]
        have := Nat.mod_lt k (show 0 < N by omega)
        refine ⟨rfl, ?_⟩
        show 0 ≤ ((k % N : Nat) : Int) ∧ ((k % N : Nat) : Int) ≤ (N : Int) - 1
        omega)
      by_cases hx1 : xs.length = 1
      · exact fin hs (S1 hx1).later (fun h => by omega) om oh
      · exact fin hs (S2 hx1) (fun h => by omega) om oh
    obtain ⟨hx1, q0, q1⟩ := hc
    obtain ⟨q, hq⟩ : ∃ q : Nat, gI xs 0 = (q : Int) := ⟨(gI xs 0).toNat, by omega⟩
    have hqN : q < N := by omega
    have S := S1 hx1
    have hkq : 140 ≤ k → k % N = q := fun h => by
      have := hxs h
      rw [this] at hq
      have : ((k % N : Nat) : Int) = (q : Int) := hq
      omega
    refine idx0 (rl (by simp)) (by omega) ?_
    rw [hq]
    refine univ_step_c [] [em, eh, e23] rfl hs S.I.ok (fun L1 h1 => ⟨_, _, _, rfl, ?_⟩)
    have hdue : ∀ u', uV u' q + 1 ≤ uV u q ∨ uV u' q = 0 → (∀ q', q' ≠ q → uV u' q' = uV u q') → 140 ≤ k → ∀ q', q' < N → Due N 240 (k + 1) q' (uV u' q') := by
      intro u' hv ho h q' hq'
      by_cases hqq : q' = q
      · subst hqq
        rcases hv with hv | hv
        · exact (due h q' hq').turn (by omega) (by omega) (hkq h) hv
        · rw [hv]; exact .inl rfl
      · rw [ho q' hqq]
        exact (due h q' hq').other (by omega) (by omega) hq' (fun h2 => hqq (by rw [← h2, hkq h])) (Nat.le_refl _)
    rcases S.step hqN with ⟨c, hc, e, hv⟩ | ⟨u', m', lin', G', e, S', v, vo⟩ | ⟨u', got, o, e, ho, S', v, vo⟩ <;> rw [e] at h1 ⊢
    · exact join_b (h := ⟨[] ++ (L1 ++ [em, eh, e23]), ro⟩) false (VIf_err (fun h => absurd h hc) (fun _ => gi ⟨rfl, rfl⟩)) (VIf_b (nomatch ·) (fun _ => fin h1 S.later (hdue u (.inr hv) (fun _ _ => rfl)) om oh))
    · exact join_b (h := ⟨[] ++ (L1 ++ [em, eh, e23]), ro⟩) false (VIf_nil (gi ⟨rfl, rfl⟩)) (VIf_b (nomatch ·) (fun _ => fin h1 S' (hdue u' (.inl v) vo) om oh))
    refine join_b (h := ⟨[] ++ (L1 ++ [em, eh, e23]), ro⟩) true (VIf_nil (gi ⟨rfl, rfl⟩)) (VIf_b (fun _ => ?_) (nomatch ·))
    have hol := (List.getElem?_eq_some_iff.1 ho).1
    have mq := m0 q
    have rm' : ∀ {X : List Ent}, RdSl ⟨[] ++ (L1 ++ (em :: X)), ro⟩ ⟨some (Addr.mk rm 0 none), (N : Int).toNat, (N : Int).toNat⟩ (ints ms) := fun {X} => RdSl.of_own (e := em) (by simp) om
    refine idx0 (rl (by simp)) (by omega) ?_
    rw [hq]
    refine idxI rm' (by omega) (by omega) (VIf_dec (fun h => absurd h (by rw [Int.toNat_natCast]; omega)) (fun _ => ?_))
    refine idx0 (rl (by simp)) (by omega) ?_
    rw [hq]
    refine idxI rm' (by omega) (by omega) ?_
    rw [Int.toNat_natCast]
    obtain ⟨b2, hb2⟩ : ∃ b2, s.a = some b2 := by
      rcases oh with ⟨h1, h2, _⟩ | ⟨b, off, h1, _⟩
      · omega
      · exact ⟨_, h1⟩
    refine ⟨b2, hb2, mq, by omega, wr_row lopV_len (by decide) (x' := { o with got := got }) (L1 ++ [em]) eh [e23] (by simp) oh ho hb2 (by simp) rfl ⟨rfl, trivial⟩ (fun e3 o3 _ => ?_)⟩
    refine idx0 (rl (by simp)) (by omega) ?_
    rw [hq]
    refine idxI (RdSl.of_own (e := em) (by simp) om) (by omega) (by omega) ⟨⟨by omega, by omega⟩, ⟨by omega, by omega⟩, ?_⟩
    rw [Int.toNat_natCast]
    have hx3 : (os.set (gI ms q).toNat { o with got := got })[(gI ms q).toNat]? = some { o with got := got } := List.getElem?_set_self hol
    refine ⟨b2, hb2, mq, by omega, wr_row lopV_len (by decide) (x' := { o with got := got, too := 2 * k + 1 }) (L1 ++ [em]) e3 [e23] (by simp) o3 hx3 hb2 (by simp) rfl ⟨rfl, trivial⟩ (fun e4 o4 _ => ?_)⟩
    rw [List.set_set] at o4
    have := fin h1 S' (hdue u' (.inl v) vo) om o4
    simpa using this
  rintro _ s _ ⟨L, u, mm, os, lin, G, ms, em, eh, hs, S, ml, m0, due, rfl, om, oh⟩
  have nb : ∀ q, q < N → ¬ ubusy u q := fun q hq => uV_zero S (Due.none (due (by omega) q hq))
  obtain ⟨hok, hl⟩ := S.H.done (by omega) (by omega) (by omega) nb
  exact SemCall.frz (L ++ [em]) eh [] (by simp) oh (fun ro3 m3 r3 => row3_c r3 oh.cap_le hok hl (fun X => ⟨true, rfl, ret (hpost _)⟩))
end Go.Proofs.Ytockhbbpcbcenaa
