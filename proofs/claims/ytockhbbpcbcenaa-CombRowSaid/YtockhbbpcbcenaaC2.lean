import Derived.Test.YtockhbbpcbcenaaC1
import Derived.Test.YtockhbbpcbcenaaEngL
import Derived.Test.YtockhbbpcbcenaaEngJ
import Derived.Test.YtockhbbpcbcenaaTc
namespace Go.Proofs.Ytockhbbpcbcenaa
open Go.Eng
set_option maxRecDepth 20000
def rm {α : Type} (n : Nat) (f : Nat → α) : List α := (List.range n).map f
theorem rm_len {α : Type} (n : Nat) (f : Nat → α) : (rm n f).length = n := by simp [rm]
theorem rm_get {α : Type} {n k : Nat} (f : Nat → α) (h : k < n) : (rm n f)[k]? = some (f k) := by simp [rm, h]
theorem rm_succ {α : Type} (n : Nat) (f : Nat → α) : rm (n + 1) f = rm n f ++ [f n] := by simp [rm, List.range_succ]
def updN {α : Type} (f : Nat → α) (q : Nat) (v : α) : Nat → α := fun p => if p = q then v else f p
theorem updN_same {α : Type} (f : Nat → α) (q : Nat) (v : α) : updN f q v q = v := if_pos rfl
theorem updN_ne {α : Type} {f : Nat → α} {q p : Nat} {v : α} (h : p ≠ q) : updN f q v p = f p := if_neg h
theorem rm_set {α : Type} (n k : Nat) (f : Nat → α) (v : α) : (rm n f).set k v = rm n (updN f k v) := by
  refine List.ext_getElem? fun i => ?_
  by_cases hi : i < n
  · rw [rm_get _ hi]
    by_cases hk : k = i
    · subst hk; rw [List.getElem?_set_self (by rw [rm_len]; exact hi), updN_same]
    · rw [List.getElem?_set_ne hk, rm_get _ hi, updN_ne (Ne.symm hk)]
  · rw [List.getElem?_eq_none (by simp [rm_len]; omega), List.getElem?_eq_none (by simp [rm_len]; omega)]
theorem updN_cases {α : Type} {f : Nat → α} {q : Nat} {v : α} (p : Nat) : (p = q ∧ updN f q v p = v) ∨ (p ≠ q ∧ updN f q v p = f p) := by
  by_cases h : p = q
  · subst h; exact .inl ⟨rfl, updN_same _ _ _⟩
  · exact .inr ⟨h, updN_ne h⟩
theorem gI_rm {n k : Nat} {f : Nat → Int} (h : k < n) : gI (rm n f) k = f k := by unfold gI; rw [rm_get _ h]; rfl
theorem rm_spl {n o : Nat} {f : Nat → Int} {vs : List Int} (h : o + vs.length ≤ n) : splI (rm n f) o vs = rm n fun k => if o ≤ k ∧ k < o + vs.length then gI vs (k - o) else f k := by
  refine List.ext_getElem? fun k => ?_
  have hl : (splI (rm n f) o vs).length = n := by rw [splI_length (by rw [rm_len]; exact h), rm_len]
  by_cases hk : k < n
  · rw [rm_get _ hk]
    have e := gI_spl (m := rm n f) (vs := vs) (o := o) (by rw [rm_len]; exact h) k
    rw [gI_rm hk] at e
    unfold gI at e
    rw [List.getElem?_eq_getElem (by omega)] at e ⊢
    exact congrArg some e
  · rw [List.getElem?_eq_none (by omega), List.getElem?_eq_none (by rw [rm_len]; omega)]
theorem idxI {h : H} {s : SV} {xs : List Int} (r : RdSl h s (ints xs)) {i : Int} (h0 : 0 ≤ i) (h1 : i < (xs.length : Int)) {K : Int → Prop} (hK : K (gI xs i.toNat)) :
    ∃ b : Addr, s.a = some b ∧ 0 ≤ i ∧ i < ((s.len : Nat) : Int) ∧ ∃ x : Int, H.rd h (Addr.add (Addr.add b (i.toNat * 1)) 0) (Value.int .i64 x) ∧ K x := by
  have hl := r.len
  rw [ints_length] at hl
  refine r.idx h0 (by omega) fun x hx => ?_
  have : gI xs i.toNat = x := by unfold gI; rw [hx]; rfl
  rw [← this]; exact hK
theorem idx0 {h : H} {s : SV} {xs : List Int} (r : RdSl h s (ints xs)) (h1 : 0 < xs.length) {K : Int → Prop} (hK : K (gI xs 0)) :
    ∃ b : Addr, s.a = some b ∧ 0 ≤ (0 : Int) ∧ (0 : Int) < ((s.len : Nat) : Int) ∧ ∃ x : Int, H.rd h (Addr.add (Addr.add b ((0 : Int).toNat * 1)) 0) (Value.int .i64 x) ∧ K x := idxI r (by omega) (by omega) hK
theorem idx1 {h : H} {s : SV} {xs : List Int} (r : RdSl h s (ints xs)) (h1 : 1 < xs.length) {K : Int → Prop} (hK : K (gI xs 1)) :
    ∃ b : Addr, s.a = some b ∧ 0 ≤ (1 : Int) ∧ (1 : Int) < ((s.len : Nat) : Int) ∧ ∃ x : Int, H.rd h (Addr.add (Addr.add b ((1 : Int).toNat * 1)) 0) (Value.int .i64 x) ∧ K x := idxI r (by omega) (by omega) hK
theorem gI_of {m : List Int} {k : Nat} {x : Int} (h : m[k]? = some x) : gI m k = x := by unfold gI; rw [h]; rfl
theorem gI_ex {m : List Int} {k : Nat} (h : k < m.length) : m[k]? = some (gI m k) := by unfold gI; rw [List.getElem?_eq_getElem h]; rfl
theorem grows_ops : Grows Try.prog 44 46 6 := ⟨rfl, rfl, by decide, by decide, ⟨_, rfl, rfl, ⟨rfl, rfl, rfl, rfl, rfl, rfl, trivial⟩⟩⟩
def opOf (R : Nat → Int) : LOp := ⟨R 0, R 1, R 2, R 3, R 4, R 5⟩
theorem ops_rows {h : H} {s : SV} {R : List (Nat → Int)} (hr : RdRows h 6 s (R.flatMap (intRow 6))) : RdRows h 6 s ((R.map opOf).flatMap lopV) := by
  rw [List.flatMap_map]
  exact hr
/-! ### CombRow, walked -/
theorem gI_set {m : List Int} {i k : Nat} {v : Int} (h : i < m.length) : gI (m.set i v) k = if k = i then v else gI m k := by
  unfold gI
  split
  · rename_i e; subst e; rw [List.getElem?_set_self h]; rfl
  · rename_i e; rw [List.getElem?_set_ne (Ne.symm e)]
theorem CV.ci {p : Nat} {c : CS} {i : Int} {L : List Ent} (h : CV p c i L) : CI c i := by obtain ⟨_, _, _, d⟩ := h; exact d
theorem CV.up {p : Nat} {c : CS} {i j : Int} {L : List Ent} (h : CV p c i L) (hj : i ≤ j) : CV p c j L := by obtain ⟨m, a, b, d⟩ := h; exact ⟨m, a, b, d.mono hj⟩
def CrSt (p rm N : Nat) (ro : Addr → Option Value) (k : Nat) (s : SV) (h : H) : Prop :=
  ∃ L c os lin G ms em eh, CV p c (2 * k) L ∧ CW N k c os lin G (fun q => (gI ms q).toNat) ∧ ms.length = N ∧ (∀ q, 0 ≤ gI ms q) ∧ (140 ≤ k → CDue N k c) ∧ h = ⟨[] ++ (L ++ [em, eh]), ro⟩ ∧ OwnsSl 1 ⟨some (Addr.mk rm 0 none), (N : Int).toNat, (N : Int).toNat⟩ em (ints ms) ∧ OwnsSl 6 s eh (os.flatMap lopV)
set_option maxHeartbeats 1600000 in
theorem combRow_c {n : Int} {st : SV} {rows : List (SV × List Int)} {ro : Addr → Option Value} {post : Value → H → Prop} (hr : RdRowsOf ⟨[], ro⟩ st rows) (hpost : ∀ h, post (.bool true) h) :
    SemCall Try.prog 8 (List.toArray [.int .i64 n, .slice st.a st.len st.cap]) ⟨[], ro⟩ post := by
  refine f8_call _ _ _ post (comb_fact_c ⟨_, rfl, VIf_nb (nomatch ·) (fun _ => ?_)⟩)
  refine cv_new (fun hc => ⟨_, _, rfl, VIf_nerr (fun _ => ?_) (nomatch ·)⟩) (fun p L hs c0 c1 => ⟨_, none, rfl, VIf_nnil ?_⟩)
  · exact join_or (ret (by rw [decide_eq_true (show n < 1 ∨ n > 4 by omega)]; exact hpost _))
  obtain ⟨N, rfl⟩ : ∃ N : Nat, n = (N : Int) := ⟨n.toNat, by omega⟩
  refine ⟨by omega, by omega, by omega, by omega, fun rm _ => ?_⟩
  rw [repl_ints]
  have hr : ∀ {X}, RdRowsOf ⟨X, ro⟩ st rows := fun {X} => hr.mono (by simp) (fun _ _ h => h)
  refine ⟨fun s h => CrSt p rm N ro 340 s h, ⟨fun m s i h => ∃ k : Nat, i = (k : Int) ∧ k ≤ 340 ∧ m = 340 - k ∧ CrSt p rm N ro k s h,
    ⟨_, ⟨[] ++ (L ++ [⟨some rm, ints (List.replicate (N : Int).toNat 0), (ints (List.replicate (N : Int).toNat 0)).length⟩, ⟨none, [], 0⟩]), ro⟩, ?_, 0, rfl, by omega, rfl, L, _, [], [], _, List.replicate (N : Int).toNat 0, _, _, hs, CW.start (by omega) _, by simp, fun q => ?_, fun h => by omega, rfl, ?_, OwnsSl.nil 6⟩, ?_⟩, ?_⟩
  · have g := Gh.phantom ([] ++ L ++ [⟨some rm, ints (List.replicate (N : Int).toNat 0), (ints (List.replicate (N : Int).toNat 0)).length⟩]) [] ro 0
    simpa using g
  · unfold gI
    rw [List.getElem?_replicate]
    split <;> simp
  · exact OwnsSl.at0 1 (by simp) (by simp) (by simp only [maxLen]; omega)
  · rintro m _ s i _ ⟨k, rfl, hk, rfl, L, c, os, lin, G, ms, em, eh, hs, S, ml, m0, due, rfl, om, oh⟩
    refine VIf_dec (fun hk2 => ?_) (fun hk2 => gi ?_)
    rotate_left
    · have : k = 340 := by omega
      subst this
      exact ⟨L, c, os, lin, G, ms, em, eh, hs, S, ml, m0, due, rfl, om, oh⟩
    refine ⟨by omega, fun r23 _ => ?_⟩
    obtain ⟨e23, he23⟩ : ∃ e : Ent, e = ⟨some r23, [.int .i64 (Int.tmod (k : Int) (N : Int))], [Value.int .i64 (Int.tmod (k : Int) (N : Int))].length⟩ := ⟨_, rfl⟩
    rw [← he23, show ([] ++ (L ++ [em, eh])) ++ [e23] = [] ++ (L ++ [em, eh, e23]) by simp]
    refine join_b (h := ⟨[] ++ (L ++ [em, eh, e23]), ro⟩) (decide ((k : Int) < ((st.len : Nat) : Int) ∧ (k : Int) < 140)) (VIf_dec (fun h1 => gi ⟨rfl, ?_⟩) (fun h1 => gi ⟨rfl, (decide_eq_false (fun h => h1 h.1)).symm⟩)) ?_
    · exact decide_eq_decide.2 ⟨fun h => ⟨h1, h⟩, fun h => h.2⟩
    refine ⟨fun l h => h = ⟨[] ++ (L ++ [em, eh, e23]), ro⟩ ∧ ∃ xs : List Int, (∀ {X}, e23 ∈ X → RdSl ⟨X, ro⟩ l (ints xs)) ∧ (140 ≤ k → xs = [((k % N : Nat) : Int)]), VIf_dec (fun hc => ?_) (fun hc => ?_), ?_⟩
    · refine hr.idx (by omega) hc.1 (fun t xs hx ht => gi ⟨rfl, xs, fun {X} _ => ?_, fun h => by omega⟩)
      exact RdSl.mono (h := ⟨[], ro⟩) ((hr (X := [])).2 (t, xs) (List.mem_of_getElem? hx)) (by simp) (fun _ _ h => h)
    · exact gi ⟨rfl, [((k % N : Nat) : Int)], fun {X} hX => RdSl.row (n := 1) (vs := ints [((k % N : Nat) : Int)]) (e := e23) hX (by rw [he23]) (by rw [he23]; rfl), fun _ => rfl⟩
    rintro _ l _ ⟨rfl, xs, rl, hxs⟩
    have tl : l.len = xs.length := by
      have := (rl (X := [e23]) (by simp)).len
      rw [ints_length] at this; omega
    have hsl := oh.rows_len lopV_len (by decide)
    -- to be begun?
    have hci := hs.ci
    refine ⟨fun b h => ∃ L, h = ⟨[] ++ (L ++ [em, eh, e23]), ro⟩ ∧ ((b = false ∧ CV p c (2 * k + 1) L) ∨ (b = true ∧ xs.length = 2 ∧ k < 140 ∧ os.length < 8 ∧ ∃ (q : Nat), gI xs 0 = (q : Int) ∧ q < N ∧ (0 ≤ gI xs 1 ∧ gI xs 1 ≤ 1000) ∧ c.hL q = 0 ∧
      CV p { c with hL := upd1 c.hL q 1, hA := upd1 c.hA q (gI xs 1), hN := upd1 c.hN q (c.D c.W q + 1) } (2 * k + 1) L)), ?_, ?_⟩
    · refine VIf_eq (fun h2 => VIf_dec (fun h3 => VIf_dec (fun h4 => ?_) (fun _ => ?_)) (fun _ => ?_)) (fun _ => ?_)
      · refine idx0 (rl (by simp)) (by omega) (idx1 (rl (by simp)) (by omega) (VIf_b (fun _ => ?_) (nomatch ·)))
        have hn := S.n
        refine cv_begin [] [em, eh, e23] rfl hs (by omega) (fun L1 c' e h1 hx => ⟨_, rfl, isIfaceV_errV _, ?_⟩)
        rw [isNilV_errV, eno_isNone]
        rcases hx with ⟨hc, rfl⟩ | ⟨hc, q, hq, q4, qn, h0, a0, a1, rfl⟩
        · exact gi ⟨L1, rfl, .inl ⟨decide_eq_false hc, h1⟩⟩
        · exact gi ⟨L1, rfl, .inr ⟨decide_eq_true hc, by omega, by omega, by omega, q, hq, by omega, ⟨a0, a1⟩, h0, h1⟩⟩
      all_goals exact VIf_b (nomatch ·) (fun _ => gi ⟨L, rfl, .inl ⟨rfl, hs.up (by omega)⟩⟩)
    rintro _ b _ ⟨L1, rfl, hb⟩
    refine ⟨fun s h => ∃ L c os ms em eh, h = ⟨[] ++ (L ++ [em, eh, e23]), ro⟩ ∧ CV p c (2 * k + 1) L ∧ (xs.length = 1 → CW N k c os lin G (fun q => (gI ms q).toNat)) ∧ (xs.length ≠ 1 → CW N (k + 1) c os lin G (fun q => (gI ms q).toNat)) ∧ ms.length = N ∧ (∀ q, 0 ≤ gI ms q) ∧ (140 ≤ k → CDue N k c) ∧
      OwnsSl 1 ⟨some (Addr.mk rm 0 none), (N : Int).toNat, (N : Int).toNat⟩ em (ints ms) ∧ OwnsSl 6 s eh (os.flatMap lopV), VIf_b (fun hbt => ?_) (fun hbf => ?_), ?_⟩
    · obtain ⟨-, x2, k1, o8, q, hq, hqN, ha, h0, h1⟩ := hb.resolve_left (fun h => by rw [hbt] at h; exact absurd h.1 (by simp))
      refine idx0 (rl (by simp)) (by omega) ⟨⟨by omega, by omega⟩, in_c ⟨_, rfl, VIf_not (fun h => absurd (by omega) h) (fun _ => ?_)⟩⟩
      refine idx0 (rl (by simp)) (by omega) ?_
      rw [hq]
      refine wr_at L1 em [eh, e23] rfl om (by omega) (by dsimp only; omega) (fun em' om' _ => ?_)
      obtain ⟨b, hb⟩ := (rl (X := L1 ++ em' :: [eh, e23]) (by simp)).addr (by simp; omega)
      refine ⟨b, hb, by omega, by omega, b, hb, by omega, by omega, ⟨by omega, by omega⟩, gI xs 0, (rl (by simp)).rdi hb (gI_ex (by omega)), gI xs 1, (rl (by simp)).rdi hb (gI_ex (by omega)), ?_⟩
      rw [hq]
      refine app_row grows_ops (vs := lopV ⟨q, 0, gI xs 1, 0, 2 * k, 0⟩) rfl ⟨rfl, rfl, rfl, rfl, rfl, rfl, trivial⟩ (L1 ++ [em']) eh [e23] (by simp) oh (by omega) (fun s2 e2 o2 _ => ?_)
      rw [hsl, Int.toNat_natCast] at om'
      refine gi ⟨L1, _, os ++ [⟨q, 0, gI xs 1, 0, 2 * k, 0⟩], ms.set q os.length, em', e2, by simp, h1, fun h => absurd h (by omega), fun _ => S.begin hci hqN o8 h0 ha ?_ (fun q' _ hne => ?_), by simpa using ml, fun q' => ?_, fun h => by omega, om', by simpa [List.flatMap_append] using o2⟩
      · rw [gI_set (by omega), if_pos rfl]; simp
      · rw [gI_set (by omega), if_neg hne]
      · rw [gI_set (by omega)]
        split
        · omega
        · exact m0 q'
    · have h1 : CV p c (2 * k + 1) L1 := by
        rcases hb with ⟨_, h⟩ | ⟨h, _⟩
        · exact h
        · rw [hbf] at h; exact absurd h (by simp)
      exact gi ⟨L1, c, os, ms, em, eh, rfl, h1, fun _ => S, fun _ => S.later, ml, m0, due, om, oh⟩
    clear hs S ml m0 due om oh hsl hb hci
    rintro _ s _ ⟨L, c, os, ms, em, eh, rfl, hs, S1, S2, ml, m0, due, om, oh⟩
    have hci := hs.ci
    have hsl := oh.rows_len lopV_len (by decide)
    have fin : ∀ {L' c' os' lin' G' em' eh' s'}, CV p c' (2 * k + 2) L' → CW N (k + 1) c' os' lin' G' (fun q => (gI ms q).toNat) → (140 ≤ k → CDue N (k + 1) c') → OwnsSl 1 ⟨some (Addr.mk rm 0 none), (N : Int).toNat, (N : Int).toNat⟩ em' (ints ms) → OwnsSl 6 s' eh' (os'.flatMap lopV) →
        (In64 ((k : Int) + 1) ∧ ∃ m18, m18 < 340 - k ∧ ∃ h, Gh ⟨[] ++ (L' ++ [em', eh', e23]), ro⟩ h ∧ ∃ k' : Nat, (k : Int) + 1 = (k' : Int) ∧ k' ≤ 340 ∧ m18 = 340 - k' ∧ CrSt p rm N ro k' s' h) := by
      intro L' c' os' lin' G' em' eh' s' a b c d e
      refine ⟨⟨by omega, by omega⟩, 340 - (k + 1), by omega, ⟨[] ++ (L' ++ [em', eh']), ro⟩, Gh.drop (by simp), k + 1, by omega, by omega, rfl, L', c', os', lin', G', ms, em', eh', a.up (by omega), b, ml, m0, fun h => ?_, rfl, d, e⟩
      by_cases hk3 : 140 ≤ k
      · exact c hk3
      · exact CDue.start a.ci b.n (by omega)
    refine join_b (h := ⟨[] ++ (L ++ [em, eh, e23]), ro⟩) (decide (xs.length = 1 ∧ (0 ≤ gI xs 0 ∧ gI xs 0 ≤ (N : Int) - 1))) (VIf_eq (fun h1 => idx0 (rl (by simp)) (by omega) ⟨⟨by omega, by omega⟩, in_c ⟨_, rfl, gi ⟨rfl, ?_⟩⟩⟩) (fun h1 => gi ⟨rfl, (decide_eq_false (fun h => h1 (by omega))).symm⟩)) ?_
    · exact decide_eq_decide.2 ⟨fun h => ⟨by omega, h⟩, fun h => h.2⟩
    refine VIf_dec (fun hc => ?_) (fun hc => ?_)
    rotate_left
    · have hk3 : k < 140 := Nat.lt_of_not_le fun h => hc (by
        rw [hxs h]
        have := Nat.mod_lt k (show 0 < N by omega)
        refine ⟨rfl, ?_⟩
        show 0 ≤ ((k % N : Nat) : Int) ∧ ((k % N : Nat) : Int) ≤ (N : Int) - 1
        omega)
      by_cases hx1 : xs.length = 1
      · exact fin (hs.up (by omega)) (S1 hx1).later (fun h => by omega) om oh
      · exact fin (hs.up (by omega)) (S2 hx1) (fun h => by omega) om oh
    obtain ⟨hx1, q0, q1⟩ := hc
    obtain ⟨q, hq⟩ : ∃ q : Nat, gI xs 0 = (q : Int) := ⟨(gI xs 0).toNat, by omega⟩
    have hqN : q < N := by omega
    have S := S1 hx1
    have hkq : 140 ≤ k → k % N = q := fun h => by
      have := hxs h
      rw [this] at hq
      have : ((k % N : Nat) : Int) = (q : Int) := hq
      omega
    refine idx0 (rl (by simp)) (by omega) ?_
    rw [hq]
    have hqq : ∀ {q' : Nat}, (q : Int) = (q' : Int) → q = q' := fun h => by omega
    refine cv_stepG [] [em, eh, e23] rfl hs (by omega) (fun L1 c' b g e h1 hx => ⟨_, _, _, rfl, ?_⟩)
    have h1 : CV p c' (2 * k + 2) L1 := h1.up (by omega)
    rcases hx with ⟨he, rfl, rfl, rfl, hi0⟩ | ⟨rfl, q', hq', q4, qn, h0, hl, hG⟩
    · exact join_b (h := ⟨[] ++ (L1 ++ [em, eh, e23]), ro⟩) false (VIf_err (fun h => absurd h he) (fun _ => gi ⟨rfl, rfl⟩)) (VIf_b (nomatch ·) (fun _ => fin h1 S.later (fun h => (due h).idle (by omega) (by omega) (by rw [hkq h]; exact hi0 q rfl (by have := S.n; omega))) om oh))
    obtain rfl := hqq hq'
    have hdue : 140 ≤ k → CDue N (k + 1) c' := fun h => (due h).turn hci (by rw [show (2 * (k : Int) + 1 + 1) = 2 * k + 2 by omega]; exact h1.ci) S.n (hkq h) (hl.move hci q4)
    rcases S.step hci q4 hqN h0 hl hG with ⟨rfl, lin', G', S'⟩ | ⟨rfl, o, ho, S'⟩
    · exact join_b (h := ⟨[] ++ (L1 ++ [em, eh, e23]), ro⟩) false (VIf_nil (gi ⟨rfl, rfl⟩)) (VIf_b (nomatch ·) (fun _ => fin h1 S' hdue om oh))
    refine join_b (h := ⟨[] ++ (L1 ++ [em, eh, e23]), ro⟩) true (VIf_nil (gi ⟨rfl, rfl⟩)) (VIf_b (fun _ => ?_) (nomatch ·))
    have hol := (List.getElem?_eq_some_iff.1 ho).1
    have mq := m0 q
    have rm' : ∀ {X : List Ent}, RdSl ⟨[] ++ (L1 ++ (em :: X)), ro⟩ ⟨some (Addr.mk rm 0 none), (N : Int).toNat, (N : Int).toNat⟩ (ints ms) := fun {X} => RdSl.of_own (e := em) (by simp) om
    refine idx0 (rl (by simp)) (by omega) ?_
    rw [hq]
    refine idxI rm' (by omega) (by omega) (VIf_dec (fun h => absurd h (by rw [Int.toNat_natCast]; omega)) (fun _ => ?_))
    refine idx0 (rl (by simp)) (by omega) ?_
    rw [hq]
    refine idxI rm' (by omega) (by omega) ?_
    rw [Int.toNat_natCast]
    obtain ⟨b2, hb2⟩ : ∃ b2, s.a = some b2 := by
      rcases oh with ⟨h1, h2, _⟩ | ⟨b, off, h1, _⟩
      · omega
      · exact ⟨_, h1⟩
    refine ⟨b2, hb2, mq, by omega, wr_row lopV_len (by decide) (x' := { o with got := g }) (L1 ++ [em]) eh [e23] (by simp) oh ho hb2 (by simp) rfl ⟨rfl, trivial⟩ (fun e3 o3 _ => ?_)⟩
    refine idx0 (rl (by simp)) (by omega) ?_
    rw [hq]
    refine idxI (RdSl.of_own (e := em) (by simp) om) (by omega) (by omega) ⟨⟨by omega, by omega⟩, ⟨by omega, by omega⟩, ?_⟩
    rw [Int.toNat_natCast]
    have hx3 : (os.set (gI ms q).toNat { o with got := g })[(gI ms q).toNat]? = some { o with got := g } := List.getElem?_set_self hol
    refine ⟨b2, hb2, mq, by omega, wr_row lopV_len (by decide) (x' := { o with got := g, too := 2 * k + 1 }) (L1 ++ [em]) e3 [e23] (by simp) o3 hx3 hb2 (by simp) rfl ⟨rfl, trivial⟩ (fun e4 o4 _ => ?_)⟩
    rw [List.set_set] at o4
    have := fin h1 S' hdue om o4
    simpa using this
  rintro _ s _ ⟨L, c, os, lin, G, ms, em, eh, hs, S, ml, m0, due, rfl, om, oh⟩
  have nb : ∀ q, q < N → ¬ (c.hL q ≠ 0) := fun q hq h0 => h0 ((due (by omega)).done q (by omega))
  obtain ⟨hok, hl⟩ := S.H.done (by omega) (by omega) (by omega) nb
  refine SemCall.frz (L ++ [em]) eh [] (by simp) oh (fun ro3 m3 r3 => lin_row_c r3 oh.cap_le (fun hc => absurd (lcheck_zero.2 hok) hc) (fun _ hn => by obtain ⟨l, hl⟩ := hl; rw [hl] at hn; cases hn) (fun l s' e' _ _ o' => ⟨true, s', none, rfl, ?_⟩))
  exact join_b (h := ⟨L ++ [em] ++ [] ++ [e'], ro3⟩) true (VIf_nil (gi ⟨rfl, rfl⟩)) (ret (hpost _))
end Go.Proofs.Ytockhbbpcbcenaa
