import Derived.Test.YtiaopgnnibidlaaDm
import Derived.Test.YtiaopgnnibidlaaEngJ
namespace Go.Proofs.Ytiaopgnnibidlaa
open Go.Eng
set_option maxRecDepth 20000
theorem dineKnot_c {n : Int} {st : SV} {rows : List (SV × List Int)} {ro : Addr → Option Value} {post : Value → H → Prop} (hr : RdRowsOf ⟨[], ro⟩ st rows) (hpost : ∀ h, post (.bool true) h) :
    SemCall Try.prog 4 (List.toArray [.int .i64 n, .slice st.a st.len st.cap]) ⟨[], ro⟩ post := by
  refine f4_call _ _ _ post ?_
  refine dine_fact_c ⟨_, rfl, VIf_nb (nomatch ·) (fun _ => ?_)⟩
  obtain ⟨T, hT⟩ : ∃ T, T = tHaps (tab0 n.toNat) rows := ⟨_, rfl⟩
  refine ⟨fun _ => False, ⟨fun m k h => ∃ k' : Nat, k = (k' : Int) ∧ k' ≤ 6 ∧ m = 6 - k' ∧ h = ⟨[], ro⟩ ∧ (0 < k' → 3 ≤ n ∧ n ≤ 6 ∧ (∀ j, j < n.toNat → T.g j ≠ 2) ∧ ∃ j, j < n.toNat ∧ T.g j = 1) ∧ ∀ j : Nat, j < k' → (tStep T (j : Int)).2.1 = false, ⟨6, gi ⟨0, rfl, by omega, rfl, rfl, fun h => absurd h (by omega), fun j hj => absurd hj (by omega)⟩⟩, ?_⟩, fun _ _ h => h.elim⟩
  rintro m _ k h ⟨k, rfl, hk6, rfl, rfl, hK, hD⟩
  refine VIf_dec (fun hk => ?_) (fun hk => gi ?_)
  · have hk : (k : Int) < 6 := hk
    refine ⟨fun h => ∃ L, h = ⟨L, ro⟩ ∧ (3 ≤ n ∧ n ≤ 6 ∧ (∀ j, j < n.toNat → T.g j ≠ 2) ∧ ∃ j, j < n.toNat ∧ T.g j = 1) ∧ (tStep T (k : Int)).2.1 = false, ?_, ?_⟩
    · refine tab_new_c (fun hc => ⟨_, _, rfl, VIf_nerr (fun _ => ?_) (nomatch ·)⟩) (fun p L hs n3 n6 => ⟨_, none, rfl, VIf_nnil ?_⟩)
      · exact join_or (ret (by rw [decide_eq_true (show n < 3 ∨ n > 6 by omega)]; exact hpost _))
      have hti := (TI.start (n := n.toNat) (by omega) (by omega)).haps rows
      rw [← hT] at hti
      obtain ⟨hti, htn⟩ := hti
      have htn : T.n = n.toNat := htn
      refine happens_c [] [] (by simp) hs hr (fun L1 h1 => ⟨rfl, ?_⟩)
      rw [← hT] at h1
      refine ⟨fun b h => h = ⟨[] ++ (L1 ++ []), ro⟩ ∧ (∀ j, j < n.toNat → T.g j ≠ 2) ∧ (b = true → ∃ j, j < n.toNat ∧ T.g j = 1), ⟨fun m b g h => ∃ g' : Nat, g = (g' : Int) ∧ (g' : Int) ≤ n ∧ m = n.toNat - g' ∧ h = ⟨[] ++ (L1 ++ []), ro⟩ ∧ (∀ j, j < g' → T.g j ≠ 2) ∧ (b = true → ∃ j, j < n.toNat ∧ T.g j = 1), ⟨_, gi ⟨0, rfl, by omega, rfl, rfl, fun j hj => absurd hj (by omega), fun h => nomatch h⟩⟩, ?_⟩, ?_⟩
      · rintro m _ b g h ⟨g, rfl, hgn, rfl, rfl, h2, hb⟩
        refine VIf_dec (fun hg => ?_) (fun hg => gi ⟨rfl, fun j hj => h2 j (by omega), hb⟩)
        have hg : (g : Int) < n := hg
        have ex : (if 0 ≤ (g : Int) ∧ (g : Int) ≤ (T.n : Int) - 1 then T.g (g : Int).toNat else -1) = T.g g := by rw [if_pos (by omega), Int.toNat_natCast]
        refine tab_guest_c h1 (fun _ h => by simp [h]) ⟨_, rfl, ?_⟩
        rw [ex]
        refine VIf_eq (fun _ => ret (hpost _)) (fun hg2 => ?_)
        have h2' : ∀ j, j < g + 1 → T.g j ≠ 2 := fun j hj => by
          by_cases e : j = g
          · subst e; exact hg2
          · exact h2 j (by omega)
        refine ⟨fun b h => h = ⟨[] ++ (L1 ++ []), ro⟩ ∧ (b = true → ∃ j, j < n.toNat ∧ T.g j = 1), VIf_b (fun hb1 => gi ⟨rfl, fun _ => hb hb1⟩) (fun _ => ?_), ?_⟩
        · refine tab_guest_c h1 (fun _ h => by simp [h]) ⟨_, rfl, gi ⟨rfl, ?_⟩⟩
          rw [ex]
          exact fun h => ⟨g, by omega, by simpa using h⟩
        · rintro _ b h ⟨rfl, hb⟩
          refine ⟨⟨by omega, by omega⟩, _, ?_, gi ⟨g + 1, rfl, by omega, rfl, rfl, h2', hb⟩⟩
          omega
      rintro _ b h ⟨rfl, h2, hb⟩
      refine VIf_nb (fun _ => ret (hpost _)) (fun hb1 => ?_)
      refine tab_step_c [] [] rfl h1 (fun L2 _ => ⟨_, _, rfl, VIf_b (fun _ => ret (hpost _)) (fun hd => gi ⟨_, rfl, ⟨n3, n6, h2, hb hb1⟩, hd⟩)⟩)
    · rintro _ h ⟨L, rfl, hX, hd⟩
      refine ⟨⟨by omega, by omega⟩, _, ?_, ⟨[], ro⟩, Gh.drop (by simp), k + 1, rfl, by omega, rfl, rfl, fun _ => hX, fun j hj => ?_⟩
      · omega
      · by_cases e : j = k
        · subst e; exact hd
        · exact hD j (by omega)
  · obtain rfl : k = 6 := by omega
    obtain ⟨n3, n6, h2, h1⟩ := hK (by omega)
    have hti := (TI.start (n := n.toNat) (by omega) (by omega)).haps rows
    rw [← hT] at hti
    obtain ⟨hti, htn⟩ := hti
    have htn : T.n = n.toNat := htn
    obtain ⟨k, hk, hd⟩ := hti.goes (fun k hk => h2 k (by omega)) (by obtain ⟨j, a, b⟩ := h1; exact ⟨j, by omega, b⟩)
    have := hD k (by omega)
    rw [tStep, if_neg (by omega)] at this
    simp only [Int.toNat_natCast] at this
    rw [hd] at this
    cases this
theorem rows_one {h : H} {s : SV} {rows : List (SV × List Int)} (r : RdRowsOf h s rows) (hcap : s.len ≤ s.cap) {k : Nat} {x : SV × List Int} (hx : rows[k]? = some x) {len cap : Nat} (hl : len = 1) :
    RdRowsOf h ⟨if s.cap = k then s.a else Option.map (fun z => Addr.add z (k * 1)) s.a, len, cap⟩ [x] := by
  subst hl
  have hlen := r.1.len
  rw [List.length_map] at hlen
  have hk : k < rows.length := (List.getElem?_eq_some_iff.1 hx).1
  obtain ⟨b, hb⟩ := r.1.addr (by rw [List.length_map]; omega)
  refine ⟨⟨rfl, fun hn => ?_, fun b' hb' i v hv => ?_⟩, fun y hy => ?_⟩
  · simp only at hn
    rw [if_neg (by omega), hb] at hn
    cases hn
  · simp only at hb'
    rw [if_neg (by omega), hb] at hb'
    cases hb'
    cases i with
    | zero =>
      rw [Addr.add_zero', Nat.mul_one]
      refine r.1.get hb (i := k) ?_
      rw [List.getElem?_map, hx]
      simpa using hv
    | succ i => simp at hv
  · simp at hy
    subst hy
    exact r.2 _ (List.mem_of_getElem? hx)
open Go.ChangeShapes Go.WideShapes Go.ChangeAt Go.RowKit Go.WideElems Go.Deep in
theorem rows_cap {P : Program} {K : Type} {enc : TypeId × Value → K} {W : World} {t e q : TypeId} {s : SV} {d : DataW K} {ps : List MemPlace} (ht : P.underlying t = some (.slice e)) (he : P.underlying e = some (.slice q)) (hq : P.underlying q = some (.int .i64)) (ce : P.cellsOf e = 1) (cq : P.cellsOf q = 1) (h : DataW.Trod enc P W 0 (fun _ => true) true t (.slice s.a s.len s.cap) d ps) : s.len ≤ s.cap := by
  obtain ⟨fuel, hf⟩ := h
  have hcs0 : (Value.slice s.a s.len s.cap).cells.toList = [.slice s.a s.len s.cap] := rfl
  rcases open_int_rows ht he hq ce cq hf with ⟨hcs, hx⟩ | ⟨a, len', cap', A, L, C, Z, hcs, _, hl, hm, hx, hr⟩
  · rw [hcs0] at hcs
    injection hcs with h1 _
    injection h1 with h1 h2 h3
    omega
  · rw [hcs0] at hcs
    injection hcs with h1 _
    injection h1 with h1 h2 h3
    omega
set_option maxHeartbeats 1000000 in
theorem dineApart_c {n : Int} {st : SV} {rows : List (SV × List Int)} {ro : Addr → Option Value} {post : Value → H → Prop} (hr : RdRowsOf ⟨[], ro⟩ st rows) (hcap : st.len ≤ st.cap) (hpost : ∀ h, post (.bool true) h) :
    SemCall Try.prog 5 (List.toArray [.int .i64 n, .slice st.a st.len st.cap]) ⟨[], ro⟩ post := by
  refine f5_call _ _ _ post ?_
  refine dine_fact_c ⟨_, rfl, VIf_nb (nomatch ·) (fun _ => ?_)⟩
  refine tab_new_c (fun hc => ⟨_, _, rfl, VIf_nerr (fun _ => ?_) (nomatch ·)⟩) (fun p L hs n3 n6 => ⟨_, none, rfl, VIf_nnil ?_⟩)
  · exact join_or (ret (by rw [decide_eq_true (show n < 3 ∨ n > 6 by omega)]; exact hpost _))
  have hlen := hr.1.len
  rw [List.length_map] at hlen
  obtain ⟨N, rfl⟩ : ∃ N : Nat, n = (N : Int) := ⟨n.toNat, by omega⟩
  simp only [Int.toNat_natCast] at hs
  have N3 : 3 ≤ N := by omega
  have N6 : N ≤ 6 := by omega
  refine ⟨fun _ => True, ⟨fun m i h => ∃ (i' : Nat) (L : List Ent) (t : TS), i = (i' : Int) ∧ i' ≤ 150 ∧ m = 150 - i' ∧ h = ⟨L, ro⟩ ∧ TabAt p t L ∧ TI t ∧ t.n = N, ⟨150, gi ⟨0, L, tab0 N, rfl, by omega, rfl, rfl, hs, TI.start N3 N6, rfl⟩⟩, ?_⟩, fun _ h _ => ret (hpost h)⟩
  clear hs
  rintro m _ i h ⟨i, L, t, rfl, hi1, rfl, rfl, hs, hti, htn⟩
  refine join_and (VIf_dec (fun hi => ?_) (fun _ => gi trivial))
  have hi2 : (i : Int) < 150 := hi.2
  refine ⟨fun h => ∃ L t, h = ⟨L, ro⟩ ∧ TabAt p t L ∧ TI t ∧ t.n = N, ?_, ?_⟩
  · refine ⟨fun h => ∃ L t, h = ⟨[] ++ (L ++ []), ro⟩ ∧ TabAt p t L ∧ TI t ∧ t.n = N, VIf_dec (fun h0 => ?_) (fun _ => gi ⟨L, t, by simp, hs, hti, htn⟩), ?_⟩
    · have hil : i ≤ st.len := by have := hi.1; omega
      obtain ⟨x, hx⟩ : ∃ x, rows[i - 1]? = some x := ⟨_, List.getElem?_eq_getElem (by omega)⟩
      refine ⟨⟨by omega, by omega⟩, by omega, by omega, by omega, by omega, ?_⟩
      rw [show ((i : Int) - 1).toNat = i - 1 by omega, Int.toNat_natCast]
      have hone := rows_one hr hcap hx (len := i - (i - 1)) (cap := st.cap - (i - 1)) (by omega)
      refine happens_c (st := ⟨if st.cap = i - 1 then st.a else Option.map (fun z => Addr.add z ((i - 1) * 1)) st.a, i - (i - 1), st.cap - (i - 1)⟩) [] [] (by simp) hs hone (fun L1 h1 => ⟨rfl, gi ⟨L1, tHaps t [x], rfl, h1, (hti.haps [x]).1, by rw [(hti.haps [x]).2]; exact htn⟩⟩)
    clear hs hti htn
    rintro _ h ⟨L, t, rfl, hs, hti, htn⟩
    refine tab_forks_c hs (fun _ h => by simp [h]) (fun sw sd ew ed ow od => ⟨sw, sd, rfl, ?_⟩)
    have lw := ow.sl_len; have ld := od.sl_len
    rw [ints_length, rm_len] at lw
    rw [List.length_map, rm_len] at ld
    have hrw : RdSl ⟨[] ++ (L ++ []) ++ [ew, ed], ro⟩ sw (ints (rm t.n fun k => (t.w k : Int))) := RdSl.of_own (e := ew) (by simp) ow
    have hrd : RdSl ⟨[] ++ (L ++ []) ++ [ew, ed], ro⟩ sd ((rm t.n t.d).map bV) := RdSl.of_own (e := ed) (by simp) od
    refine join_b (h := ⟨[] ++ (L ++ []) ++ [ew, ed], ro⟩) false (VIf_ne (fun h => absurd (by omega) h) (fun _ => gi ⟨rfl, ?_⟩)) (VIf_b (nomatch ·) (fun _ => ?_))
    · exact bne_eq_false_iff_eq.2 (by omega)
    have gk : ∀ {k : Nat} {post : Value → H → Prop}, k < N → post (.int .i64 (t.g k)) ⟨[] ++ (L ++ []) ++ [ew, ed], ro⟩ → SemCall Try.prog 11 (List.toArray [.pointer (some (Addr.mk p 0 none)), .int .i64 (k : Int)]) ⟨[] ++ (L ++ []) ++ [ew, ed], ro⟩ post := fun {k post} hk hp => by
      refine tab_guest_c hs (fun _ h => by simp [h]) ?_
      rw [if_pos (by omega), Int.toNat_natCast]; exact hp
    have wk : ∀ {k : Nat} {K : Int → Prop}, k < N → K (t.w k : Int) → ∃ b : Addr, sw.a = some b ∧ 0 ≤ (k : Int) ∧ (k : Int) < ((sw.len : Nat) : Int) ∧ ∃ x : Int, H.rd ⟨[] ++ (L ++ []) ++ [ew, ed], ro⟩ (Addr.add (Addr.add b ((k : Int).toNat * 1)) 0) (Value.int .i64 x) ∧ K x := fun {k K} hk hK =>
      hrw.idx (by omega) (by omega) fun x hx => by
        rw [Int.toNat_natCast, rm_get _ (by omega)] at hx; cases hx; exact hK
    have dk : ∀ {k : Nat} {K : Bool → Prop}, k < N → K (t.d k) → ∃ b : Addr, sd.a = some b ∧ 0 ≤ (k : Int) ∧ (k : Int) < ((sd.len : Nat) : Int) ∧ ∃ x : Bool, H.rd ⟨[] ++ (L ++ []) ++ [ew, ed], ro⟩ (Addr.add (Addr.add b ((k : Int).toNat * 1)) 0) (bV x) ∧ K x := fun {k K} hk hK =>
      hrd.idxM (by omega) (by omega) fun x hx => by
        rw [Int.toNat_natCast, rm_get _ (by omega)] at hx; cases hx; exact hK
    refine ⟨fun h => h = ⟨[] ++ (L ++ []) ++ [ew, ed], ro⟩, ⟨fun m k h => ∃ k' : Nat, k = (k' : Int) ∧ k' ≤ N ∧ m = N - k' ∧ h = ⟨[] ++ (L ++ []) ++ [ew, ed], ro⟩, ⟨_, gi ⟨0, rfl, by omega, rfl, rfl⟩⟩, ?_⟩, ?_⟩
    · rintro m _ k h ⟨k, rfl, hk1, rfl, rfl⟩
      refine VIf_dec (fun hk => ?_) (fun _ => gi rfl)
      have hk : k < N := by have : (k : Int) < N := hk; omega
      have RF := ring_facts hti.n3 hti.n6 (i := k) (by omega)
      rw [htn] at RF
      obtain ⟨r1, r2, r3, r4, r5⟩ := RF
      have hnl : nxt N k < N := nxt_lt N3
      have hpl : prv N k < N := prv_lt N3
      have en : Int.tmod ((k : Int) + 1) (N : Int) = ((nxt N k : Nat) : Int) := by rw [show (k : Int) + 1 = ((k + 1 : Nat) : Int) by omega]; rfl
      have ep : Int.tmod ((k : Int) + (N : Int) - 1) (N : Int) = ((prv N k : Nat) : Int) := by rw [show (k : Int) + (N : Int) - 1 = ((k + N - 1 : Nat) : Int) by omega]; rfl
      refine ⟨⟨by omega, by omega⟩, by omega, join_b (h := ⟨[] ++ (L ++ []) ++ [ew, ed], ro⟩) false ?_ (VIf_b (nomatch ·) (fun _ => ?_))⟩
      · refine gk hk ⟨_, rfl, VIf_eq (fun h2 => ?_) (fun _ => gi ⟨rfl, rfl⟩)⟩
        obtain ⟨x1, x2, x3, x4⟩ := hti.e k (by omega) h2
        rw [htn] at x3 x4
        rw [en]
        refine gk hnl ⟨_, rfl, VIf_eq (fun h3 => ?_) (fun _ => ?_)⟩
        · obtain ⟨_, _, y3, _⟩ := hti.e (nxt N k) (by omega) h3
          rw [htn, r2] at y3
          omega
        refine wk hk (VIf_ne (fun h => absurd (by omega) h) (fun _ => ?_))
        rw [ep]
        refine ⟨⟨by omega, by omega⟩, ⟨by omega, by omega⟩, by omega, wk hpl (gi ⟨rfl, ?_⟩)⟩
        exact bne_eq_false_iff_eq.2 (by omega)
      · have hd : ∀ {R : Bool → H → Prop}, (∀ b, b = false → R b ⟨[] ++ (L ++ []) ++ [ew, ed], ro⟩) → VIf (!(t.d k)) (∃ b82 : Addr, sw.a = some b82 ∧ 0 ≤ (k : Int) ∧ (k : Int) < ((sw.len : Nat) : Int) ∧
            ∃ x83 : Int, H.rd ⟨[] ++ (L ++ []) ++ [ew, ed], ro⟩ (Addr.add (Addr.add b82 ((k : Int).toNat * 1)) 0) (Value.int .i64 x83) ∧
            SemCall Try.prog 11 (List.toArray [(Value.pointer (some (Addr.mk p 0 none))), (Value.int .i64 x83)]) ⟨[] ++ (L ++ []) ++ [ew, ed], ro⟩ fun v84 h85 =>
            ∃ x86 : Int, v84 = (Value.int .i64 x86) ∧ (∃ h87, Gh h85 h87 ∧ R (x86 != (1 : Int)) h87)) (∃ h88, Gh ⟨[] ++ (L ++ []) ++ [ew, ed], ro⟩ h88 ∧ R false h88) := fun {R} hR =>
          VIf_nb (fun hdf => wk hk (gk (by rcases hti.w k (by omega) with e | e <;> rw [e] <;> (try rw [htn]) <;> omega) ⟨_, rfl, gi (hR _ (bne_eq_false_iff_eq.2 (hti.c k (by omega) hdf)))⟩)) (fun _ => gi (hR _ rfl))
        refine join_b (h := ⟨[] ++ (L ++ []) ++ [ew, ed], ro⟩) false (wk hk (VIf_ne (fun hne => ?_) (fun _ => ?_))) (VIf_b (nomatch ·) (fun _ => ⟨⟨by omega, by omega⟩, _, ?_, gi ⟨k + 1, rfl, by omega, rfl, rfl⟩⟩))
        · rw [en]
          refine wk hk (VIf_ne (fun h => ?_) (fun _ => ?_))
          · rcases hti.w k (by omega) with e | e
            · exact absurd (by omega) hne
            · rw [htn] at e; exact absurd (by omega) h
          · exact dk hk (hd (R := fun x h' => h' = ⟨[] ++ (L ++ []) ++ [ew, ed], ro⟩ ∧ x = false) fun b hb => ⟨rfl, hb⟩)
        · exact dk hk (hd (R := fun x h' => h' = ⟨[] ++ (L ++ []) ++ [ew, ed], ro⟩ ∧ x = false) fun b hb => ⟨rfl, hb⟩)
        · omega
    · rintro _ h rfl
      exact ⟨⟨L, ro⟩, Gh.drop (by simp), L, t, rfl, hs, hti, htn⟩
  · rintro _ h ⟨L, t, rfl, hs, hti, htn⟩
    refine ⟨⟨by omega, by omega⟩, _, ?_, gi ⟨i + 1, L, t, rfl, by omega, rfl, rfl, hs, hti, htn⟩⟩
    omega
end Go.Proofs.Ytiaopgnnibidlaa
