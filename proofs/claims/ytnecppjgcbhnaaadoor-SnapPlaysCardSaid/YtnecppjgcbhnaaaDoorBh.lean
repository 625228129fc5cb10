import Derived.Test.YtnecppjgcbhnaaaDoorBg
import Derived.Test.YtnecppjgcbhnaaaDoorEngJ
import Derived.Test.YtnecppjgcbhnaaaDoorEngL
namespace Go.Proofs.YtnecppjgcbhnaaaDoor
open Go.Eng
set_option maxRecDepth 20000
def rm {α : Type} (n : Nat) (f : Nat → α) : List α := (List.range n).map f
theorem rm_len {α : Type} (n : Nat) (f : Nat → α) : (rm n f).length = n := by simp [rm]
theorem rm_get {α : Type} {n k : Nat} (f : Nat → α) (h : k < n) : (rm n f)[k]? = some (f k) := by simp [rm, h]
theorem rm_succ {α : Type} (n : Nat) (f : Nat → α) : rm (n + 1) f = rm n f ++ [f n] := by simp [rm, List.range_succ]
def updN {α : Type} (f : Nat → α) (q : Nat) (v : α) : Nat → α := fun p => if p = q then v else f p
theorem updN_same {α : Type} (f : Nat → α) (q : Nat) (v : α) : updN f q v q = v := if_pos rfl
theorem updN_ne {α : Type} {f : Nat → α} {q p : Nat} {v : α} (h : p ≠ q) : updN f q v p = f p := if_neg h
theorem rm_set {α : Type} (n k : Nat) (f : Nat → α) (v : α) : (rm n f).set k v = rm n (updN f k v) := by
  refine List.ext_getElem? fun i => ?_
  by_cases hi : i < n
  · rw [rm_get _ hi]
    by_cases hk : k = i
    · subst hk; rw [List.getElem?_set_self (by rw [rm_len]; exact hi), updN_same]
    · rw [List.getElem?_set_ne hk, rm_get _ hi, updN_ne (Ne.symm hk)]
  · rw [List.getElem?_eq_none (by simp [rm_len]; omega), List.getElem?_eq_none (by simp [rm_len]; omega)]
theorem updN_cases {α : Type} {f : Nat → α} {q : Nat} {v : α} (p : Nat) : (p = q ∧ updN f q v p = v) ∨ (p ≠ q ∧ updN f q v p = f p) := by
  by_cases h : p = q
  · subst h; exact .inl ⟨rfl, updN_same _ _ _⟩
  · exact .inr ⟨h, updN_ne h⟩
theorem gI_rm {n k : Nat} {f : Nat → Int} (h : k < n) : gI (rm n f) k = f k := by unfold gI; rw [rm_get _ h]; rfl
theorem rm_spl {n o : Nat} {f : Nat → Int} {vs : List Int} (h : o + vs.length ≤ n) : splI (rm n f) o vs = rm n fun k => if o ≤ k ∧ k < o + vs.length then gI vs (k - o) else f k := by
  refine List.ext_getElem? fun k => ?_
  have hl : (splI (rm n f) o vs).length = n := by rw [splI_length (by rw [rm_len]; exact h), rm_len]
  by_cases hk : k < n
  · rw [rm_get _ hk]
    have e := gI_spl (m := rm n f) (vs := vs) (o := o) (by rw [rm_len]; exact h) k
    rw [gI_rm hk] at e
    unfold gI at e
    rw [List.getElem?_eq_getElem (by omega)] at e ⊢
    exact congrArg some e
  · rw [List.getElem?_eq_none (by omega), List.getElem?_eq_none (by rw [rm_len]; omega)]
theorem idxI {h : H} {s : SV} {xs : List Int} (r : RdSl h s (ints xs)) {i : Int} (h0 : 0 ≤ i) (h1 : i < (xs.length : Int)) {K : Int → Prop} (hK : K (gI xs i.toNat)) :
    ∃ b : Addr, s.a = some b ∧ 0 ≤ i ∧ i < ((s.len : Nat) : Int) ∧ ∃ x : Int, H.rd h (Addr.add (Addr.add b (i.toNat * 1)) 0) (Value.int .i64 x) ∧ K x := by
  have hl := r.len
  rw [ints_length] at hl
  refine r.idx h0 (by omega) fun x hx => ?_
  have : gI xs i.toNat = x := by unfold gI; rw [hx]; rfl
  rw [← this]; exact hK
theorem idx0 {h : H} {s : SV} {xs : List Int} (r : RdSl h s (ints xs)) (h1 : 0 < xs.length) {K : Int → Prop} (hK : K (gI xs 0)) :
    ∃ b : Addr, s.a = some b ∧ 0 ≤ (0 : Int) ∧ (0 : Int) < ((s.len : Nat) : Int) ∧ ∃ x : Int, H.rd h (Addr.add (Addr.add b ((0 : Int).toNat * 1)) 0) (Value.int .i64 x) ∧ K x := idxI r (by omega) (by omega) hK
theorem idx1 {h : H} {s : SV} {xs : List Int} (r : RdSl h s (ints xs)) (h1 : 1 < xs.length) {K : Int → Prop} (hK : K (gI xs 1)) :
    ∃ b : Addr, s.a = some b ∧ 0 ≤ (1 : Int) ∧ (1 : Int) < ((s.len : Nat) : Int) ∧ ∃ x : Int, H.rd h (Addr.add (Addr.add b ((1 : Int).toNat * 1)) 0) (Value.int .i64 x) ∧ K x := idxI r (by omega) (by omega) hK
theorem gI_of {m : List Int} {k : Nat} {x : Int} (h : m[k]? = some x) : gI m k = x := by unfold gI; rw [h]; rfl
theorem gI_ex {m : List Int} {k : Nat} (h : k < m.length) : m[k]? = some (gI m k) := by unfold gI; rw [List.getElem?_eq_getElem h]; rfl
/-! ### the law of the document's board -/
def StB (p r n : Nat) (ro : Addr → Option Value) (i : Int) (h : H) : Prop :=
  ∃ (L : List Ent) (b : Board) (S : BS) (ro' : Addr → Option Value), h = ⟨L ++ [bsE r S], ro'⟩ ∧ (∀ a v, ro a = some v → ro' a = some v) ∧ BdR ro' n b S ∧ BoardAt p b L ro' ∧ SInv b n i
theorem rows_up {ro ro' : Addr → Option Value} {st : SV} {rows : List (SV × List Int)} (hr : RdRowsOf ⟨[], ro⟩ st rows) (h : ∀ a v, ro a = some v → ro' a = some v) {own : List Ent} : RdRowsOf ⟨own, ro'⟩ st rows := hr.mono (by simp) h
theorem StB.mono {p r n : Nat} {ro : Addr → Option Value} {i : Int} {h : H} (s : StB p r n ro i h) : StB p r n ro (i + 1) h := by
  obtain ⟨L, b, S, ro', h1, h2, h3, h4, h5⟩ := s
  exact ⟨L, b, S, ro', h1, h2, h3, h4, h5.mono⟩
set_option maxHeartbeats 4000000 in
theorem snapPlays_c {n : Int} {st : SV} {rows : List (SV × List Int)} {ro : Addr → Option Value} {post : Value → H → Prop} (hG : HasErrT ro) (hr : RdRowsOf ⟨[], ro⟩ st rows) (hpost : ∀ h, post (.bool true) h) :
    SemCall Tryd.prog 5 (List.toArray [.int .i64 n, .slice st.a st.len st.cap]) ⟨[], ro⟩ post := by
  refine f5_call _ _ _ post ?_
  refine board_new_c (fun hc => ⟨_, _, rfl, join_or ?_⟩) (fun p L ro00 hm00 hs c0 c1 => ⟨_, none, rfl, join_or ?_⟩)
  · rw [show decide (n < 1 ∨ n > 4) = true from decide_eq_true (by omega)]
    exact VIf_b (fun _ => same_error_c hG ⟨_, rfl, ret (hpost _)⟩) (nomatch ·)
  rw [show decide (n < 1 ∨ n > 4) = false from decide_eq_false (by omega)]
  obtain ⟨N0, rfl⟩ : ∃ N : Nat, n = (N : Int) := ⟨n.toNat, by omega⟩
  rw [Int.toNat_natCast] at hs
  have hN1 : 1 ≤ N0 := by omega
  have hN4 : N0 ≤ 4 := by omega
  refine VIf_b (nomatch ·) (fun _ => VIf_nnil (ref_bnew_c hN4 (fun S ro0 hm0 hT0 => ⟨S.W, S.A, S.V, S.R, S.F, S.L, S.M, S.S, rfl, ?_⟩)))
  rw [List.nil_append]
  intro r _
  refine bd_put (r := r) (a0 := S.W) (a1 := S.A) (a2 := S.V) (a3 := S.R) (a4 := S.F) (a5 := S.L) (a6 := S.M) (a7 := S.S) (z0 := zV) (z1 := zV) (z2 := zV) (z3 := zV) (z4 := zV) (z5 := zV) (z6 := zV) (z7 := zV) L [] rfl ?_
  refine ⟨fun h => StB p r N0 ro 300 h, ⟨fun m i h => StB p r N0 ro i h ∧ 0 ≤ i ∧ i ≤ 300 ∧ m = (300 - i).toNat, ⟨300, gi ⟨⟨L, b0 N0, S, ro0, rfl, fun a v h => hm0 a v (hm00 a v h), hT0, hs.up hm0, SInv.start hN1 hN4⟩, by omega, by omega, rfl⟩⟩, ?_⟩, ?_⟩
  rotate_left
  · rintro _ _ ⟨L, b, S, ro', rfl, hm, hT, hs, I⟩
    have hbl := I.h
    refine ⟨fun x h => x = true, ?_, fun _ x h hx => by rw [hx]; exact ret (hpost _)⟩
    refine snap_at_c hs (fun _ h => by simp [h]) (fun _ => ⟨_, rfl, VIf_eq (fun _ => ?_) (fun h => absurd rfl h)⟩) (fun k h hk _ => absurd hk (by omega))
    exact snap_at_c hs (fun _ h => by simp [h]) (fun _ => ⟨_, rfl, gi rfl⟩) (fun k h hk hh => absurd (List.getElem?_eq_some_iff.1 hh).1 (by omega))
  clear hs hT0 S hm0 hm00
  rintro _ _ i _ ⟨hSt, hi0, hi1, rfl⟩
  refine join_and (VIf_dec (fun hc => ?_) (fun hc => gi ?_))
  rotate_left
  · obtain ⟨L, b, S, ro', h1, h2, h3, h4, h5⟩ := hSt
    exact ⟨L, b, S, ro', h1, h2, h3, h4, { h5 with t := fun w hw => by have := h5.t w hw; omega }⟩
  refine ⟨fun h => StB p r N0 ro (i + 1) h, ?_, fun _ h hS => ⟨⟨by omega, by omega⟩, _, by omega, gi ⟨hS, by omega, by omega, rfl⟩⟩⟩
  obtain ⟨L, b, S, ro', rfl, hm, hT, hs, I⟩ := hSt
  refine RdRowsOf.idx (h := ⟨L ++ [bsE r S], ro'⟩) (rows_up hr hm) hi0 hc.1 (fun l ys hly _ => ?_)
  have rd : ∀ {own ro2}, (∀ a v, ro a = some v → ro2 a = some v) → RdSl ⟨own, ro2⟩ l (ints ys) := fun {own ro2} h => (rows_up hr (own := own) h).2 (l, ys) (List.mem_of_getElem? hly)
  have hyl : l.len = ys.length := by have := (rd (own := []) hm).len; rwa [ints_length] at this
  -- what is told behind it
  have fin : ∀ h, StB p r N0 ro (i + 1) h → f5_J2 (N0 : Int) post (some (Addr.mk p 0 none)) r (fun h => StB p r N0 ro (i + 1) h) h := by
    rintro _ ⟨L, b, S, ro', rfl, hm, hT, hs, I⟩
    have hbl := I.h
    have hwl := I.w
    have hS : StB p r N0 ro (i + 1) ⟨L ++ [bsE r S], ro'⟩ := ⟨L, b, S, ro', rfl, hm, hT, hs, I⟩
    refine snap_values_c hs (fun _ h => by simp [h]) (fun sv ev ov => ⟨sv, rfl, ?_⟩)
    have lv := ov.sl_len
    rw [ints_length, List.length_map, hwl] at lv
    refine VIf_ne (fun h => absurd (by omega) h) (fun _ => ?_)
    refine ⟨fun h => StB p r N0 ro (i + 1) h, ⟨fun m k h => h = ⟨L ++ [bsE r S] ++ [ev], ro'⟩ ∧ 0 ≤ k ∧ k ≤ N0 ∧ m = (N0 - k).toNat, ⟨_, gi ⟨rfl, by omega, by omega, rfl⟩⟩, ?_⟩, fun _ h hS => gi hS⟩
    rintro m _ k _ ⟨rfl, k0, k1, rfl⟩
    refine VIf_dec (fun hk => ?_) (fun _ => ⟨_, Gh.drop (by simp), hS⟩)
    obtain ⟨q, rfl⟩ : ∃ q : Nat, k = (q : Int) := ⟨k.toNat, by omega⟩
    have hq : q < N0 := by omega
    obtain ⟨g, hg⟩ : ∃ g, b.hands[q]? = some g := ⟨_, List.getElem?_eq_getElem (by omega)⟩
    obtain ⟨w, hw⟩ : ∃ w, b.words[q]? = some w := ⟨_, List.getElem?_eq_getElem (by omega)⟩
    have hgl : (b.hands.map (·.ln))[q]? = some g.ln := by rw [List.getElem?_map, hg]; rfl
    have hwv : (b.words.map (·.value))[q]? = some w.value := by rw [List.getElem?_map, hw]; rfl
    obtain ⟨bw, c, hbw, hcw, _, rdw⟩ := hT.w.at hw
    have lW := hT.w.len
    have rv : RdSl ⟨L ++ [bsE r S] ++ [ev], ro'⟩ sv (ints (b.words.map (·.value))) := RdSl.of_own (e := ev) (by simp) ov
    refine join_b (h := ⟨L ++ [bsE r S] ++ [ev], ro'⟩) false (rS0 (bsE r S) (by simp) rfl rfl (at_i hT.a (fun _ _ h => h) hgl rfl ?_)) (VIf_b (nomatch ·) (fun _ => ⟨⟨by omega, by omega⟩, _, by omega, gi ⟨rfl, by omega, by omega, rfl⟩⟩))
    refine snap_at_c hs (fun _ h => by simp [h]) (fun h => absurd ⟨by omega, by omega⟩ h) (fun q' g' hq' hg' => ⟨⟨[], by simp⟩, _, rfl, ?_⟩)
    have : q' = q := by omega
    subst this
    rw [hg] at hg'
    cases hg'
    refine VIf_ne (fun h => absurd rfl h) (fun _ => ?_)
    refine rv.idx (by omega) (by omega) (fun x hx => ?_)
    rw [Int.toNat_natCast, hwv] at hx
    cases hx
    refine rS0 (bsE r S) (by simp) rfl rfl ⟨bw, hbw, by omega, by omega, c.1.value, rd_z (rdw (fun _ _ h => h) rfl rfl), gi ⟨rfl, by rw [hcw]; simp⟩⟩
  obtain ⟨j1, hj1⟩ : ∃ j : Prop, j = (ys.length = 2 ∧ gI ys 1 ≥ 0) := ⟨_, rfl⟩
  -- an op begun
  have began : ∀ {wr : Bool} {v : Int} {L : List Ent} {b : Board} {S S' : BS} {ro' ro2 : Addr → Option Value} {rn : Nat}, (∀ a v, ro a = some v → ro2 a = some v) → BdR ro2 N0 (snapBegin b (gI ys 0) wr v).1 S' → BoardAt p (snapBegin b (gI ys 0) wr v).1 L ro2 → SInv b N0 i → ∃ h', Gh ⟨[] ++ (L ++ (bsE r S' :: [bsE rn S'])), ro2⟩ h' ∧ StB p r N0 ro i h' := by
    intro wr v L b S S' ro' ro2 rn hm2 hT2 hs2 I
    exact ⟨⟨L ++ [bsE r S'], ro2⟩, Gh.drop (by simp), L, _, S', ro2, rfl, hm2, hT2, hs2, I.begin' _ _ _⟩
  refine join_b (h := ⟨L ++ [bsE r S], ro'⟩) (decide (ys.length = 2 ∧ gI ys 1 ≥ 0)) (VIf_eq (fun h2 => idx1 (rd hm) (by omega) (gi ⟨rfl, decide_eq_decide.2 ⟨fun h => ⟨by omega, h⟩, fun h => h.2⟩⟩)) (fun h2 => gi ⟨rfl, (decide_eq_false (fun h => h2 (by omega))).symm⟩)) ?_
  refine ⟨fun h => StB p r N0 ro i h, VIf_dec (fun hw => ?_) (fun _ => gi ⟨L, b, S, ro', rfl, hm, hT, hs, I⟩), ?_⟩
  · obtain ⟨bb, hb⟩ := (rd (own := []) hm).addr (by simp; omega)
    have rd0 : ∀ {own ro2}, (∀ a v, ro a = some v → ro2 a = some v) → H.rd ⟨own, ro2⟩ (Addr.add (Addr.add bb (((0 : Int)).toNat * 1)) 0) (Value.int .i64 (gI ys 0)) := fun {own ro2} h => (rd (own := own) h).rdi hb (gI_ex (by omega))
    have rd1 : ∀ {own ro2}, (∀ a v, ro a = some v → ro2 a = some v) → H.rd ⟨own, ro2⟩ (Addr.add (Addr.add bb (((1 : Int)).toNat * 1)) 0) (Value.int .i64 (gI ys 1)) := fun {own ro2} h => (rd (own := own) h).rdi hb (gI_ex (by omega))
    refine ⟨bb, hb, by omega, by omega, bb, hb, by omega, by omega, bd_get (a0 := S.W) (a1 := S.A) (a2 := S.V) (a3 := S.R) (a4 := S.F) (a5 := S.L) (a6 := S.M) (a7 := S.S) (by simp [bsE]) ⟨_, rd0 hm, _, rd1 hm, ?_⟩⟩
    refine ref_bbegin_c hT I.h hN4 (fun S' ro2 q2 hT2 => ⟨⟨[], by simp⟩, S'.W, S'.A, S'.V, S'.R, S'.F, S'.L, S'.M, S'.S, _, rfl, fun rn _ => ?_⟩)
    have hm2 : ∀ a v, ro a = some v → ro2 a = some v := fun a v h => q2 a v (hm a v h)
    refine bd_put (r := rn) (a0 := S'.W) (a1 := S'.A) (a2 := S'.V) (a3 := S'.R) (a4 := S'.F) (a5 := S'.L) (a6 := S'.M) (a7 := S'.S) (z0 := zV) (z1 := zV) (z2 := zV) (z3 := zV) (z4 := zV) (z5 := zV) (z6 := zV) (z7 := zV) (L ++ [bsE r S]) [] rfl ?_
    refine bd_get (r := rn) (a0 := S'.W) (a1 := S'.A) (a2 := S'.V) (a3 := S'.R) (a4 := S'.F) (a5 := S'.L) (a6 := S'.M) (a7 := S'.S) (by simp) ?_
    refine bd_put (r := r) (a0 := S'.W) (a1 := S'.A) (a2 := S'.V) (a3 := S'.R) (a4 := S'.F) (a5 := S'.L) (a6 := S'.M) (a7 := S'.S) (z0 := S.W) (z1 := S.A) (z2 := S.V) (z3 := S.R) (z4 := S.F) (z5 := S.L) (z6 := S.M) (z7 := S.S) L [bsE rn S'] (by simp; exact ⟨rfl, rfl⟩) ?_
    refine ⟨bb, hb, by omega, by omega, bb, hb, by omega, by omega, _, rd0 hm2, _, rd1 hm2, ?_⟩
    refine snap_write_c [] _ rfl (hs.up q2) (fun L' hs' => ⟨_, rfl, same_error_c (hG.up hm2) ⟨_, rfl, ?_⟩⟩)
    exact VIf_nb (fun h => absurd rfl (of_decide_eq_false h)) (fun _ => began (S := S) (ro' := ro') hm2 hT2 hs' I)
  clear hT hs I hm hj1 j1
  rintro _ _ ⟨L, b, S, ro', rfl, hm, hT, hs, I⟩
  refine join_b (h := ⟨L ++ [bsE r S], ro'⟩) (decide (ys.length = 2 ∧ gI ys 1 < 0)) (VIf_eq (fun h2 => idx1 (rd hm) (by omega) (gi ⟨rfl, decide_eq_decide.2 ⟨fun h => ⟨by omega, h⟩, fun h => h.2⟩⟩)) (fun h2 => gi ⟨rfl, (decide_eq_false (fun h => h2 (by omega))).symm⟩)) ?_
  refine ⟨fun h => StB p r N0 ro i h, VIf_dec (fun hw => ?_) (fun _ => gi ⟨L, b, S, ro', rfl, hm, hT, hs, I⟩), ?_⟩
  · obtain ⟨bb, hb⟩ := (rd (own := []) hm).addr (by simp; omega)
    have rd0 : ∀ {own ro2}, (∀ a v, ro a = some v → ro2 a = some v) → H.rd ⟨own, ro2⟩ (Addr.add (Addr.add bb (((0 : Int)).toNat * 1)) 0) (Value.int .i64 (gI ys 0)) := fun {own ro2} h => (rd (own := own) h).rdi hb (gI_ex (by omega))
    refine ⟨bb, hb, by omega, by omega, bd_get (a0 := S.W) (a1 := S.A) (a2 := S.V) (a3 := S.R) (a4 := S.F) (a5 := S.L) (a6 := S.M) (a7 := S.S) (by simp [bsE]) ⟨_, rd0 hm, ?_⟩⟩
    refine ref_bbegin_c hT I.h hN4 (fun S' ro2 q2 hT2 => ⟨⟨[], by simp⟩, S'.W, S'.A, S'.V, S'.R, S'.F, S'.L, S'.M, S'.S, _, rfl, fun rn _ => ?_⟩)
    have hm2 : ∀ a v, ro a = some v → ro2 a = some v := fun a v h => q2 a v (hm a v h)
    refine bd_put (r := rn) (a0 := S'.W) (a1 := S'.A) (a2 := S'.V) (a3 := S'.R) (a4 := S'.F) (a5 := S'.L) (a6 := S'.M) (a7 := S'.S) (z0 := zV) (z1 := zV) (z2 := zV) (z3 := zV) (z4 := zV) (z5 := zV) (z6 := zV) (z7 := zV) (L ++ [bsE r S]) [] rfl ?_
    refine bd_get (r := rn) (a0 := S'.W) (a1 := S'.A) (a2 := S'.V) (a3 := S'.R) (a4 := S'.F) (a5 := S'.L) (a6 := S'.M) (a7 := S'.S) (by simp) ?_
    refine bd_put (r := r) (a0 := S'.W) (a1 := S'.A) (a2 := S'.V) (a3 := S'.R) (a4 := S'.F) (a5 := S'.L) (a6 := S'.M) (a7 := S'.S) (z0 := S.W) (z1 := S.A) (z2 := S.V) (z3 := S.R) (z4 := S.F) (z5 := S.L) (z6 := S.M) (z7 := S.S) L [bsE rn S'] (by simp; exact ⟨rfl, rfl⟩) ?_
    refine ⟨bb, hb, by omega, by omega, _, rd0 hm2, ?_⟩
    refine snap_look_c [] _ rfl (hs.up q2) (fun L' hs' => ⟨_, rfl, same_error_c (hG.up hm2) ⟨_, rfl, ?_⟩⟩)
    exact VIf_nb (fun h => absurd rfl (of_decide_eq_false h)) (fun _ => began (S := S) (ro' := ro') hm2 hT2 hs' I)
  clear hT hs I hm began
  rintro _ _ ⟨L, b, S, ro', rfl, hm, hT, hs, I⟩
  refine ⟨fun h => StB p r N0 ro (i + 1) h, ?_, fun _ h hS => fin h hS⟩
  refine VIf_eq (fun hl => ?_) (fun _ => gi (StB.mono ⟨L, b, S, ro', rfl, hm, hT, hs, I⟩))
  obtain ⟨bb, hb⟩ := (rd (own := []) hm).addr (by simp; omega)
  have rd0 : ∀ {own ro2}, (∀ a v, ro a = some v → ro2 a = some v) → H.rd ⟨own, ro2⟩ (Addr.add (Addr.add bb (((0 : Int)).toNat * 1)) 0) (Value.int .i64 (gI ys 0)) := fun {own ro2} h => (rd (own := own) h).rdi hb (gI_ex (by omega))
  refine ⟨bb, hb, by omega, by omega, bd_get (a0 := S.W) (a1 := S.A) (a2 := S.V) (a3 := S.R) (a4 := S.F) (a5 := S.L) (a6 := S.M) (a7 := S.S) (by simp [bsE]) ⟨_, rd0 hm, ?_⟩⟩
  refine ref_bstep_c hT I (by omega) (fun S' s' ro2 q2 hT2 hseen => ⟨⟨[], by simp⟩, S'.W, S'.A, S'.V, S'.R, S'.F, S'.L, S'.M, S'.S, _, s', _, rfl, fun rn _ => ?_⟩)
  have hm2 : ∀ a v, ro a = some v → ro2 a = some v := fun a v h => q2 a v (hm a v h)
  refine bd_put (r := rn) (a0 := S'.W) (a1 := S'.A) (a2 := S'.V) (a3 := S'.R) (a4 := S'.F) (a5 := S'.L) (a6 := S'.M) (a7 := S'.S) (z0 := zV) (z1 := zV) (z2 := zV) (z3 := zV) (z4 := zV) (z5 := zV) (z6 := zV) (z7 := zV) (L ++ [bsE r S]) [] rfl ?_
  refine bd_get (r := rn) (a0 := S'.W) (a1 := S'.A) (a2 := S'.V) (a3 := S'.R) (a4 := S'.F) (a5 := S'.L) (a6 := S'.M) (a7 := S'.S) (by simp) ?_
  refine bd_put (r := r) (a0 := S'.W) (a1 := S'.A) (a2 := S'.V) (a3 := S'.R) (a4 := S'.F) (a5 := S'.L) (a6 := S'.M) (a7 := S'.S) (z0 := S.W) (z1 := S.A) (z2 := S.V) (z3 := S.R) (z4 := S.F) (z5 := S.L) (z6 := S.M) (z7 := S.S) L [bsE rn S'] (by simp; exact ⟨rfl, rfl⟩) ?_
  refine ⟨bb, hb, by omega, by omega, _, rd0 hm2, ?_⟩
  refine snap_step_c [] _ rfl (hs.up q2) (I.ok (by omega)) (fun L' sk ek ro3 q3 hs' ok => ⟨_, sk, _, rfl, ?_⟩)
  have hm3 : ∀ a v, ro a = some v → ro3 a = some v := fun a v h => q3 a v (hm2 a v h)
  have lk : (snapStep b (gI ys 0)).2.2.1.length ≤ 1000000000 := by
    have n4 := hN4
    rcases I.step (gI ys 0) with ⟨_, _, e⟩ | ⟨_, _, _, _, _, _, _, _, _, _, _, _, e, _⟩ | ⟨_, _, _, _, _, _, _, _, _, _, _, _, e, _⟩ | ⟨_, _, _, _, _, _, _, _, _, _, _, _, _, e, _⟩ | ⟨_, _, _, _, _, _, _, _, _, _, _, _, _, _, e, _⟩ | ⟨_, _, _, _, _, _, _, _, _, _, _, _, hl, e, _⟩ | ⟨_, _, _, _, _, _, _, _, e, _⟩ <;> rw [e]
    · simp
    · simp
    · simp
    · simp
    · simp
    · show List.length _ ≤ _
      rw [hl]; omega
    · simp
  have lok := ok.sl_len
  rw [ints_length] at lok
  refine ⟨fun b h => b = false ∧ StB p r N0 ro (i + 1) h, same_error_c (hG.up hm3) ⟨_, rfl, VIf_nb (fun h => absurd rfl (of_decide_eq_false h)) (fun _ => VIf_nb (fun h => by simp at h) (fun _ => ?_))⟩, ?_⟩
  · refine same_ints_c (xs := (snapStep b (gI ys 0)).2.2.1) (ys := (snapStep b (gI ys 0)).2.2.1) (RdSl.of_own (e := ek) (by simp) ok) (hseen.mono (by simp) q3) (by omega) ⟨_, rfl, ?_⟩
    exact ⟨⟨L' ++ [bsE r S'], ro3⟩, Gh.drop (by simp; exact .inr (.inl rfl)), by simp, L', _, S', ro3, rfl, hm3, hT2.up q3, hs', I.step' _⟩
  · rintro _ b _ ⟨rfl, hS⟩
    exact VIf_b (nomatch ·) (fun _ => gi hS)
end Go.Proofs.YtnecppjgcbhnaaaDoor
