import Derived.Test.YtnecppjgcbhnaaaDoorBa
namespace Go.Proofs.YtnecppjgcbhnaaaDoor
open Go.Eng
set_option maxRecDepth 20000
/-! ### the document's board begun, and stepped out of turn -/
def bsP (e : Int) (S : BS) : Value := .tuple (List.toArray [.agg (List.toArray (bsC S)), .int .i64 e])
def bsQ (dn : Bool) (s : SV) (e : Int) (S : BS) : Value := .tuple (List.toArray [.agg (List.toArray (bsC S)), .bool dn, .slice s.a s.len s.cap, .int .i64 e])
theorem map_set_at {α β : Type} {f : α → β} {l : List α} {q : Nat} {y : α} {x : β} (h : f y = x) : (l.set q y).map f = (l.map f).set q x := by rw [List.map_set, h]
theorem len_facts {s : SV} {n k : Nat} (h : s.len = n) (hk : k < n) (hn : n ≤ 4) : (k : Int) < ((s.len : Nat) : Int) ∧ s.len ≤ 1000000000 := by omega
set_option maxHeartbeats 2000000 in
theorem ref_bbegin_c {n : Nat} {q value : Int} {wr : Bool} {b : Board} {S : BS} {own : List Ent} {ro : Addr → Option Value} {post : Value → H → Prop} (hr : BdR ro n b S) (hb : b.hands.length = n) (hn : n ≤ 4)
    (hk : ∀ S' ro', (∀ a v, ro a = some v → ro' a = some v) → BdR ro' n (snapBegin b q wr value).1 S' → post (bsP (snapBegin b q wr value).2 S') ⟨own, ro'⟩) :
    SemCall Tryd.prog 28 (List.toArray [.agg (List.toArray (bsC S)), .int .i64 q, .bool wr, .int .i64 value]) ⟨own, ro⟩ post := by
  have la := hr.a.len
  rw [ints_length, List.length_map, hb] at la
  refine f28_call _ _ _ _ _ _ _ _ _ _ _ _ post ?_
  refine new2 (n1 := 8) (n2 := 8) rfl rfl (fun r1 r3 => ?_)
  have m1 : ∀ {e : Ent} {Z : List Ent}, e ∈ own ++ e :: Z := by simp
  have id0 : ∀ a v, ro a = some v → ro a = some v := fun _ _ h => h
  have fin : ∀ {ro : Addr → Option Value} {e : Int} {S : BS}, post (bsP e S) ⟨own, ro⟩ → _ := fun {ro e S} h =>
    bd_fin (own := own) (Y := []) (ro := ro) (r1 := r1) (r3 := r3) (a0 := S.W) (a1 := S.A) (a2 := S.V) (a3 := S.R) (a4 := S.F) (a5 := S.L) (a6 := S.M) (a7 := S.S) (z0 := zV) (z1 := zV) (z2 := zV) (z3 := zV) (z4 := zV) (z5 := zV) (z6 := zV) (z7 := zV) (Q := fun y0 y1 y2 y3 y4 y5 y6 y7 => .tuple (List.toArray [.agg (List.toArray (bdC y0 y1 y2 y3 y4 y5 y6 y7)), .int .i64 e])) (post := post) h
  refine rS0 (bsE r1 S) m1 rfl rfl ?_
  unfold snapBegin at hk
  rw [hb] at hk
  refine join_b (h := ⟨own ++ [bsE r1 S, bsZ r3], ro⟩) (decide (¬ (0 ≤ q ∧ q ≤ (n : Int) - 1) ∨ ¬ (0 ≤ value ∧ value ≤ 1000))) ?_ ?_
  · refine ⟨⟨by omega, by omega⟩, ref3_in_c ⟨_, rfl, VIf_not (fun hx => gi ⟨rfl, (decide_eq_true (.inl (fun h => hx ⟨h.1, by omega⟩))).symm⟩) (fun hx => ref3_in_c ⟨_, rfl, gi ⟨rfl, ?_⟩⟩)⟩⟩
    by_cases ha : 0 ≤ value ∧ value ≤ 1000
    · rw [decide_eq_true ha, decide_eq_false (by omega)]; rfl
    · rw [decide_eq_false ha, decide_eq_true (.inr ha)]; rfl
  refine VIf_dec (fun hx => ?_) (fun hx => ?_)
  · rw [if_pos hx] at hk
    exact fin (hk S ro id0 hr)
  rw [if_neg hx] at hk
  obtain ⟨k, rfl⟩ : ∃ k : Nat, q = (k : Int) := ⟨q.toNat, by omega⟩
  have hkn : k < n := by omega
  obtain ⟨g, hg⟩ : ∃ g, b.hands[k]? = some g := ⟨_, List.getElem?_eq_getElem (by omega)⟩
  rw [Int.toNat_natCast, hg] at hk
  dsimp only at hk
  have hgl : (b.hands.map (·.ln))[k]? = some g.ln := by rw [List.getElem?_map, hg]; rfl
  obtain ⟨w, a, ⟨vs, v1, v2, v3⟩, ⟨rs, r1', r2, r3'⟩, ⟨fs, f1, f2, f3⟩, ⟨ls, l1, l2, l3⟩, ⟨ms, m1', m2, m3⟩, ⟨ss, s1, s2, s3⟩⟩ := hr
  have lv := v2.len
  have lr := r2.len
  have lf := f2.len
  have ll := l2.len
  have lm := m2.len
  rw [ints_length] at lv
  rw [List.length_map] at lr lf ll lm
  obtain ⟨cA, bA⟩ := len_facts la hkn hn
  obtain ⟨cV, bV⟩ := len_facts (lv.trans v1) hkn hn
  obtain ⟨cR, bR⟩ := len_facts (lr.trans r1') hkn hn
  obtain ⟨cF, bF⟩ := len_facts (lf.trans f1) hkn hn
  obtain ⟨cL, bL⟩ := len_facts (ll.trans l1) hkn hn
  obtain ⟨cM, bM⟩ := len_facts (lm.trans m1') hkn hn
  have c0 : 0 ≤ (k : Int) := Int.natCast_nonneg k
  have hlr := lr.trans r1'
  have eN : (((S.A.len : Nat) : Int)).toNat = n := by omega
  have cN : 0 ≤ ((S.A.len : Nat) : Int) ∧ ((8 : Nat) : Int) * ((S.A.len : Nat) : Int) ≤ 140737488355328 ∧ ((S.A.len : Nat) : Int) ≤ 1000000000 := by omega
  have kv : k < vs.length := by omega
  have kr : k < rs.length := by omega
  have kf : k < fs.length := by omega
  have kl : k < ls.length := by omega
  have km : k < ms.length := by omega
  have n0 : n ≤ maxLen := by simp only [maxLen]; omega
  clear lv lr lf ll lm la hx
  refine rS0 (bsE r1 S) m1 rfl rfl (at_i a id0 hgl rfl (VIf_ne (fun hz => ?_) (fun hz => ?_)))
  · rw [if_pos hz] at hk
    exact fin (hk S ro id0 ⟨w, a, ⟨vs, v1, v2, v3⟩, ⟨rs, r1', r2, r3'⟩, ⟨fs, f1, f2, f3⟩, ⟨ls, l1, l2, l3⟩, ⟨ms, m1', m2, m3⟩, ⟨ss, s1, s2, s3⟩⟩)
  rw [if_neg (not_not_intro hz)] at hk
  refine rS0 (bsE r1 S) m1 rfl rfl (ref3_set_c a.ro c0 cA bA (fun A' ro1 q1 ha' _ => ⟨A', rfl, bs_w { S with A := A' } rfl (by decide) rfl ?_⟩))
  refine rS0 (bsE r1 { S with A := A' }) m1 rfl rfl (ref3_set_c (v2.mono (by simp) q1) c0 cV bV (fun V' ro2 q2 hv' _ => ⟨V', rfl, bs_w { S with A := A', V := V' } rfl (by decide) rfl ?_⟩))
  have q12 : ∀ a v, ro a = some v → ro2 a = some v := fun a v h => q2 a v (q1 a v h)
  refine rS0 (bsE r1 { S with A := A', V := V' }) m1 rfl rfl (app_newG grows_bools (RdSl.rows (r2.mono (by simp) q12)) (allOne_map (fun _ => rfl) rs) bR (fun R' eR oR lR hfR => ?_))
  have lR : R'.len = n := lR.trans hlr
  refine wr_atM (f := Value.bool) (fun _ => rfl) (own ++ [bsE r1 { S with A := A', V := V' }, bsZ r3]) eR [] (by simp) (xs := rs) oR c0 (len_facts lR hkn hn).1 (fun eR2 oR2 hid => ?_)
  rw [show (own ++ [bsE r1 { S with A := A', V := V' }, bsZ r3]) ++ eR2 :: [] = own ++ bsE r1 { S with A := A', V := V' } :: (bsZ r3 :: [eR2]) by simp]
  refine bs_w { S with A := A', V := V', R := R' } rfl (by decide) rfl ?_
  refine rS0 (bsE r1 { S with A := A', V := V', R := R' }) m1 rfl rfl ?_
  refine SemCall.frz (own ++ [bsE r1 { S with A := A', V := V', R := R' }, bsZ r3]) eR2 [] (by simp) oR2 (fun ro3 q3 hR3 => ?_)
  rw [show (own ++ [bsE r1 { S with A := A', V := V', R := R' }, bsZ r3]) ++ [] = own ++ bsE r1 { S with A := A', V := V', R := R' } :: [bsZ r3] by simp]
  have q13 : ∀ a v, ro a = some v → ro3 a = some v := fun a v h => q3 a v (q12 a v h)
  refine ref3_reads_c (x := zV) (f2.mono (by simp) q13) c0 cF bF (fun F' ro4 q4 hF' _ => ⟨F', rfl, bs_w { S with A := A', V := V', R := R', F := F' } rfl (by decide) rfl ?_⟩)
  have q14 : ∀ a v, ro a = some v → ro4 a = some v := fun a v h => q4 a v (q13 a v h)
  refine rS0 (bsE r1 { S with A := A', V := V', R := R', F := F' }) m1 rfl rfl (ref3_reads_c (x := zV) (l2.mono (by simp) q14) c0 cL bL (fun L' ro5 q5 hL' _ => ⟨L', rfl, bs_w { S with A := A', V := V', R := R', F := F', L := L' } rfl (by decide) rfl ?_⟩))
  have q15 : ∀ a v, ro a = some v → ro5 a = some v := fun a v h => q5 a v (q14 a v h)
  refine rS0 (bsE r1 { S with A := A', V := V', R := R', F := F', L := L' }) m1 rfl rfl ⟨cN.1, Int.le_refl _, cN.2.1, cN.2.2, fun r81 _ => ?_⟩
  rw [repl_ints, eN]
  refine SemCall.frz (sz := 1) (s := ⟨some (Addr.mk r81 0 none), n, n⟩) (xs := ints (List.replicate n 0)) (own ++ [bsE r1 { S with A := A', V := V', R := R', F := F', L := L' }, bsZ r3]) ⟨some r81, ints (List.replicate n 0), n⟩ [] (by simp) (OwnsSl.at0 1 (by simp) (by simp) n0) (fun ro6 q6 hM6 => ?_)
  rw [show (own ++ [bsE r1 { S with A := A', V := V', R := R', F := F', L := L' }, bsZ r3]) ++ [] = own ++ bsE r1 { S with A := A', V := V', R := R', F := F', L := L' } :: [bsZ r3] by simp]
  have q16 : ∀ a v, ro a = some v → ro6 a = some v := fun a v h => q6 a v (q15 a v h)
  refine ref3_rows_c (x := ⟨some (Addr.mk r81 0 none), n, n⟩) (m2.mono (by simp) q16) c0 cM bM (fun M' ro7 q7 hM' _ => ⟨M', rfl, bs_w { S with A := A', V := V', R := R', F := F', L := L', M := M' } rfl (by decide) rfl ?_⟩)
  have q17 : ∀ a v, ro a = some v → ro7 a = some v := fun a v h => q7 a v (q16 a v h)
  rw [Int.toNat_natCast] at ha' hv' oR2 hF' hL' hM' 
  rw [Int.toNat_natCast] at hR3
  have u2 : ∀ a v, ro2 a = some v → ro7 a = some v := fun a v h => q7 a v (q6 a v (q5 a v (q4 a v (q3 a v h))))
  have u4 : ∀ a v, ro4 a = some v → ro7 a = some v := fun a v h => q7 a v (q6 a v (q5 a v h))
  refine fin (hk _ ro7 q17 ⟨w.up q17, ?_, ⟨vs.set k value, by simpa using v1, hv'.mono (by simp) u2, fun p h hp hl => ?_⟩, ⟨rs.set k wr, by simpa using r1', ?_, fun p h hp hl => ?_⟩, ⟨fs.set k zV, by simpa using f1, hF'.mono (by simp) u4, ?_⟩, ⟨ls.set k zV, by simpa using l1, hL'.mono (by simp) (fun a v h => q7 a v (q6 a v h)), ?_⟩, ⟨ms.set k ⟨some (Addr.mk r81 0 none), n, n⟩, by simpa using m1', hM', ?_⟩, ⟨ss, s1, s2.mono (by simp) q17, ?_⟩⟩)
  · dsimp only
    rw [map_set_at (f := fun h : SHand => h.ln) (x := 1) rfl]
    exact ha'.mono (by simp) (fun a v h => u2 a v (q2 a v h))
  · rcases set_cases hp with ⟨e1, e2⟩ | ⟨e1, e2⟩
    · subst e1; subst e2; exact List.getElem?_set_self kv
    · rw [List.getElem?_set_ne (fun e => e1 e.symm)]; exact v3 p h e2 hl
  · exact (RdRows.sl hR3).mono (by simp) (fun a v h => u4 a v (q4 a v h))
  · rcases set_cases hp with ⟨e1, e2⟩ | ⟨e1, e2⟩
    · subst e1; subst e2; exact List.getElem?_set_self kr
    · rw [List.getElem?_set_ne (fun e => e1 e.symm)]; exact r3' p h e2 hl
  · refine fld_set (α := Unit) (Q := fun s h => RdWs ro7 s h.first) (fun p h hp hl => ?_) kf (fun _ => RdWs.nil ro7) ()
    obtain ⟨s, e1, e2⟩ := f3 p h hp hl; exact ⟨s, e1, e2.up q17⟩
  · refine fld_set (α := Unit) (Q := fun s h => RdWs ro7 s h.last) (fun p h hp hl => ?_) kl (fun _ => RdWs.nil ro7) ()
    obtain ⟨s, e1, e2⟩ := l3 p h hp hl; exact ⟨s, e1, e2.up q17⟩
  · refine fld_set (α := Unit) (Q := fun s h => RdSl ⟨[], ro7⟩ s (ints h.moved)) (fun p h hp hl => ?_) km (fun _ => (RdRows.sl hM6).mono (by simp) q7) ()
    obtain ⟨s, e1, e2⟩ := m3 p h hp hl; exact ⟨s, e1, e2.mono (by simp) q17⟩
  · refine fld_keep (Q := fun s h => RdSl ⟨[], ro7⟩ s (ints h.moved)) (fun p h hp hl => ?_) (fun h => by cases h)
    obtain ⟨s, e1, e2⟩ := s3 p h hp hl; exact ⟨s, e1, e2.mono (by simp) q17⟩
theorem ref_bout_c {n : Nat} {q : Int} {b : Board} {S : BS} {own : List Ent} {ro : Addr → Option Value} {post : Value → H → Prop} (hr : BdR ro n b S) (hb : b.hands.length = n) (hn : n ≤ 4) (hq : ¬ (0 ≤ q ∧ q ≤ (n : Int) - 1)) (hk : post (bsQ false zV 1 S) ⟨own, ro⟩) :
    SemCall Tryd.prog 31 (List.toArray [.agg (List.toArray (bsC S)), .int .i64 q]) ⟨own, ro⟩ post := by
  have la := hr.a.len
  rw [ints_length, List.length_map, hb] at la
  refine f31_call _ _ _ _ _ _ _ _ _ _ post ?_
  refine new2 (n1 := 8) (n2 := 8) rfl rfl (fun r1 r3 => ?_)
  have m1 : ∀ {e : Ent} {Z : List Ent}, e ∈ own ++ e :: Z := by simp
  refine rS0 (bsE r1 S) m1 rfl rfl ⟨⟨by omega, by omega⟩, ref3_in_c ⟨_, rfl, VIf_not (fun _ => ?_) (fun h => absurd ⟨h.1, by omega⟩ hq)⟩⟩
  exact bd_fin (own := own) (Y := []) (ro := ro) (r1 := r1) (r3 := r3) (a0 := S.W) (a1 := S.A) (a2 := S.V) (a3 := S.R) (a4 := S.F) (a5 := S.L) (a6 := S.M) (a7 := S.S) (z0 := zV) (z1 := zV) (z2 := zV) (z3 := zV) (z4 := zV) (z5 := zV) (z6 := zV) (z7 := zV) (Q := fun y0 y1 y2 y3 y4 y5 y6 y7 => .tuple (List.toArray [.agg (List.toArray (bdC y0 y1 y2 y3 y4 y5 y6 y7)), .bool false, .slice none 0 0, .int .i64 1])) (post := post) hk
theorem ref_bidle_c {n k : Nat} {b : Board} {S : BS} {g : SHand} {own : List Ent} {ro : Addr → Option Value} {post : Value → H → Prop} (hr : BdR ro n b S) (hb : b.hands.length = n) (hn : n ≤ 4) (hq : k < n) (hg : b.hands[k]? = some g) (h0 : g.ln = 0) (hk : post (bsQ false zV 7 S) ⟨own, ro⟩) :
    SemCall Tryd.prog 31 (List.toArray [.agg (List.toArray (bsC S)), .int .i64 (k : Int)]) ⟨own, ro⟩ post := by
  have la := hr.a.len
  rw [ints_length, List.length_map, hb] at la
  refine f31_call _ _ _ _ _ _ _ _ _ _ post ?_
  refine new2 (n1 := 8) (n2 := 8) rfl rfl (fun r1 r3 => ?_)
  have m1 : ∀ {e : Ent} {Z : List Ent}, e ∈ own ++ e :: Z := by simp
  refine rS0 (bsE r1 S) m1 rfl rfl ⟨⟨by omega, by omega⟩, ref3_in_c ⟨_, rfl, VIf_not (fun h => absurd ⟨by omega, by omega⟩ h) (fun _ => ?_)⟩⟩
  have hgl : (b.hands.map (·.ln))[k]? = some g.ln := by rw [List.getElem?_map, hg]; rfl
  refine rS0 (bsE r1 S) m1 rfl rfl (at_i hr.a (fun _ _ h => h) hgl rfl (VIf_eq (fun _ => ?_) (fun z => absurd h0 z)))
  exact bd_fin (own := own) (Y := []) (ro := ro) (r1 := r1) (r3 := r3) (a0 := S.W) (a1 := S.A) (a2 := S.V) (a3 := S.R) (a4 := S.F) (a5 := S.L) (a6 := S.M) (a7 := S.S) (z0 := zV) (z1 := zV) (z2 := zV) (z3 := zV) (z4 := zV) (z5 := zV) (z6 := zV) (z7 := zV) (Q := fun y0 y1 y2 y3 y4 y5 y6 y7 => .tuple (List.toArray [.agg (List.toArray (bdC y0 y1 y2 y3 y4 y5 y6 y7)), .bool false, .slice none 0 0, .int .i64 7])) (post := post) hk
end Go.Proofs.YtnecppjgcbhnaaaDoor
