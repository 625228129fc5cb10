import Derived.Test.YtnecppjgcbhnaaaDoorBd
namespace Go.Proofs.YtnecppjgcbhnaaaDoor
open Go.Eng
set_option maxRecDepth 20000
set_option maxHeartbeats 2000000 in
theorem bd_seen {n q r1 r3 : Nat} {S2 : BS} {sl sA : SV} {lL : List SV} {ls : List SWord} {own : List Ent} {ro1 : Addr → Option Value} {K : SV → H → Prop} (hn : n ≤ 4) (hq : q < n) (lA : sA.len = n)
    (hL : RdSl ⟨[], ro1⟩ S2.L (lL.map svV)) (hsl : lL[q]? = some sl) (hlw : RdWs ro1 sl ls) (ll : ls.length = n)
    (hK : ∀ s eo, OwnsSl 1 s eo (ints (ls.map (·.value))) → K s ⟨own ++ bsE r1 S2 :: (bsZ r3 :: [eo]), ro1⟩) :
    ∃ R229 : SV → H → Prop, (∃ I230 : Nat → SV → Int → H → Prop, (∃ n231, ∃ h233, Gh ⟨own ++ bsE r1 S2 :: [bsZ r3], ro1⟩ h233 ∧ I230 n231 (SV.mk none 0 0) 0 h233) ∧
      ∀ (n231 : Nat) (_ : F) (x234_seen : SV) (x235_q : Int) (h236 : H), I230 n231 x234_seen x235_q h236 → f31_L3 (q : Int) r1 sA R229 I230 n231 x234_seen x235_q h236) ∧
      ∀ (_ : F) (x248_seen : SV) (h249 : H), R229 x248_seen h249 → ∃ h250, Gh h249 h250 ∧ K x248_seen h250 := by
  have lL' := hL.len
  rw [List.length_map] at lL'
  have lsl := hlw.len
  have m1 : ∀ {e : Ent} {Z : List Ent}, e ∈ own ++ e :: Z := by simp
  have id0 : ∀ {ro : Addr → Option Value} a v, ro a = some v → ro a = some v := fun _ _ h => h
  refine ⟨fun s h => ∃ eo, OwnsSl 1 s eo (ints (ls.map (·.value))) ∧ h = ⟨own ++ bsE r1 S2 :: (bsZ r3 :: [eo]), ro1⟩, ⟨fun m s k h => ∃ (j : Nat) (eo : Ent), k = (j : Int) ∧ j ≤ n ∧ m = n - j ∧ OwnsSl 1 s eo (ints ((ls.take j).map (·.value))) ∧ h = ⟨own ++ bsE r1 S2 :: (bsZ r3 :: [eo]), ro1⟩, ⟨n, ⟨own ++ bsE r1 S2 :: (bsZ r3 :: [⟨none, [], 0⟩]), ro1⟩, ?_, 0, _, rfl, Nat.zero_le _, rfl, OwnsSl.nil 1, rfl⟩, ?_⟩, ?_⟩
  · have g := Gh.phantom (own ++ bsE r1 S2 :: [bsZ r3]) [] ro1 0
    simpa using g
  rotate_left
  · rintro _ s _ ⟨eo, ho, rfl⟩
    exact gi (hK s eo ho)
  rintro m _ s k _ ⟨j, eo, rfl, hj, rfl, ho, rfl⟩
  refine VIf_dec (fun hlt => ?_) (fun hge => gi ?_)
  rotate_left
  · have : j = n := by omega
    subst this
    rw [List.take_of_length_le (by omega)] at ho
    exact ⟨eo, ho, rfl⟩
  have hjn : j < n := by omega
  obtain ⟨w, hw⟩ : ∃ w, ls[j]? = some w := ⟨_, List.getElem?_eq_getElem (by omega)⟩
  obtain ⟨bl, cw, hbl, hcw, _, rdl⟩ := hlw.at hw
  have htk := take_snoc hw
  have hol := ho.sl_len
  rw [ints_length, List.length_map, List.length_take] at hol
  refine rS0 (bsE r1 S2) m1 rfl rfl (at_v hL id0 hsl ⟨bl, hbl, by omega, by omega, cw.1.value, rd_z (rdl id0 rfl rfl), ?_⟩)
  refine app_row grows_ints (vs := [.int .i64 cw.1.value]) rfl ⟨rfl, trivial⟩ (own ++ [bsE r1 S2, bsZ r3]) eo [] (by simp) ho (by omega) (fun s' e' o' _ => ?_)
  refine ⟨⟨by omega, by omega⟩, n - (j + 1), by omega, gi ⟨j + 1, e', by omega, by omega, rfl, ?_, by simp⟩⟩
  rw [htk, List.map_append, ← hcw]
  simpa [ints, intV] using o'
theorem seesGo_nil (fs ls : List SWord) (n : Nat) (mv out : List Int) (same : Bool) (hf : fs.length = n) : seesGo (fs.drop n) (ls.drop n) n mv out same = (out, same, mv) := by
  rw [List.drop_of_length_le (by omega)]
  simp [seesGo]
theorem cmp_len {n L A : Nat} {k : Int} (h : L = k.toNat + 1) (hA : A = n) (k0 : 0 ≤ k) (kn : k < n) : ((L : Int) < (A : Int) → k + 1 < n) ∧ (¬ (L : Int) < (A : Int) → k + 1 = n ∧ k.toNat + 1 = n) := by omega
theorem lt_of_get {α : Type} {l : List α} {t : Nat} {x : α} (h : l[t]? = some x) {s : SV} (hs : s.len = l.length) : (t : Int) < ((s.len : Nat) : Int) := by
  have := (List.getElem?_eq_some_iff.1 h).1
  omega
theorem a_same {ro : Addr → Option Value} {s : SV} {hs : List SHand} {q : Nat} {g y : SHand} (hg : hs[q]? = some g) (h : y.ln = g.ln) (r : RdSl ⟨[], ro⟩ s (ints (hs.map (·.ln)))) : RdSl ⟨[], ro⟩ s (ints ((hs.set q y).map (·.ln))) := by
  rw [map_set_same (f := fun h : SHand => h.ln) hg h]; exact r
theorem pre_len {n q A W L : Nat} {k : Int} (la : A = n) (lW : W = n) (lL : L = k.toNat) (hn : n ≤ 4) (hq : q < n) (k0 : 0 ≤ k) (kn : k < n) : ((L : Nat) : Int) < ((W : Nat) : Int) ∧ L + 1 ≤ 1000000000 ∧ In64 (((A : Nat) : Int) - 1) ∧ (0 ≤ (q : Int) ∧ (q : Int) ≤ ((A : Nat) : Int) - 1) := by
  refine ⟨by omega, by omega, ⟨by omega, by omega⟩, by omega, by omega⟩
theorem ln2 {x : Int} (h : x = 2) : x ≠ 0 ∧ x ≠ 1 ∧ x ≠ 3 := by omega
set_option maxHeartbeats 4000000 in
theorem ref_b2_c {n q : Nat} {b : Board} {S : BS} {g y : SHand} {w : SWord} {own : List Ent} {ro : Addr → Option Value} {post : Value → H → Prop} (hr : BdR ro n b S) (hb : b.hands.length = n) (hw : b.words.length = n) (hn : n ≤ 4) (hq : q < n) (hg : b.hands[q]? = some g) (hl : g.ln = 2)
    (hk0 : 0 ≤ g.k) (hkn : g.k < n) (hff : g.first.length = n) (hf : g.last.length = g.k.toNat) (lmv : g.moved.length = n) (bmv : ∀ x ∈ g.moved, 0 ≤ x ∧ x ≤ 1) (hwk : b.words[g.k.toNat]? = some w) (y1 : y.ln = 3) (y2 : y.moved = (seesGo g.first (g.last ++ [w]) 0 g.moved [] true).1) (y3 : y.writes = g.writes) (y4 : y.value = g.value)
    (k1 : g.k + 1 < n → ∀ S' ro', (∀ a v, ro a = some v → ro' a = some v) → BdR ro' n { b with hands := b.hands.set q { g with k := g.k + 1, last := g.last ++ [w] } } S' → post (bsQ false zV 0 S') ⟨own, ro'⟩)
    (k2 : g.k + 1 = n → (seesGo g.first (g.last ++ [w]) 0 g.moved [] true).2.1 = false → ∀ S' ro', (∀ a v, ro a = some v → ro' a = some v) → BdR ro' n { b with hands := b.hands.set q { g with k := 0, first := g.last ++ [w], last := [], moved := (seesGo g.first (g.last ++ [w]) 0 g.moved [] true).2.2 } } S' → post (bsQ false zV 0 S') ⟨own, ro'⟩)
    (k3 : g.k + 1 = n → (seesGo g.first (g.last ++ [w]) 0 g.moved [] true).2.1 = true → g.writes = true → ∀ S' ro', (∀ a v, ro a = some v → ro' a = some v) → BdR ro' n { b with hands := b.hands.set q y } S' → post (bsQ false zV 0 S') ⟨own, ro'⟩)
    (k4 : g.k + 1 = n → (seesGo g.first (g.last ++ [w]) 0 g.moved [] true).2.1 = true → g.writes = false → ∀ S' s' ro', (∀ a v, ro a = some v → ro' a = some v) → BdR ro' n { b with hands := b.hands.set q shand0 } S' → RdSl ⟨[], ro'⟩ s' (ints (seesGo g.first (g.last ++ [w]) 0 g.moved [] true).1) → post (bsQ true s' 0 S') ⟨own, ro'⟩) :
    SemCall Tryd.prog 31 (List.toArray [.agg (List.toArray (bsC S)), .int .i64 (q : Int)]) ⟨own, ro⟩ post := by
  have la := hr.a.len
  rw [ints_length, List.length_map, hb] at la
  obtain ⟨hrw, a, ⟨vs, v1, v2, v3⟩, ⟨rs, r1', r2, r3'⟩, ⟨fs, f1, f2, f3⟩, ⟨ls, l1, l2, l3⟩, ⟨ms, m1', m2, m3⟩, ⟨ss, s1, s2, s3⟩⟩ := hr
  have lf := f2.len
  have ll := l2.len
  have lss := s2.len
  rw [List.length_map] at lf ll lss
  have lW := hrw.len
  obtain ⟨cF, bF⟩ := len_facts (lf.trans f1) hq hn
  obtain ⟨cL, bL⟩ := len_facts (ll.trans l1) hq hn
  obtain ⟨cS, bS⟩ := len_facts (lss.trans s1) hq hn
  obtain ⟨cA, bA⟩ := len_facts la hq hn
  have c0 : 0 ≤ (q : Int) := Int.natCast_nonneg q
  have kf : q < fs.length := by rw [f1]; exact hq
  have kl : q < ls.length := by rw [l1]; exact hq
  have ks : q < ss.length := by rw [s1]; exact hq
  obtain ⟨sf, hsf, hfw⟩ := f3 q g hg (.inr hl)
  obtain ⟨sl, hsl, hlw⟩ := l3 q g hg (.inr hl)
  obtain ⟨sm0, hsm, hmv⟩ := m3 q g hg (.inr hl)
  have lsl := hlw.len
  obtain ⟨bw, c, hbw, hc1, hcok, rdw⟩ := hrw.at (k := sl.len) (w := w) (by rw [lsl, hf]; exact hwk)
  obtain ⟨lt1, bsl, i64, inr⟩ := pre_len la (lW.trans hw) (lsl.trans hf) hn hq hk0 hkn
  have hgl : (b.hands.map (·.ln))[q]? = some g.ln := by rw [List.getElem?_map, hg]; rfl
  have hlast : (g.last ++ [w]).length = g.k.toNat + 1 := by rw [List.length_append, hf]; rfl
  obtain ⟨n0, n1, n3⟩ := ln2 hl
  have cmp : ∀ {s' : SV}, s'.len = (g.last ++ [w]).length → (((s'.len : Nat) : Int) < ((S.A.len : Nat) : Int) → g.k + 1 < n) ∧ (¬ ((s'.len : Nat) : Int) < ((S.A.len : Nat) : Int) → g.k + 1 = n ∧ g.k.toNat + 1 = n) := fun h => cmp_len (h.trans hlast) la hk0 hkn
  clear lW lf ll lss hkn hk0
  refine f31_call _ _ _ _ _ _ _ _ _ _ post ?_
  refine new2 (n1 := 8) (n2 := 8) rfl rfl (fun r1 r3 => ?_)
  have m1 : ∀ {e : Ent} {Z : List Ent}, e ∈ own ++ e :: Z := by simp
  have id0 : ∀ {ro : Addr → Option Value} a v, ro a = some v → ro a = some v := fun _ _ h => h
  have fin : ∀ {ro : Addr → Option Value} {dn : Bool} {s : SV} {S : BS}, post (bsQ dn s 0 S) ⟨own, ro⟩ → _ := fun {ro dn s S} h =>
    bd_fin (own := own) (Y := []) (ro := ro) (r1 := r1) (r3 := r3) (a0 := S.W) (a1 := S.A) (a2 := S.V) (a3 := S.R) (a4 := S.F) (a5 := S.L) (a6 := S.M) (a7 := S.S) (z0 := zV) (z1 := zV) (z2 := zV) (z3 := zV) (z4 := zV) (z5 := zV) (z6 := zV) (z7 := zV) (Q := fun y0 y1 y2 y3 y4 y5 y6 y7 => .tuple (List.toArray [.agg (List.toArray (bdC y0 y1 y2 y3 y4 y5 y6 y7)), .bool dn, .slice s.a s.len s.cap, .int .i64 0])) (post := post) h
  refine rS0 (bsE r1 S) m1 rfl rfl ⟨i64, ref3_in_c ⟨_, rfl, VIf_not (fun h => absurd inr h) (fun _ => ?_)⟩⟩
  refine rS0 (bsE r1 S) m1 rfl rfl (at_i a id0 hgl rfl (VIf_eq (fun z => absurd z n0) (fun _ => VIf_eq (fun z => absurd z n1) (fun _ => VIf_eq (fun z => absurd z n3) (fun _ => ?_)))))
  refine rS0 (bsE r1 S) m1 rfl rfl (rS0 (bsE r1 S) m1 rfl rfl (at_v l2 id0 hsl (rS0 (bsE r1 S) m1 rfl rfl (rS0 (bsE r1 S) m1 rfl rfl (at_v l2 id0 hsl ⟨bw, hbw, Int.natCast_nonneg _, lt1, c.1.value, rdw id0 rfl rfl, c.1.turn, rdw id0 rfl rfl, c.2, rdw id0 rfl rfl, ?_⟩)))))
  refine ref3_behind_c (c := c) hlw hcok bsl (fun s' ro1 q1 hs' => ⟨⟨[], by simp⟩, s', rfl, ?_⟩)
  refine ref3_reads_c (x := s') (l2.mono (by simp) q1) c0 cL bL (fun L' ro2 q2 hL' lL' => ⟨L', rfl, bs_w { S with L := L' } rfl (by decide) rfl ?_⟩)
  rw [Int.toNat_natCast] at hL'
  rw [hc1] at hs'
  have q12 : ∀ a v, ro a = some v → ro2 a = some v := fun a v h => q2 a v (q1 a v h)
  have hs2 := hs'.up q2
  have hsl2 : (ls.set q s')[q]? = some s' := List.getElem?_set_self kl
  obtain ⟨cm1, cm2⟩ := cmp hs2.len
  refine rS0 (bsE r1 { S with L := L' }) m1 rfl rfl (at_v hL' id0 hsl2 (VIf_dec (fun hlt => fin (k1 (cm1 hlt) _ ro2 q12 ?_)) (fun hge => ?_)))
  · refine ⟨hrw.up q12, ?_, ⟨vs, v1, v2.mono (by simp) q12, val_set (f := fun h => h.value) v3 hg n0 (fun _ => rfl)⟩, ⟨rs, r1', r2.mono (by simp) q12, val_set (f := fun h => h.writes) r3' hg n0 (fun _ => rfl)⟩, ⟨fs, f1, f2.mono (by simp) q12, ?_⟩, ⟨ls.set q s', by simpa using l1, hL', ?_⟩, ⟨ms, m1', m2.mono (by simp) q12, ?_⟩, ⟨ss, s1, s2.mono (by simp) q12, ?_⟩⟩
    · dsimp only
      exact a_same hg rfl (a.mono (by simp) q12)
    · refine fld_keep (Q := fun s h => RdWs ro2 s h.first) (fun p h hp hl => ?_) (fun _ => ⟨sf, hsf, hfw.up q12⟩)
      obtain ⟨s, e1, e2⟩ := f3 p h hp hl; exact ⟨s, e1, e2.up q12⟩
    · refine fld_set (α := Unit) (Q := fun s h => RdWs ro2 s h.last) (fun p h hp hl => ?_) kl (fun _ => hs2) ()
      obtain ⟨s, e1, e2⟩ := l3 p h hp hl; exact ⟨s, e1, e2.up q12⟩
    · refine fld_keep (Q := fun s h => RdSl ⟨[], ro2⟩ s (ints h.moved)) (fun p h hp hl => ?_) (fun _ => ⟨sm0, hsm, hmv.mono (by simp) q12⟩)
      obtain ⟨s, e1, e2⟩ := m3 p h hp hl; exact ⟨s, e1, e2.mono (by simp) q12⟩
    · refine fld_keep (P := fun h => h.ln = 3) (Q := fun s h => RdSl ⟨[], ro2⟩ s (ints h.moved)) (fun p h hp hl => ?_) (fun h => absurd h n3)
      obtain ⟨s, e1, e2⟩ := s3 p h hp hl; exact ⟨s, e1, e2.mono (by simp) q12⟩
  obtain ⟨ekn, ell⟩ := cm2 hge
  have ell := hlast.trans ell
  have k1 := k2 ekn
  have k3 := k3 ekn
  have k4 := k4 ekn
  clear k2 cm1 cm2 cmp
  obtain ⟨sg, hsg⟩ : ∃ sg, sg = seesGo g.first (g.last ++ [w]) 0 g.moved [] true := ⟨_, rfl⟩
  rw [← hsg] at k1 k3 k4 y2
  have y12 : y.ln = 1 ∨ y.ln = 2 → False := fun h => by rw [y1] at h; rcases h with h | h <;> cases h
  refine bd_loop (S1 := { S with L := L' }) (K := f31_J5 (q : Int) post r1 r3 S.A) (fs := g.first) (ls := g.last ++ [w]) (mv0 := g.moved) (post := post) hn hq la (f2.mono (by simp) q12) hsf (hfw.up q12) hL' hsl2 hs2 hff ell (m2.mono (by simp) q12) m1' hsm (hmv.mono (by simp) q12) lmv bmv (fun helped same M' ro3 hI => ?_)
  obtain ⟨mm, ms', sm, mv, lms, hMs, oth, hsm', hmv', lmv', bm0, bm1, hcase⟩ := hI
  rw [← hsg] at hcase
  have q13 : ∀ a v, ro a = some v → ro3 a = some v := fun a v h => mm a v (q12 a v h)
  -- the others' rows
  have othM : ∀ {ro4 : Addr → Option Value}, (∀ a v, ro3 a = some v → ro4 a = some v) → ∀ {y : SHand}, (y.ln = 1 ∨ y.ln = 2 → ∃ s, ms'[q]? = some s ∧ RdSl ⟨[], ro4⟩ s (ints y.moved)) → ∀ (p : Nat) h, (b.hands.set q y)[p]? = some h → h.ln = 1 ∨ h.ln = 2 → ∃ s, ms'[p]? = some s ∧ RdSl ⟨[], ro4⟩ s (ints h.moved) := by
    intro ro4 q4 y hy p h hp hl
    rcases set_cases hp with ⟨e1, e2⟩ | ⟨e1, e2⟩
    · subst e1; subst e2; exact hy hl
    · obtain ⟨s, e3, e4⟩ := m3 p h e2 hl
      exact ⟨s, by rw [oth p e1]; exact e3, e4.mono (by simp) (fun a v h => q4 a v (q13 a v h))⟩
  have othL : ∀ {ro4 : Addr → Option Value}, (∀ a v, ro3 a = some v → ro4 a = some v) → ∀ {y : SHand}, (y.ln = 1 ∨ y.ln = 2 → False) → ∀ (p : Nat) h, (b.hands.set q y)[p]? = some h → h.ln = 1 ∨ h.ln = 2 → ∃ s, (ls.set q s')[p]? = some s ∧ RdWs ro4 s h.last := by
    intro ro4 q4 y hy p h hp hl
    rcases set_cases hp with ⟨e1, e2⟩ | ⟨e1, e2⟩
    · subst e1; subst e2; exact (hy hl).elim
    · obtain ⟨s, e3, e4⟩ := l3 p h e2 hl
      exact ⟨s, by rw [List.getElem?_set_ne (fun e => e1 e.symm)]; exact e3, e4.up (fun a v h => q4 a v (q13 a v h))⟩
  have othF : ∀ {ro4 : Addr → Option Value}, (∀ a v, ro3 a = some v → ro4 a = some v) → ∀ {y : SHand}, (y.ln = 1 ∨ y.ln = 2 → False) → ∀ (p : Nat) h, (b.hands.set q y)[p]? = some h → h.ln = 1 ∨ h.ln = 2 → ∃ s, fs[p]? = some s ∧ RdWs ro4 s h.first := by
    intro ro4 q4 y hy p h hp hl
    rcases set_cases hp with ⟨e1, e2⟩ | ⟨e1, e2⟩
    · subst e1; subst e2; exact (hy hl).elim
    · obtain ⟨s, e3, e4⟩ := f3 p h e2 hl
      exact ⟨s, e3, e4.up (fun a v h => q4 a v (q13 a v h))⟩
  refine ⟨fun s h => ∃ X : List Ent, h = ⟨own ++ bsE r1 { S with L := L', M := M' } :: (bsZ r3 :: X), ro3⟩ ∧ sg.2.1 = true ∧ (∀ (f : FuncId) (args : Array Value) (P : Value → H → Prop), (∀ ro4, (∀ a v, ro3 a = some v → ro4 a = some v) → RdSl ⟨[], ro4⟩ s (ints sg.1) → SemCall Tryd.prog f args ⟨own ++ bsE r1 { S with L := L', M := M' } :: [bsZ r3], ro4⟩ P) → SemCall Tryd.prog f args ⟨own ++ bsE r1 { S with L := L', M := M' } :: (bsZ r3 :: X), ro3⟩ P), ?_, ?_⟩
  · unfold lpH
    rcases hcase with ⟨h1, h2⟩ | ⟨t, wt, h1, h2, h3, h4⟩
    · rw [seesGo_nil _ _ _ _ _ _ hff, List.take_of_length_le (Nat.le_of_eq ell)] at h2
      refine VIf_dec (fun h => absurd h (by rw [h1]; decide)) (fun _ => VIf_b (fun hs => ?_) (fun hs => ?_))
      · refine bd_seen (S2 := { S with L := L', M := M' }) (sl := s') (ls := g.last ++ [w]) hn hq la (hL'.mono (by simp) mm) hsl2 (hs2.up mm) ell (fun s eo ho => ⟨[eo], rfl, by rw [h2]; exact hs, fun f args P hP => ?_⟩)
        refine SemCall.frz (own ++ [bsE r1 { S with L := L', M := M' }, bsZ r3]) eo [] (by simp) ho (fun ro4 q4 h4 => ?_)
        rw [show (own ++ [bsE r1 { S with L := L', M := M' }, bsZ r3]) ++ [] = own ++ bsE r1 { S with L := L', M := M' } :: [bsZ r3] by simp]
        exact hP ro4 q4 (by rw [h2]; exact RdRows.sl h4)
      · refine rS0 (bsE r1 { S with L := L', M := M' }) m1 rfl rfl (rS0 (bsE r1 { S with L := L', M := M' }) m1 rfl rfl (at_v hL' mm hsl2 ?_))
        refine ref3_reads_c (x := s') (f2.mono (by simp) q13) c0 cF bF (fun F' ro4 q4 hF' _ => ⟨F', rfl, bs_w { S with L := L', M := M', F := F' } rfl (by decide) rfl ?_⟩)
        refine rS0 (bsE r1 { S with L := L', M := M', F := F' }) m1 rfl rfl (ref3_reads_c (x := zV) (hL'.mono (by simp) (fun a v h => q4 a v (mm a v h))) c0 (len_facts (lL'.trans (by simpa using (l2.len.trans ((List.length_map _).trans l1)))) hq hn).1 (len_facts (lL'.trans (by simpa using (l2.len.trans ((List.length_map _).trans l1)))) hq hn).2 (fun L2 ro5 q5 hL2 _ => ⟨L2, rfl, bs_w { S with L := L2, M := M', F := F' } rfl (by decide) rfl ?_⟩))
        rw [Int.toNat_natCast] at hF' hL2
        have q35 : ∀ a v, ro3 a = some v → ro5 a = some v := fun a v h => q5 a v (q4 a v h)
        have q15 : ∀ a v, ro a = some v → ro5 a = some v := fun a v h => q35 a v (q13 a v h)
        refine fin (k1 (by rw [h2]; exact hs) { S with L := L2, M := M', F := F' } ro5 q15 ⟨hrw.up q15, ?_, ⟨vs, v1, v2.mono (by simp) q15, val_set (f := fun h => h.value) v3 hg n0 (fun _ => rfl)⟩, ⟨rs, r1', r2.mono (by simp) q15, val_set (f := fun h => h.writes) r3' hg n0 (fun _ => rfl)⟩, ⟨fs.set q s', by simpa using f1, hF'.mono (by simp) q5, ?_⟩, ⟨(ls.set q s').set q zV, by simpa using l1, hL2, ?_⟩, ⟨ms', lms, hMs.mono (by simp) q35, ?_⟩, ⟨ss, s1, s2.mono (by simp) q15, ?_⟩⟩)
        · dsimp only
          exact a_same hg rfl (a.mono (by simp) q15)
        · refine fld_set (α := Unit) (Q := fun s h => RdWs ro5 s h.first) (fun p h hp hl => ?_) kf (fun _ => hs2.up (fun a v h => q35 a v (mm a v h))) ()
          obtain ⟨s, e1, e2⟩ := f3 p h hp hl; exact ⟨s, e1, e2.up q15⟩
        · rw [List.set_set]
          refine fld_set (α := Unit) (Q := fun s h => RdWs ro5 s h.last) (fun p h hp hl => ?_) kl (fun _ => RdWs.nil ro5) ()
          obtain ⟨s, e1, e2⟩ := l3 p h hp hl; exact ⟨s, e1, e2.up q15⟩
        · refine othM q35 (fun _ => ⟨sm, hsm', ?_⟩)
          show RdSl ⟨[], ro5⟩ sm (ints sg.2.2)
          rw [h2]; exact hmv'.mono (by simp) q35
        · refine fld_keep (P := fun h => h.ln = 3) (Q := fun s h => RdSl ⟨[], ro5⟩ s (ints h.moved)) (fun p h hp hl => ?_) (fun h => absurd h n3)
          obtain ⟨s, e1, e2⟩ := s3 p h hp hl; exact ⟨s, e1, e2.mono (by simp) q15⟩
    · obtain ⟨bt, ct, hbt, hct, hctok, rdt⟩ := hs2.at h2
      have ltt := lt_of_get h2 hs2.len
      refine VIf_dec (fun _ => ?_) (fun h => absurd (by rw [h1]; exact Int.natCast_nonneg t) h)
      rw [h1]
      refine rS0 (bsE r1 { S with L := L', M := M' }) m1 rfl rfl (at_v hL' mm hsl2 ⟨bt, hbt, Int.natCast_nonneg t, ltt, ct.2, rd_z (rdt mm rfl rfl), gi ⟨[], rfl, h4, fun f args P hP => hP ro3 id0 ?_⟩⟩)
      rw [h3, ← hct]; exact hctok.1.mono (by simp) mm
  rintro _ s _ ⟨X, rfl, hflag, fz⟩
  refine rS0 (bsE r1 { S with L := L', M := M' }) m1 rfl rfl (at_g (f := Value.bool) r2 q13 (r3' q g hg n0) (VIf_b (fun hwr => ?_) (fun hwr => ?_)))
  · refine rS0 (bsE r1 { S with L := L', M := M' }) m1 rfl rfl (fz _ _ _ (fun ro4 q4 hseen => ?_))
    have q14 : ∀ a v, ro a = some v → ro4 a = some v := fun a v h => q4 a v (q13 a v h)
    refine ref3_rows_c (x := s) (s2.mono (by simp) q14) c0 cS bS (fun S7 ro5 q5 h7 _ => ⟨S7, rfl, bs_w { S with L := L', M := M', S := S7 } rfl (by decide) rfl ?_⟩)
    have q15 : ∀ a v, ro a = some v → ro5 a = some v := fun a v h => q5 a v (q14 a v h)
    refine rS0 (bsE r1 { S with L := L', M := M', S := S7 }) m1 rfl rfl (ref3_set_c (a.mono (by simp) q15) c0 cA bA (fun A' ro6 q6 ha' _ => ⟨A', rfl, bs_w { S with L := L', M := M', S := S7, A := A' } rfl (by decide) rfl ?_⟩))
    rw [Int.toNat_natCast] at h7 ha'
    have q16 : ∀ a v, ro a = some v → ro6 a = some v := fun a v h => q6 a v (q15 a v h)
    have q36 : ∀ a v, ro3 a = some v → ro6 a = some v := fun a v h => q6 a v (q5 a v (q4 a v h))
    refine fin (k3 hflag hwr { S with L := L', M := M', S := S7, A := A' } ro6 q16 ⟨hrw.up q16, ?_, ⟨vs, v1, v2.mono (by simp) q16, val_set (f := fun h => h.value) v3 hg n0 (fun _ => y4)⟩, ⟨rs, r1', r2.mono (by simp) q16, val_set (f := fun h => h.writes) r3' hg n0 (fun _ => y3)⟩, ⟨fs, f1, f2.mono (by simp) q16, othF q36 y12⟩, ⟨ls.set q s', by simpa using l1, hL'.mono (by simp) (fun a v h => q36 a v (mm a v h)), othL q36 y12⟩, ⟨ms', lms, hMs.mono (by simp) q36, othM q36 (fun h => (y12 h).elim)⟩, ⟨ss.set q s, by simpa using s1, h7.mono (by simp) q6, ?_⟩⟩)
    · dsimp only
      rw [map_set_at (f := fun h : SHand => h.ln) (x := 3) y1]; exact ha'
    · refine fld_set (α := Unit) (P := fun h => h.ln = 3) (Q := fun s h => RdSl ⟨[], ro6⟩ s (ints h.moved)) (fun p h hp hl => ?_) ks (fun _ => by rw [y2]; exact hseen.mono (by simp) (fun a v h => q6 a v (q5 a v h))) ()
      obtain ⟨s, e1, e2⟩ := s3 p h hp hl; exact ⟨s, e1, e2.mono (by simp) q16⟩
  · refine rS0 (bsE r1 { S with L := L', M := M' }) m1 rfl rfl (fz _ _ _ (fun ro4 q4 hseen => ?_))
    have q14 : ∀ a v, ro a = some v → ro4 a = some v := fun a v h => q4 a v (q13 a v h)
    refine ref3_set_c (a.mono (by simp) q14) c0 cA bA (fun A' ro5 q5 ha' _ => ⟨A', rfl, bs_w { S with L := L', M := M', A := A' } rfl (by decide) rfl ?_⟩)
    rw [Int.toNat_natCast] at ha'
    have q15 : ∀ a v, ro a = some v → ro5 a = some v := fun a v h => q5 a v (q14 a v h)
    have q35 : ∀ a v, ro3 a = some v → ro5 a = some v := fun a v h => q5 a v (q4 a v h)
    refine fin (k4 hflag hwr { S with L := L', M := M', A := A' } s ro5 q15 ⟨hrw.up q15, ?_, ⟨vs, v1, v2.mono (by simp) q15, val_set (f := fun h => h.value) v3 hg n0 (fun h => absurd rfl h)⟩, ⟨rs, r1', r2.mono (by simp) q15, val_set (f := fun h => h.writes) r3' hg n0 (fun h => absurd rfl h)⟩, ⟨fs, f1, f2.mono (by simp) q15, othF q35 (fun h => by rcases h with h | h <;> cases h)⟩, ⟨ls.set q s', by simpa using l1, hL'.mono (by simp) (fun a v h => q35 a v (mm a v h)), othL q35 (fun h => by rcases h with h | h <;> cases h)⟩, ⟨ms', lms, hMs.mono (by simp) q35, othM q35 (fun h => by rcases h with h | h <;> cases h)⟩, ⟨ss, s1, s2.mono (by simp) q15, ?_⟩⟩ (hseen.mono (by simp) q5))
    · dsimp only
      rw [map_set_at (f := fun h : SHand => h.ln) (x := 0) rfl]; exact ha'
    · refine fld_keep (P := fun h => h.ln = 3) (Q := fun s h => RdSl ⟨[], ro5⟩ s (ints h.moved)) (fun p h hp hl => ?_) (fun h => by cases h)
      obtain ⟨s, e1, e2⟩ := s3 p h hp hl; exact ⟨s, e1, e2.mono (by simp) q15⟩
end Go.Proofs.YtnecppjgcbhnaaaDoor
