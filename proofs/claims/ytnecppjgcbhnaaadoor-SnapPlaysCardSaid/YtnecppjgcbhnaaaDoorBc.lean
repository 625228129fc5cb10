import Derived.Test.YtnecppjgcbhnaaaDoorBb
namespace Go.Proofs.YtnecppjgcbhnaaaDoor
open Go.Eng
set_option maxRecDepth 20000
/-! ### the document's board steps: a first word read, and a word written -/
theorem map_set_same {α : Type} {f : SHand → α} {hs : List SHand} {q : Nat} {g y : SHand} (hg : hs[q]? = some g) (h : f y = f g) : (hs.set q y).map f = hs.map f := by
  refine List.ext_getElem? fun k => ?_
  rw [List.getElem?_map, List.getElem?_map]
  by_cases hk : q = k
  · subst hk
    rw [List.getElem?_set_self (List.getElem?_eq_some_iff.1 hg).1, hg]; simp [h]
  · rw [List.getElem?_set_ne hk]
theorem val_set {α : Type} {f : SHand → α} {hs : List SHand} {xs : List α} {q : Nat} {g y : SHand} (h0 : ∀ (p : Nat) h, hs[p]? = some h → h.ln ≠ 0 → xs[p]? = some (f h)) (hg : hs[q]? = some g) (hl : g.ln ≠ 0) (hy : y.ln ≠ 0 → f y = f g) :
    ∀ (p : Nat) h, (hs.set q y)[p]? = some h → h.ln ≠ 0 → xs[p]? = some (f h) := by
  intro p h hp hz
  rcases set_cases hp with ⟨e1, e2⟩ | ⟨e1, e2⟩
  · subst e1; subst e2; rw [hy hz]; exact h0 _ g hg hl
  · exact h0 p h e2 hz
theorem rd_z {h : H} {x : Addr} {v : Value} (r : H.rd h x v) : H.rd h (Addr.add x 0) v := by rw [add_zero']; exact r
theorem nat_len {a b c : Nat} (h1 : a = b) (h2 : b = c) (hc : c ≤ 4) : a + 1 ≤ 1000000000 := by omega
set_option maxHeartbeats 2000000 in
theorem ref_b1_c {n q : Nat} {b : Board} {S : BS} {g y : SHand} {w : SWord} {own : List Ent} {ro : Addr → Option Value} {post : Value → H → Prop} (hr : BdR ro n b S) (hb : b.hands.length = n) (hw : b.words.length = n) (hn : n ≤ 4) (hq : q < n) (hg : b.hands[q]? = some g) (hl : g.ln = 1)
    (hk0 : 0 ≤ g.k) (hkn : g.k < n) (hf : g.first.length = g.k.toNat) (hwk : b.words[g.k.toNat]? = some w) (hy : y.first = g.first ++ [w] ∧ y.last = g.last ∧ y.moved = g.moved ∧ y.writes = g.writes ∧ y.value = g.value ∧ (g.k + 1 = n ∧ y.ln = 2 ∨ g.k + 1 < n ∧ y.ln = 1))
    (hk : ∀ S' ro', (∀ a v, ro a = some v → ro' a = some v) → BdR ro' n { b with hands := b.hands.set q y } S' → post (bsQ false zV 0 S') ⟨own, ro'⟩) :
    SemCall Tryd.prog 31 (List.toArray [.agg (List.toArray (bsC S)), .int .i64 (q : Int)]) ⟨own, ro⟩ post := by
  have la := hr.a.len
  rw [ints_length, List.length_map, hb] at la
  obtain ⟨hrw, a, ⟨vs, v1, v2, v3⟩, ⟨rs, r1', r2, r3'⟩, ⟨fs, f1, f2, f3⟩, ⟨ls, l1, l2, l3⟩, ⟨ms, m1', m2, m3⟩, ⟨ss, s1, s2, s3⟩⟩ := hr
  have lf := f2.len
  rw [List.length_map] at lf
  have lW := hrw.len
  obtain ⟨cF, bF⟩ := len_facts (lf.trans f1) hq hn
  obtain ⟨cA, bA⟩ := len_facts la hq hn
  have c0 : 0 ≤ (q : Int) := Int.natCast_nonneg q
  have kf : q < fs.length := by rw [f1]; exact hq
  obtain ⟨sf, hsf, hsw⟩ := f3 q g hg (.inl hl)
  have lsf := hsw.len
  obtain ⟨bw, c, hbw, hc1, hcok, rdw⟩ := hrw.at (k := sf.len) (w := w) (by rw [lsf, hf]; exact hwk)
  have lt1 : ((sf.len : Nat) : Int) < ((S.W.len : Nat) : Int) := by omega
  have bsf : sf.len + 1 ≤ 1000000000 := by omega
  have hgl : (b.hands.map (·.ln))[q]? = some g.ln := by rw [List.getElem?_map, hg]; rfl
  have eqn : ∀ {s' : SV}, s'.len = (g.first ++ [c.1]).length → (((s'.len : Nat) : Int) = ((S.A.len : Nat) : Int) → y.ln = 2) ∧ (((s'.len : Nat) : Int) ≠ ((S.A.len : Nat) : Int) → y.ln = 1) := by
    intro s' h
    rw [List.length_append, hf, List.length_singleton] at h
    rcases hy.2.2.2.2.2 with ⟨e1, e2⟩ | ⟨e1, e2⟩
    · exact ⟨fun _ => e2, fun h2 => absurd (by omega) h2⟩
    · exact ⟨fun h2 => absurd h2 (by omega), fun _ => e2⟩
  have i64 : In64 (((S.A.len : Nat) : Int) - 1) := ⟨by omega, by omega⟩
  have inr : 0 ≤ (q : Int) ∧ (q : Int) ≤ ((S.A.len : Nat) : Int) - 1 := by omega
  have n0 : g.ln ≠ 0 := by omega
  obtain ⟨hy1, hy2, hy3, hy4, hy5, hy6⟩ := hy
  have hyn : y.ln ≠ 3 := by omega
  have hg3 : g.ln ≠ 3 := by omega
  clear lW lf la hkn hk0
  refine f31_call _ _ _ _ _ _ _ _ _ _ post ?_
  refine new2 (n1 := 8) (n2 := 8) rfl rfl (fun r1 r3 => ?_)
  have m1 : ∀ {e : Ent} {Z : List Ent}, e ∈ own ++ e :: Z := by simp
  have id0 : ∀ {ro : Addr → Option Value} a v, ro a = some v → ro a = some v := fun _ _ h => h
  have fin : ∀ {ro : Addr → Option Value} {S : BS}, post (bsQ false zV 0 S) ⟨own, ro⟩ → _ := fun {ro S} h =>
    bd_fin (own := own) (Y := []) (ro := ro) (r1 := r1) (r3 := r3) (a0 := S.W) (a1 := S.A) (a2 := S.V) (a3 := S.R) (a4 := S.F) (a5 := S.L) (a6 := S.M) (a7 := S.S) (z0 := zV) (z1 := zV) (z2 := zV) (z3 := zV) (z4 := zV) (z5 := zV) (z6 := zV) (z7 := zV) (Q := fun y0 y1 y2 y3 y4 y5 y6 y7 => .tuple (List.toArray [.agg (List.toArray (bdC y0 y1 y2 y3 y4 y5 y6 y7)), .bool false, .slice none 0 0, .int .i64 0])) (post := post) h
  refine rS0 (bsE r1 S) m1 rfl rfl ⟨i64, ref3_in_c ⟨_, rfl, VIf_not (fun h => absurd inr h) (fun _ => ?_)⟩⟩
  refine rS0 (bsE r1 S) m1 rfl rfl (at_i a id0 hgl rfl (VIf_eq (fun z => absurd z n0) (fun _ => VIf_eq (fun _ => ?_) (fun z => absurd hl z))))
  refine rS0 (bsE r1 S) m1 rfl rfl (rS0 (bsE r1 S) m1 rfl rfl (at_v f2 id0 hsf (rS0 (bsE r1 S) m1 rfl rfl (rS0 (bsE r1 S) m1 rfl rfl (at_v f2 id0 hsf ⟨bw, hbw, Int.natCast_nonneg _, lt1, c.1.value, rdw id0 rfl rfl, c.1.turn, rdw id0 rfl rfl, c.2, rdw id0 rfl rfl, ?_⟩)))))
  refine ref3_behind_c (c := c) hsw hcok bsf (fun s' ro1 q1 hs' => ⟨⟨[], by simp⟩, s', rfl, ?_⟩)
  refine ref3_reads_c (x := s') (f2.mono (by simp) q1) c0 cF bF (fun F' ro2 q2 hF' _ => ⟨F', rfl, bs_w { S with F := F' } rfl (by decide) rfl ?_⟩)
  rw [Int.toNat_natCast] at hF'
  have q12 : ∀ a v, ro a = some v → ro2 a = some v := fun a v h => q2 a v (q1 a v h)
  obtain ⟨e2, e1⟩ := eqn hs'.len
  have done : ∀ {A' : SV} {ro3 : Addr → Option Value}, (∀ a v, ro2 a = some v → ro3 a = some v) → RdSl ⟨[], ro3⟩ A' (ints ((b.hands.map (·.ln)).set q y.ln)) → BdR ro3 n { b with hands := b.hands.set q y } { S with F := F', A := A' } := by
    intro A' ro3 q3 hA
    have q13 : ∀ a v, ro a = some v → ro3 a = some v := fun a v h => q3 a v (q12 a v h)
    refine ⟨hrw.up q13, ?_, ⟨vs, v1, v2.mono (by simp) q13, val_set (f := fun h => h.value) v3 hg n0 (fun _ => hy5)⟩, ⟨rs, r1', r2.mono (by simp) q13, val_set (f := fun h => h.writes) r3' hg n0 (fun _ => hy4)⟩, ⟨fs.set q s', by simpa using f1, hF'.mono (by simp) q3, ?_⟩, ⟨ls, l1, l2.mono (by simp) q13, ?_⟩, ⟨ms, m1', m2.mono (by simp) q13, ?_⟩, ⟨ss, s1, s2.mono (by simp) q13, ?_⟩⟩
    · dsimp only
      rw [map_set_at (f := fun h : SHand => h.ln) (x := y.ln) rfl]; exact hA
    · refine fld_set (α := Unit) (Q := fun s h => RdWs ro3 s h.first) (fun p h hp hl => ?_) kf (fun _ => by rw [hy1, ← hc1]; exact hs'.up (fun a v h => q3 a v (q2 a v h))) ()
      obtain ⟨s, e1, e2⟩ := f3 p h hp hl; exact ⟨s, e1, e2.up q13⟩
    · refine fld_keep (Q := fun s h => RdWs ro3 s h.last) (fun p h hp hl => ?_) (fun _ => ?_)
      · obtain ⟨s, e1, e2⟩ := l3 p h hp hl; exact ⟨s, e1, e2.up q13⟩
      · obtain ⟨s, e1, e2⟩ := l3 q g hg (.inl hl); exact ⟨s, e1, by rw [hy2]; exact e2.up q13⟩
    · refine fld_keep (Q := fun s h => RdSl ⟨[], ro3⟩ s (ints h.moved)) (fun p h hp hl => ?_) (fun _ => ?_)
      · obtain ⟨s, e1, e2⟩ := m3 p h hp hl; exact ⟨s, e1, e2.mono (by simp) q13⟩
      · obtain ⟨s, e1, e2⟩ := m3 q g hg (.inl hl); exact ⟨s, e1, by rw [hy3]; exact e2.mono (by simp) q13⟩
    · refine fld_keep (P := fun h => h.ln = 3) (Q := fun s h => RdSl ⟨[], ro3⟩ s (ints h.moved)) (fun p h hp hl => ?_) (fun h => absurd h hyn)
      obtain ⟨s, e1, e2⟩ := s3 p h hp hl; exact ⟨s, e1, e2.mono (by simp) q13⟩
  refine rS0 (bsE r1 { S with F := F' }) m1 rfl rfl (at_v hF' id0 (List.getElem?_set_self kf) ⟨_, ?_, fun _ _ h => h⟩)
  refine VIf_eq (fun he => ?_) (fun he => gi (fin (hk _ ro2 q12 (done (A' := S.A) id0 ?_))))
  · refine rS0 (bsE r1 { S with F := F' }) m1 rfl rfl (ref3_set_c (a.mono (by simp) q12) c0 cA bA (fun A' ro3 q3 ha' _ => ⟨A', rfl, bs_w { S with F := F', A := A' } rfl (by decide) rfl (gi (fin (hk _ ro3 (fun a v h => q3 a v (q12 a v h)) (done q3 ?_))))⟩))
    rw [Int.toNat_natCast] at ha'
    rw [e2 he]; exact ha'
  · have : (b.hands.map (·.ln)).set q y.ln = b.hands.map (·.ln) := by
      rw [← map_set_at (f := fun h : SHand => h.ln) (y := y) rfl]; exact map_set_same hg ((e1 he).trans hl.symm)
    rw [this]; exact a.mono (by simp) q12
set_option maxHeartbeats 2000000 in
theorem ref_b3_c {n q : Nat} {b : Board} {S : BS} {g : SHand} {w : SWord} {own : List Ent} {ro : Addr → Option Value} {post : Value → H → Prop} (hr : BdR ro n b S) (hb : b.hands.length = n) (hw : b.words.length = n) (hn : n ≤ 4) (hq : q < n) (hg : b.hands[q]? = some g) (hl : g.ln = 3)
    (hwq : b.words[q]? = some w) (ht : 0 ≤ w.turn ∧ w.turn ≤ 1000000) (hm : g.moved.length ≤ 4)
    (hk : ∀ S' ro', (∀ a v, ro a = some v → ro' a = some v) → BdR ro' n { words := b.words.set q ⟨g.value, w.turn + 1, g.moved⟩, hands := b.hands.set q shand0 } S' → post (bsQ true zV 0 S') ⟨own, ro'⟩) :
    SemCall Tryd.prog 31 (List.toArray [.agg (List.toArray (bsC S)), .int .i64 (q : Int)]) ⟨own, ro⟩ post := by
  have la := hr.a.len
  rw [ints_length, List.length_map, hb] at la
  obtain ⟨hrw, a, ⟨vs, v1, v2, v3⟩, ⟨rs, r1', r2, r3'⟩, ⟨fs, f1, f2, f3⟩, ⟨ls, l1, l2, l3⟩, ⟨ms, m1', m2, m3⟩, ⟨ss, s1, s2, s3⟩⟩ := hr
  have lW := hrw.len
  have n0 : g.ln ≠ 0 := by omega
  have n1 : g.ln ≠ 1 := by omega
  obtain ⟨cA, bA⟩ := len_facts la hq hn
  obtain ⟨cW, bW⟩ := len_facts (lW.trans hw) hq hn
  have c0 : 0 ≤ (q : Int) := Int.natCast_nonneg q
  obtain ⟨sg, hsg, hsm⟩ := s3 q g hg hl
  obtain ⟨bw, c, hbw, hc1, hcok, rdw⟩ := hrw.at hwq
  obtain ⟨cs, hcs1, hcs2, hcs3⟩ := hrw
  have hgl : (b.hands.map (·.ln))[q]? = some g.ln := by rw [List.getElem?_map, hg]; rfl
  have i64 : In64 (((S.A.len : Nat) : Int) - 1) := ⟨by omega, by omega⟩
  have i65 : In64 (c.1.turn + 1) := by rw [hc1]; exact ⟨by omega, by omega⟩
  have inr : 0 ≤ (q : Int) ∧ (q : Int) ≤ ((S.A.len : Nat) : Int) - 1 := by omega
  have hlW := lW.trans hw
  obtain ⟨cq, hcq⟩ : ∃ cq, cs[q]? = some cq := by
    rw [← hcs1, List.getElem?_map] at hwq
    cases h : cs[q]? with
    | none => rw [h] at hwq; cases hwq
    | some x => exact ⟨x, rfl⟩
  clear la lW
  refine f31_call _ _ _ _ _ _ _ _ _ _ post ?_
  refine new2 (n1 := 8) (n2 := 8) rfl rfl (fun r1 r3 => ?_)
  have m1 : ∀ {e : Ent} {Z : List Ent}, e ∈ own ++ e :: Z := by simp
  have id0 : ∀ {ro : Addr → Option Value} a v, ro a = some v → ro a = some v := fun _ _ h => h
  have fin : ∀ {ro : Addr → Option Value} {S : BS}, post (bsQ true zV 0 S) ⟨own, ro⟩ → _ := fun {ro S} h =>
    bd_fin (own := own) (Y := []) (ro := ro) (r1 := r1) (r3 := r3) (a0 := S.W) (a1 := S.A) (a2 := S.V) (a3 := S.R) (a4 := S.F) (a5 := S.L) (a6 := S.M) (a7 := S.S) (z0 := zV) (z1 := zV) (z2 := zV) (z3 := zV) (z4 := zV) (z5 := zV) (z6 := zV) (z7 := zV) (Q := fun y0 y1 y2 y3 y4 y5 y6 y7 => .tuple (List.toArray [.agg (List.toArray (bdC y0 y1 y2 y3 y4 y5 y6 y7)), .bool true, .slice none 0 0, .int .i64 0])) (post := post) h
  refine rS0 (bsE r1 S) m1 rfl rfl ⟨i64, ref3_in_c ⟨_, rfl, VIf_not (fun h => absurd inr h) (fun _ => ?_)⟩⟩
  refine rS0 (bsE r1 S) m1 rfl rfl (at_i a id0 hgl rfl (VIf_eq (fun z => absurd z n0) (fun _ => VIf_eq (fun z => absurd z n1) (fun _ => VIf_eq (fun _ => ?_) (fun z => absurd hl z)))))
  refine rS0 (bsE r1 S) m1 rfl rfl (app_newG grows_rws (hcs2.mono (by simp) id0) (allOne_words cs) bW (fun W' eW oW lW hfW => ?_))
  have e0 : (own ++ [bsE r1 S, bsZ r3]) ++ [eW] = own ++ bsE r1 S :: (bsZ r3 :: [eW]) := by simp
  refine rS0 (bsE r1 S) (by simp [bsE, bdE, bdC]) rfl rfl (at_i v2 id0 (v3 q g hg n0) rfl (rS0 (bsE r1 S) (by simp [bsE, bdE, bdC]) rfl rfl ⟨bw, hbw, c0, cW, c.1.turn, rd_z (rdw id0 rfl rfl), i65, rS0 (bsE r1 S) (by simp [bsE, bdE, bdC]) rfl rfl (at_v s2 id0 hsg ?_)⟩))
  obtain ⟨b2, hb2⟩ : ∃ b2, W'.a = some b2 := by
    rcases oW with ⟨h1, h2, _⟩ | ⟨b, off, h1, _⟩
    · rw [lW, hlW] at h2; omega
    · exact ⟨_, h1⟩
  refine ⟨b2, hb2, c0, (len_facts (lW.trans hlW) hq hn).1, rfl, rfl, ?_⟩
  rw [← add_zero' (Addr.add b2 _)]
  rw [Int.toNat_natCast]
  refine wr_row cwV_len (by decide) (x' := ((⟨g.value, c.1.turn + 1, g.moved⟩, sg) : CW)) (own ++ [bsE r1 S, bsZ r3]) eW [] (by simp [bsE, bdE, bdC]; rfl) oW hcq hb2 (by simp) rfl ⟨rfl, rfl, rfl, trivial⟩ (fun eW2 oW2 _ => ?_)
  rw [show (own ++ [bsE r1 S, bsZ r3]) ++ eW2 :: [] = own ++ bsE r1 S :: (bsZ r3 :: [eW2]) by simp]
  refine bs_w0 { S with W := W' } rfl rfl ?_
  refine rS0 (bsE r1 { S with W := W' }) m1 rfl rfl ?_
  refine SemCall.frz (own ++ [bsE r1 { S with W := W' }, bsZ r3]) eW2 [] (by simp) oW2 (fun ro1 q1 hW1 => ?_)
  rw [show (own ++ [bsE r1 { S with W := W' }, bsZ r3]) ++ [] = own ++ bsE r1 { S with W := W' } :: [bsZ r3] by simp]
  refine ref3_set_c (a.mono (by simp) q1) c0 cA bA (fun A' ro2 q2 ha' _ => ⟨A', rfl, bs_w { S with W := W', A := A' } rfl (by decide) rfl ?_⟩)
  rw [Int.toNat_natCast] at ha'
  have q12 : ∀ a v, ro a = some v → ro2 a = some v := fun a v h => q2 a v (q1 a v h)
  refine fin (hk _ ro2 q12 ⟨⟨cs.set q (⟨g.value, c.1.turn + 1, g.moved⟩, sg), ?_, hW1.mono (by simp) q2, fun x hx => ?_⟩, ?_, ⟨vs, v1, v2.mono (by simp) q12, val_set (f := fun h => h.value) v3 hg n0 (fun h => absurd rfl h)⟩, ⟨rs, r1', r2.mono (by simp) q12, val_set (f := fun h => h.writes) r3' hg n0 (fun h => absurd rfl h)⟩, ⟨fs, f1, f2.mono (by simp) q12, ?_⟩, ⟨ls, l1, l2.mono (by simp) q12, ?_⟩, ⟨ms, m1', m2.mono (by simp) q12, ?_⟩, ⟨ss, s1, s2.mono (by simp) q12, ?_⟩⟩)
  · dsimp only
    rw [List.map_set, hcs1, hc1]
  · rcases mem_set_cases hx with rfl | ⟨j, _, hj⟩
    · exact ⟨hsm.mono (by simp) q12, hm⟩
    · exact (hcs3 x (List.mem_of_getElem? hj)).up q12
  · dsimp only
    rw [map_set_at (f := fun h : SHand => h.ln) (x := 0) rfl]; exact ha'
  · refine fld_keep (Q := fun s h => RdWs ro2 s h.first) (fun p h hp hl => ?_) (fun h => by rcases h with h | h <;> cases h)
    obtain ⟨s, e1, e2⟩ := f3 p h hp hl; exact ⟨s, e1, e2.up q12⟩
  · refine fld_keep (Q := fun s h => RdWs ro2 s h.last) (fun p h hp hl => ?_) (fun h => by rcases h with h | h <;> cases h)
    obtain ⟨s, e1, e2⟩ := l3 p h hp hl; exact ⟨s, e1, e2.up q12⟩
  · refine fld_keep (Q := fun s h => RdSl ⟨[], ro2⟩ s (ints h.moved)) (fun p h hp hl => ?_) (fun h => by rcases h with h | h <;> cases h)
    obtain ⟨s, e1, e2⟩ := m3 p h hp hl; exact ⟨s, e1, e2.mono (by simp) q12⟩
  · refine fld_keep (P := fun h => h.ln = 3) (Q := fun s h => RdSl ⟨[], ro2⟩ s (ints h.moved)) (fun p h hp hl => ?_) (fun h => by cases h)
    obtain ⟨s, e1, e2⟩ := s3 p h hp hl; exact ⟨s, e1, e2.mono (by simp) q12⟩
end Go.Proofs.YtnecppjgcbhnaaaDoor
