import Derived.Test.YtnecppjgcbhnaaaDoorBc
namespace Go.Proofs.YtnecppjgcbhnaaaDoor
open Go.Eng
set_option maxRecDepth 20000
/-! ### the document's board: last words read, and what is seen -/
structure LpI (n q : Nat) (ro1 ro' : Addr → Option Value) (ms : List SV) (fs ls : List SWord) (mv0 : List Int) (j : Nat) (helped : Int) (same : Bool) (M' : SV) : Prop where
  mono : ∀ a v, ro1 a = some v → ro' a = some v
  ex : ∃ (ms' : List SV) (sm : SV) (mv : List Int), ms'.length = n ∧ RdSl ⟨[], ro'⟩ M' (ms'.map svV) ∧ (∀ p, p ≠ q → ms'[p]? = ms[p]?) ∧ ms'[q]? = some sm ∧ RdSl ⟨[], ro'⟩ sm (ints mv) ∧ mv.length = n ∧ (∀ x ∈ mv, 0 ≤ x) ∧ (∀ (t : Nat) x, j ≤ t → mv[t]? = some x → x ≤ 1) ∧
    ((helped = -1 ∧ seesGo fs ls 0 mv0 [] true = seesGo (fs.drop j) (ls.drop j) j mv ((ls.take j).map (·.value)) same) ∨ (∃ (t : Nat) (w : SWord), helped = (t : Int) ∧ ls[t]? = some w ∧ (seesGo fs ls 0 mv0 [] true).1 = w.seen ∧ (seesGo fs ls 0 mv0 [] true).2.1 = true))
theorem drop_cons {α : Type} {l : List α} {j : Nat} {x : α} (h : l[j]? = some x) : l.drop j = x :: l.drop (j + 1) := by
  obtain ⟨h1, h2⟩ := List.getElem?_eq_some_iff.1 h
  rw [List.drop_eq_getElem_cons h1, h2]
theorem take_snoc {α : Type} {l : List α} {j : Nat} {x : α} (h : l[j]? = some x) : l.take (j + 1) = l.take j ++ [x] := by
  obtain ⟨h1, h2⟩ := List.getElem?_eq_some_iff.1 h
  rw [List.take_add_one, h]; rfl
def lpH (own : List Ent) (r1 r3 : Nat) (S1 : BS) (M' : SV) (ro' : Addr → Option Value) : H := ⟨own ++ bsE r1 { S1 with M := M' } :: [bsZ r3], ro'⟩
set_option maxHeartbeats 2000000 in
theorem bd_loop {n q r1 r3 : Nat} {S1 : BS} {sf sl sA : SV} {fL lL ms : List SV} {fs ls : List SWord} {mv0 : List Int} {own : List Ent} {ro1 : Addr → Option Value} {post : Value → H → Prop} {K : Int → Bool → H → Prop} {sm0 : SV} (hn : n ≤ 4) (hq : q < n) (lA : sA.len = n)
    (hF : RdSl ⟨[], ro1⟩ S1.F (fL.map svV)) (hsf : fL[q]? = some sf) (hfw : RdWs ro1 sf fs) (hL : RdSl ⟨[], ro1⟩ S1.L (lL.map svV)) (hsl : lL[q]? = some sl) (hlw : RdWs ro1 sl ls) (lf : fs.length = n) (ll : ls.length = n)
    (hM : RdSl ⟨[], ro1⟩ S1.M (ms.map svV)) (lm : ms.length = n) (hsm : ms[q]? = some sm0) (hmv : RdSl ⟨[], ro1⟩ sm0 (ints mv0)) (lmv : mv0.length = n) (bmv : ∀ x ∈ mv0, 0 ≤ x ∧ x ≤ 1)
    (hK : ∀ helped same M' ro', LpI n q ro1 ro' ms fs ls mv0 n helped same M' → K helped same (lpH own r1 r3 S1 M' ro')) :
    ∃ R170 : Int → Bool → H → Prop, (∃ I171 : Nat → Int → Bool → Int → H → Prop, (∃ n172, ∃ h174, Gh (lpH own r1 r3 S1 S1.M ro1) h174 ∧ I171 n172 (-1) true 0 h174) ∧
      ∀ (n172 : Nat) (_ : F) (x175_helped : Int) (x176_same : Bool) (x177_q : Int) (h178 : H), I171 n172 x175_helped x176_same x177_q h178 → f31_L2 (q : Int) r1 sA R170 I171 n172 x175_helped x176_same x177_q h178) ∧
      ∀ (_ : F) (x219_helped : Int) (x220_same : Bool) (h221 : H), R170 x219_helped x220_same h221 → K x219_helped x220_same h221 := by
  have lF := hF.len
  have lL' := hL.len
  rw [List.length_map] at lF lL'
  have c0 : 0 ≤ (q : Int) := Int.natCast_nonneg q
  have lsf := hfw.len
  have lsl := hlw.len
  have m1 : ∀ {e : Ent} {Z : List Ent}, e ∈ own ++ e :: Z := by simp
  have id0 : ∀ {ro : Addr → Option Value} a v, ro a = some v → ro a = some v := fun _ _ h => h
  refine ⟨fun helped same h => ∃ M' ro', h = lpH own r1 r3 S1 M' ro' ∧ LpI n q ro1 ro' ms fs ls mv0 n helped same M', ⟨fun m helped same k h => ∃ (j : Nat) (M' : SV) (ro' : Addr → Option Value), k = (j : Int) ∧ j ≤ n ∧ m = n - j ∧ h = lpH own r1 r3 S1 M' ro' ∧ LpI n q ro1 ro' ms fs ls mv0 j helped same M', ⟨n, gi ⟨0, S1.M, ro1, rfl, Nat.zero_le _, rfl, rfl, id0, ms, sm0, mv0, lm, hM, fun _ _ => rfl, hsm, hmv, lmv, fun x hx => (bmv x hx).1, fun t x _ hx => (bmv x (List.mem_of_getElem? hx)).2, .inl ⟨rfl, by simp⟩⟩⟩, ?_⟩, ?_⟩
  rotate_left
  · rintro _ helped same _ ⟨M', ro', rfl, hI⟩
    exact hK helped same M' ro' hI
  clear hK
  rintro m _ helped same k _ ⟨j, M', ro', rfl, hj, rfl, rfl, hI⟩
  obtain ⟨mm, ms', sm, mv, lms, hMs, oth, hsm', hmv', lmv', bm0, bm1, hcase⟩ := hI
  refine VIf_dec (fun hlt => ?_) (fun hge => gi ?_)
  rotate_left
  · have : j = n := by omega
    subst this
    exact ⟨M', ro', rfl, mm, ms', sm, mv, lms, hMs, oth, hsm', hmv', lmv', bm0, bm1, hcase⟩
  have hjn : j < n := by omega
  have c0j : 0 ≤ (j : Int) := Int.natCast_nonneg j
  have ltF : (j : Int) < ((sf.len : Nat) : Int) := by omega
  have ltL : (j : Int) < ((sl.len : Nat) : Int) := by omega
  obtain ⟨u, hu⟩ : ∃ u, fs[j]? = some u := ⟨_, List.getElem?_eq_getElem (by omega)⟩
  obtain ⟨w, hw⟩ : ∃ w, ls[j]? = some w := ⟨_, List.getElem?_eq_getElem (by omega)⟩
  obtain ⟨x, hx⟩ : ∃ x, mv[j]? = some x := ⟨_, List.getElem?_eq_getElem (by omega)⟩
  obtain ⟨bf, cu, hbf, hcu, _, rdu⟩ := hfw.at hu
  obtain ⟨bl, cw, hbl, hcw, _, rdl⟩ := hlw.at hw
  have x0 := bm0 x (List.mem_of_getElem? hx)
  have x1 := bm1 j x (Nat.le_refl _) hx
  have i64 : In64 ((j : Int) + 1) := ⟨by omega, by omega⟩
  have i65 : In64 (x + 1) := ⟨by omega, by omega⟩
  have ltm : n - (j + 1) < n - j := by omega
  have lsm := hmv'.len
  have lM' := hMs.len
  rw [ints_length] at lsm
  rw [List.length_map] at lM'
  obtain ⟨cM, bM⟩ := len_facts (lM'.trans lms) hq hn
  obtain ⟨cm, bm⟩ := len_facts (lsm.trans lmv') hjn hn
  have kms : q < ms'.length := by omega
  have kmv : j < mv.length := by omega
  have ej : ((j : Int) + 1) = ((j + 1 : Nat) : Int) := by omega
  have next : ∀ {helped' : Int} {same' : Bool} {M2 : SV} {ro2 : Addr → Option Value}, LpI n q ro1 ro2 ms fs ls mv0 (j + 1) helped' same' M2 →
      In64 ((j : Int) + 1) ∧ ∃ m173, m173 < n - j ∧ ∃ h, Gh (lpH own r1 r3 S1 M2 ro2) h ∧ ∃ (j' : Nat) (M3 : SV) (ro3 : Addr → Option Value), ((j : Int) + 1) = (j' : Int) ∧ j' ≤ n ∧ m173 = n - j' ∧ h = lpH own r1 r3 S1 M3 ro3 ∧ LpI n q ro1 ro3 ms fs ls mv0 j' helped' same' M3 := fun {helped' same' M2 ro2} h =>
    ⟨i64, n - (j + 1), ltm, gi ⟨j + 1, M2, ro2, ej, hjn, rfl, rfl, h⟩⟩
  have hfl := drop_cons hu
  have hll := drop_cons hw
  have htk := take_snoc hw
  unfold lpH
  refine rS0 (bsE r1 { S1 with M := M' }) m1 rfl rfl (at_v hF mm hsf ⟨bf, hbf, c0j, ltF, cu.1.turn, rd_z (rdu mm rfl rfl), rS0 (bsE r1 { S1 with M := M' }) m1 rfl rfl (at_v hL mm hsl ⟨bl, hbl, c0j, ltL, cw.1.turn, rd_z (rdl mm rfl rfl), VIf_eq (fun he => ?_) (fun hne => ?_)⟩)⟩)
  · rw [hcu, hcw] at he
    refine next ⟨mm, ms', sm, mv, lms, hMs, oth, hsm', hmv', lmv', bm0, fun t y h1 h2 => bm1 t y (Nat.le_of_succ_le h1) h2, ?_⟩
    rcases hcase with ⟨h1, h2⟩ | h1
    · refine .inl ⟨h1, ?_⟩
      rw [h2, hfl, hll, seesGo, if_neg (not_not_intro he), htk, List.map_append]
      rfl
    · exact .inr h1
  rw [hcu, hcw] at hne
  refine rS0 (bsE r1 { S1 with M := M' }) m1 rfl rfl (rS0 (bsE r1 { S1 with M := M' }) m1 rfl rfl (at_v hMs id0 hsm' (rS0 (bsE r1 { S1 with M := M' }) m1 rfl rfl (at_v hMs id0 hsm' (at_i hmv' id0 hx rfl ⟨i65, ?_⟩)))))
  refine ref3_set_c hmv'.ro c0j cm bm (fun sm2 ro2 q2 hsm2 _ => ⟨⟨[], by simp⟩, sm2, rfl, ?_⟩)
  refine ref3_rows_c (x := sm2) (hMs.mono (by simp) q2) c0 cM bM (fun M2 ro3 q3 hM2 _ => ⟨M2, rfl, bs_w { S1 with M := M2 } rfl (by decide) rfl ?_⟩)
  rw [Int.toNat_natCast] at hsm2 hM2
  have mm3 : ∀ a v, ro1 a = some v → ro3 a = some v := fun a v h => q3 a v (q2 a v (mm a v h))
  have hset : (mv.set j (x + 1))[j]? = some (x + 1) := List.getElem?_set_self kmv
  have base : ∀ {helped' : Int}, ((helped' = -1 ∧ seesGo fs ls 0 mv0 [] true = seesGo (fs.drop (j + 1)) (ls.drop (j + 1)) (j + 1) (mv.set j (x + 1)) ((ls.take (j + 1)).map (·.value)) false) ∨ (∃ (t : Nat) (w : SWord), helped' = (t : Int) ∧ ls[t]? = some w ∧ (seesGo fs ls 0 mv0 [] true).1 = w.seen ∧ (seesGo fs ls 0 mv0 [] true).2.1 = true)) → LpI n q ro1 ro3 ms fs ls mv0 (j + 1) helped' false M2 := fun {helped'} h => by
    refine ⟨mm3, ms'.set q sm2, sm2, mv.set j (x + 1), by simpa using lms, hM2, fun p hp => ?_, List.getElem?_set_self kms, hsm2.mono (by simp) q3, by simpa using lmv', fun y hy => ?_, fun t y h1 h2 => ?_, h⟩
    · rw [List.getElem?_set_ne (Ne.symm hp)]; exact oth p hp
    · rcases mem_set_cases hy with rfl | ⟨i, _, hi⟩
      · exact Int.le_add_one x0
      · exact bm0 y (List.mem_of_getElem? hi)
    · have hjt : j ≠ t := Nat.ne_of_lt h1
      rw [List.getElem?_set_ne hjt] at h2
      exact bm1 t y (Nat.le_of_succ_le h1) h2
  have hgo : helped = -1 → seesGo fs ls 0 mv0 [] true = seesGo (fs.drop j) (ls.drop j) j mv ((ls.take j).map (·.value)) same → seesGo fs ls 0 mv0 [] true = if x + 1 = 2 then (w.seen, true, mv.set j (x + 1)) else seesGo (fs.drop (j + 1)) (ls.drop (j + 1)) (j + 1) (mv.set j (x + 1)) ((ls.take (j + 1)).map (·.value)) false := fun _ h2 => by
    rw [h2, hfl, hll, seesGo, if_pos hne, hx, Option.getD_some, htk, List.map_append]
    rfl
  rcases hcase with ⟨h1, h2⟩ | ⟨t, wt, h1, h2, h3, h4⟩
  · have hg := hgo h1 h2
    refine join_b (h := ⟨own ++ bsE r1 { S1 with M := M2 } :: [bsZ r3], ro3⟩) (decide (x + 1 = 2)) (VIf_dec (fun _ => rS0 (bsE r1 { S1 with M := M2 }) m1 rfl rfl (at_v hM2 id0 (List.getElem?_set_self kms) (at_i (hsm2.mono (by simp) q3) id0 hset rfl (gi ⟨rfl, ?_⟩)))) (fun h => absurd (by rw [h1]; decide) h)) (VIf_dec (fun hc => ?_) (fun hc => ?_))
    · by_cases hc : x + 1 = 2
      · rw [decide_eq_true hc]; exact beq_iff_eq.2 hc
      · rw [decide_eq_false hc]; exact beq_eq_false_iff_ne.2 hc
    · rw [if_pos hc] at hg
      exact next (base (.inr ⟨j, w, rfl, hw, by rw [hg], by rw [hg]⟩))
    · rw [if_neg hc] at hg
      exact next (base (.inl ⟨h1, hg⟩))
  · refine join_b (h := ⟨own ++ bsE r1 { S1 with M := M2 } :: [bsZ r3], ro3⟩) false (VIf_dec (fun h => absurd h (by rw [h1]; exact Int.not_lt.2 (Int.natCast_nonneg t))) (fun _ => gi ⟨rfl, rfl⟩)) (VIf_b (nomatch ·) (fun _ => next (base (.inr ⟨t, wt, h1, h2, h3, h4⟩))))
end Go.Proofs.YtnecppjgcbhnaaaDoor
