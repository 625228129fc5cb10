import Derived.Test.YtogbkgimpkaemaaL2
namespace Go.Proofs.Ytogbkgimpkaemaa
open Go.Eng
set_option maxRecDepth 20000
/-! ### the search -/
def srchE (p : Nat) (k : Int) (r : Nat) (sh sp so : SV) (d : Int) : Ent := ⟨some p, [errV (some (objT k, .pointer (some (Addr.mk r 0 none)))), .slice sh.a sh.len sh.cap, .slice sp.a sp.len sp.cap, .slice so.a so.len so.cap, .int .i64 d], 5⟩
def nints (l : List Nat) : List Value := ints (l.map Int.ofNat)
theorem nints_length (l : List Nat) : (nints l).length = l.length := by simp [nints]
theorem srch_wd {p : Nat} {k : Int} {r : Nat} {sh sp so : SV} {d d' : Int} {R : List Ent} {ro : Addr → Option Value} {K : H → Prop} (hK : K ⟨srchE p k r sh sp so d' :: R, ro⟩) : H.wr ⟨srchE p k r sh sp so d :: R, ro⟩ (Addr.mk p 4 none) [.int .i64 d'] K :=
  wro [] (srchE p k r sh sp so d) R ⟨rfl, trivial⟩ rfl rfl (by simp [srchE]) hK
theorem srch_ws {p : Nat} {k : Int} {r : Nat} {sh sp so so' : SV} {d : Int} {R : List Ent} {ro : Addr → Option Value} {K : H → Prop} (hK : K ⟨srchE p k r sh sp so' d :: R, ro⟩) : H.wr ⟨srchE p k r sh sp so d :: R, ro⟩ (Addr.mk p 3 none) [.slice so'.a so'.len so'.cap] K :=
  wro [] (srchE p k r sh sp so d) R ⟨rfl, trivial⟩ rfl rfl (by simp [srchE]) hK
def Srch (k : Int) (p r : Nat) (sh sp : SV) (ep : Ent) (out : List Nat) (st : List Int) (L : List Ent) : Prop :=
  ∃ so eo Lo d, L = srchE p k r sh sp so d :: ep :: eo :: Lo ∧ OwnsSl 1 so eo (nints out) ∧ ObjAt k r st Lo ∧ Msk d (· ∈ out)
/-- what was over when an op began -/
def PreOk (os : List LOp) (pre : List Int) : Prop := pre.length = os.length ∧ ∀ (j : Nat) (o : LOp), os[j]? = some o → ∃ m, pre[j]? = some m ∧ Msk m fun q => ∃ oq, os[q]? = some oq ∧ oq.too ≤ o.frm
structure LOps (os : List LOp) : Prop where
  n : os.length ≤ 8
  o : ∀ o ∈ os, 0 ≤ o.arg ∧ o.arg ≤ 1000 ∧ o.frm < o.too
open Classical in
theorem find_c {k : Int} {os : List LOp} {p r : Nat} {sh sp : SV} {ep : Ent} {pre : List Int} {ro : Addr → Option Value} (k0 : 0 ≤ k) (k2 : k ≤ 2) (hos : LOps os) (hsh : RdRows ⟨[], ro⟩ 6 sh (os.flatMap lopV)) (hep : OwnsSl 1 sp ep (ints pre)) (hpre : PreOk os pre) :
    ∀ (m : Nat) (out : List Nat) (st : List Int) (own A C L : List Ent) (post : Value → H → Prop), own = A ++ (L ++ C) → Srch k p r sh sp ep out st L → out.length + m = os.length → (∀ i ∈ out, i < os.length) → LSt k st out.length → (k = 0 → ∃ x, st = [x]) →
      (∀ l L' st', lfind k os m out st = some l → Srch k p r sh sp ep l st' L' → post (.bool true) ⟨A ++ (L' ++ C), ro⟩) →
      (∀ L', lfind k os m out st = none → Srch k p r sh sp ep out st L' → post (.bool false) ⟨A ++ (L' ++ C), ro⟩) →
      SemCall Try.prog 37 (List.toArray [.pointer (some (Addr.mk p 0 none))]) ⟨own, ro⟩ post := by
  have hshl := hsh.len lopV_len (by decide)
  have hn8 := hos.n
  intro m
  induction m with
  | zero =>
    intro out st own A C L post hown hs hm _ _ _ hk1 _
    subst hown
    obtain ⟨so, eo, Lo, d, rfl, ho, hob, hd⟩ := hs
    have hsl := ho.sl_len
    rw [nints_length] at hsl
    refine f37_call _ _ post ?_
    simp only [f37_sem, add_mk', Option.some.injEq, exists_eq_left', Nat.zero_add, Nat.add_zero]
    have mE : srchE p k r sh sp so d ∈ A ++ (srchE p k r sh sp so d :: ep :: eo :: Lo ++ C) := by simp
    refine ⟨so, rdo _ mE rfl rfl, sh, rdo _ mE rfl rfl, VIf_eq (fun _ => ret ?_) (fun h => absurd (by omega) h)⟩
    exact hk1 out _ st rfl ⟨so, eo, Lo, d, rfl, ho, hob, hd⟩
  | succ m ih =>
    intro out st own A C L post hown hs hm hlt hLS h1s hk1 hk2
    refine lift2 A C hown (Q := fun v L' => (∃ l st', lfind k os (m + 1) out st = some l ∧ v = .bool true ∧ Srch k p r sh sp ep l st' L') ∨ (lfind k os (m + 1) out st = none ∧ v = .bool false ∧ Srch k p r sh sp ep out st L')) ?_ (fun v L' hq => by
      rcases hq with ⟨l, st', a, rfl, b⟩ | ⟨a, rfl, b⟩
      · exact hk1 l L' st' a b
      · exact hk2 L' a b)
    clear hk1 hk2 hown
    intro post hk
    obtain ⟨F, hF⟩ : ∃ F : Nat → Option (List Nat), F = fun i => match os[i]? with
      | none => none
      | some o => if lcan os out i o ∧ lgot k st o = o.got then lfind k os m (out ++ [i]) (lgo k st o) else none := ⟨_, rfl⟩
    have hfind : lfind k os (m + 1) out st = (List.range os.length).findSome? F := by rw [hF]; rfl
    have hFi : ∀ {i : Nat} {o : LOp}, os[i]? = some o → F i = if lcan os out i o ∧ lgot k st o = o.got then lfind k os m (out ++ [i]) (lgo k st o) else none := fun {i o} ho => by rw [hF]; simp only [ho]
    have hyes : ∀ {i : Nat} {l : List Nat}, i < os.length → (∀ q, q < i → F q = none) → F i = some l → lfind k os (m + 1) out st = some l := by
      intro i l hi hq hl
      rw [hfind]
      obtain ⟨b, hb⟩ := findSome_range_some (f := F) hi (by rw [hl]; rfl)
      obtain ⟨j, hj, h2, h3⟩ := findSome_range hb
      have : j = i := by
        rcases Nat.lt_trichotomy j i with h | h | h
        · rw [hq j h] at h2; cases h2
        · exact h
        · rw [h3 i h] at hl; cases hl
      subst this
      rw [hb, ← h2, hl]
    obtain ⟨so0, eo0, Lo0, d0, hL0, ho0, hob0, hd0⟩ := hs
    subst hL0
    have hsl := ho0.sl_len
    rw [nints_length] at hsl
    refine f37_call _ _ post ?_
    simp only [f37_sem, add_mk', Option.some.injEq, exists_eq_left', Nat.zero_add, Nat.add_zero]
    refine ⟨so0, rdo (srchE p k r sh sp so0 d0) (by simp) rfl rfl, sh, rdo (srchE p k r sh sp so0 d0) (by simp) rfl rfl, VIf_eq (fun h => absurd h (by omega)) (fun _ => ?_)⟩
    refine ⟨sh, rdo (srchE p k r sh sp so0 d0) (by simp) rfl rfl, ?_⟩
    refine ⟨fun h => lfind k os (m + 1) out st = none ∧ ∃ L', h = ⟨L', ro⟩ ∧ Srch k p r sh sp ep out st L', ⟨fun n i h => ∃ j : Nat, i = (j : Int) ∧ j ≤ os.length ∧ n = os.length - j ∧ (∀ q, q < j → F q = none) ∧ ∃ L', h = ⟨L', ro⟩ ∧ Srch k p r sh sp ep out st L', ⟨_, gi ⟨0, rfl, Nat.zero_le _, rfl, fun q hq => absurd hq (by omega), _, rfl, ⟨so0, eo0, Lo0, d0, rfl, ho0, hob0, hd0⟩⟩⟩, ?_⟩, ?_⟩
    rotate_left
    · rintro _ _ ⟨hnone, L', rfl, hs⟩
      exact ret (hk _ _ (.inr ⟨hnone, rfl, hs⟩))
    clear ho0 hob0 hd0 hsl
    rintro n _ i _ ⟨j, rfl, hj, rfl, hq, L', rfl, so, eo, Lo, d, rfl, ho, hob, hd⟩
    have hsl := ho.sl_len
    rw [nints_length] at hsl
    unfold f37_L3
    simp only [add_mk', Option.some.injEq, exists_eq_left', Nat.zero_add, Nat.add_zero, Int.toNat_natCast]
    refine VIf_dec (fun hi => ?_) (fun hi => gi ⟨?_, _, rfl, so, eo, Lo, d, rfl, ho, hob, hd⟩)
    rotate_left
    · rw [hfind, List.findSome?_eq_none_iff]
      intro q hq2
      exact hq q (by have := List.mem_range.1 hq2; omega)
    have hjl : j < os.length := by omega
    obtain ⟨b, o, hb, hoj, hrow⟩ := hsh.row lopV_len (by decide) (i := (j : Int)) (by omega) hi
    rw [Int.toNat_natCast] at hoj hrow
    obtain ⟨oa0, oa1, oft⟩ := hos.o o (List.mem_of_getElem? hoj)
    have hrow' : ∀ {own : List Ent} (q : Nat) (v : Value), (lopV o)[q]? = some v → H.rd ⟨own, ro⟩ (Addr.add (Addr.add b (j * 6)) q) v := fun q v hv => (hrow q v hv).own (by simp) rfl
    refine ⟨b, hb, by omega, hi, ?_⟩
    refine ⟨_, hrow' 0 _ rfl, _, hrow' 1 _ rfl, _, hrow' 2 _ rfl, _, hrow' 3 _ rfl, _, hrow' 4 _ rfl, _, hrow' 5 _ rfl, ?_⟩
    intro r21 hf21
    refine ⟨rfl, by kernel_rfl, wro (srchE p k r sh sp so d :: ep :: eo :: Lo) _ [] (allOne_lop o) rfl rfl (by simp) ?_⟩
    have hop : ∀ {X : Ent}, X = ⟨some r21, spl [Value.int .i64 (0 : Int), .int .i64 0, .int .i64 0, .int .i64 0, .int .i64 0, .int .i64 0] 0 (lopV o), 6⟩ → X = ⟨some r21, lopV o, 6⟩ := fun h => by rw [h]; simp [spl, lopV]
    simp only [List.cons_append]
    obtain ⟨E, hE⟩ : ∃ E : Ent, E = ⟨some r21, lopV o, 6⟩ := ⟨_, rfl⟩
    have hEE : (⟨some r21, spl [Value.int .i64 (0 : Int), .int .i64 0, .int .i64 0, .int .i64 0, .int .i64 0, .int .i64 0] 0 [Value.int .i64 o.hand, .int .i64 o.kind, .int .i64 o.arg, .int .i64 o.got, .int .i64 o.frm, .int .i64 o.too], List.length [Value.int .i64 (0 : Int), .int .i64 0, .int .i64 0, .int .i64 0, .int .i64 0, .int .i64 0]⟩ : Ent) = E := by rw [hE]; simp [spl, lopV]
    rw [hEE]
    have hEr : ∀ {own : List Ent} (q : Nat) (v : Value), E ∈ own → (lopV o)[q]? = some v → H.rd ⟨own, ro⟩ (Addr.mk r21 q none) v := fun q v hm hv => rdo E hm (by rw [hE]) (by rw [hE]; exact hv)
    -- may it come next?
    refine join_b (h := ⟨srchE p k r sh sp so d :: ep :: eo :: (Lo ++ [E]), ro⟩) (!decide (lcan os out j o)) ?_ ?_
    · refine ⟨d, rdo (srchE p k r sh sp so d) (by simp) rfl rfl, lhas_c (by omega) (by omega) ⟨_, rfl, VIf_b (fun hbit => gi ⟨rfl, ?_⟩) (fun hbit => ?_)⟩⟩
      · have : j ∈ out := (hd.2.2 j (by omega)).1 hbit
        simp [lcan, this]
      · have hnj : j ∉ out := fun h => by rw [(hd.2.2 j (by omega)).2 h] at hbit; cases hbit
        refine ⟨sp, rdo (srchE p k r sh sp so d) (by simp) rfl rfl, ?_⟩
        have hrp : RdSl ⟨srchE p k r sh sp so d :: ep :: eo :: (Lo ++ [E]), ro⟩ sp (ints pre) := RdSl.of_own (e := ep) (by simp) hep
        refine hrp.idx (i := (j : Int)) (by omega) (by rw [hrp.len, ints_length, hpre.1]; omega) (fun x hx => ?_)
        rw [Int.toNat_natCast] at hx
        obtain ⟨mm, hm1, hm2⟩ := hpre.2 j o hoj
        rw [hx] at hm1
        cases hm1
        refine ⟨d, rdo (srchE p k r sh sp so d) (by simp) rfl rfl, gi ⟨rfl, ?_⟩⟩
        have hsub := hm2.sub hd
        have hiff : (bitsV .andNot x d = 0) ↔ lcan os out j o := by
          rw [hsub]
          constructor
          · exact fun h => ⟨hnj, fun q oq hq hle => h q (by have := (List.getElem?_eq_some_iff.1 hq).1; omega) ⟨oq, hq, hle⟩⟩
          · rintro ⟨_, h⟩ q _ ⟨oq, hq, hle⟩
            exact h q oq hq hle
        by_cases hc : lcan os out j o
        · rw [hiff.2 hc]; simp [hc]
        · have : bitsV .andNot x d ≠ 0 := fun h => hc (hiff.1 h)
          simp [hc, this]
    unfold f37_J2
    simp only [add_mk', Option.some.injEq, exists_eq_left', Nat.zero_add, Nat.add_zero, Int.toNat_natCast]
    -- the next one
    have next : ∀ {X : List Ent}, F j = none → Srch k p r sh sp ep out st X → ∀ (h : H), (∃ Y, h = ⟨Y, ro⟩ ∧ X.Sublist Y) → ∃ m', m' < os.length - j ∧ ∃ h2, Gh h h2 ∧ ∃ j' : Nat, ((j : Int) + 1) = (j' : Int) ∧ j' ≤ os.length ∧ m' = os.length - j' ∧ (∀ q, q < j' → F q = none) ∧ ∃ L', h2 = ⟨L', ro⟩ ∧ Srch k p r sh sp ep out st L' := by
      rintro X hFj hX h ⟨Y, rfl, hXY⟩
      exact ⟨os.length - (j + 1), by omega, ⟨X, ro⟩, Gh.drop hXY, j + 1, by omega, by omega, rfl, fun q hq' => by
        by_cases h : q = j
        · rw [h]; exact hFj
        · exact hq q (by omega), X, rfl, hX⟩
    refine VIf_nb (fun hc => ?_) (fun hc => ?_)
    rotate_left
    · have hc : lcan os out j o := by simpa using hc
      refine ⟨some (objT k, .pointer (some (Addr.mk r 0 none))), rdo (srchE p k r sh sp so d) (by simp) rfl rfl, _, hEr 0 _ (by simp) rfl, _, hEr 1 _ (by simp) rfl, _, hEr 2 _ (by simp) rfl, _, hEr 3 _ (by simp) rfl, _, hEr 4 _ (by simp) rfl, _, hEr 5 _ (by simp) rfl, ?_⟩
      refine obj_do (o := o) [srchE p k r sh sp so d, ep, eo] [E] (by simp) hob hLS (by omega) k0 k2 oa0 oa1 (fun Lo1 hob1 => ⟨_, rfl, _, hEr 3 _ (by simp) rfl, ?_⟩)
      simp only [List.cons_append, List.nil_append]
      refine ⟨fun h => F j = none ∧ ∃ so' eo' d' Lo' Z, h = ⟨srchE p k r sh sp so' d' :: ep :: eo' :: (Lo' ++ E :: Z), ro⟩ ∧ OwnsSl 1 so' eo' (nints out) ∧ ObjAt k r (lgo k st o) Lo' ∧ Msk d' (· ∈ out), VIf_eq (fun hg => ?_) (fun hg => gi ⟨by rw [hFi hoj, if_neg (fun h => hg h.2)], so, eo, d, Lo1, [], rfl, ho, hob1, hd⟩), ?_⟩
      · refine ⟨d, rdo (srchE p k r sh sp so d) (by simp) rfl rfl, by omega, by omega, pow_in (by omega), srch_wd ?_⟩
        refine ⟨so, rdo (srchE p k r sh sp so _) (.head _) rfl rfl, ?_⟩
        refine app_row grows_ints (vs := [.int .i64 (j : Int)]) rfl ⟨rfl, trivial⟩ [srchE p k r sh sp so (bitsV .or d (1 * 2 ^ j)), ep] eo (Lo1 ++ [E]) (by simp) ho (by omega) (fun so2 eo2 ho2 hl2 => ?_)
        simp only [List.cons_append, List.nil_append]
        refine srch_ws ?_
        have hd2 : Msk (bitsV .or d (1 * 2 ^ j)) (· ∈ out ++ [j]) := hd.or (by omega) (fun q _ => by simp [eq_comm])
        refine ih (out ++ [j]) (lgo k st o) _ [] [E] (srchE p k r sh sp so2 (bitsV .or d (1 * 2 ^ j)) :: ep :: eo2 :: Lo1) _ (by simp) ⟨so2, eo2, Lo1, _, rfl, by simpa [nints, ints, intV] using ho2, hob1, hd2⟩ (by simp; omega) ?_ (by simpa using hLS.go oa0 oa1) ?_ ?_ ?_
        · intro q hq'
          simp only [List.mem_append, List.mem_singleton] at hq'
          rcases hq' with h | rfl
          · exact hlt q h
          · exact hjl
        · intro h0
          obtain ⟨x, hx⟩ := h1s h0
          subst h0
          subst hx
          by_cases hz : o.kind = 0
          · exact ⟨_, by simp [lgo, lget, hz]; rfl⟩
          · exact ⟨x, by simp [lgo, lget, hz]⟩
        · intro l L' st' hl hS
          refine ⟨true, rfl, VIf_b (fun _ => ⟨⟨L', ro⟩, Gh.drop (by simp), hk _ L' (.inl ⟨l, st', hyes hjl hq (by rw [hFi hoj, if_pos ⟨hc, hg⟩]; exact hl), rfl, hS⟩)⟩) (nomatch ·)⟩
        · intro L' hnone hS
          obtain ⟨so3, eo3, Lo3, d3, rfl, ho3, hob3, hd3⟩ := hS
          have hs3 := ho3.sl_len
          rw [nints_length] at hs3
          simp only [List.length_append, List.length_cons, List.length_nil] at hs3
          have hc3 := ho3.cap_le
          refine ⟨false, rfl, VIf_b (nomatch ·) (fun _ => ?_)⟩
          simp only [List.cons_append, List.nil_append]
          refine ⟨d3, rdo (srchE p k r sh sp so3 d3) (.head _) rfl rfl, by omega, by omega, pow_in (by omega), srch_wd ?_⟩
          refine ⟨so3, rdo (srchE p k r sh sp so3 _) (.head _) rfl rfl, so3, rdo (srchE p k r sh sp so3 _) (.head _) rfl rfl, ⟨by omega, by omega⟩, by omega, by omega, srch_ws (so' := ⟨so3.a, (((so3.len : Nat) : Int) - 1).toNat, so3.cap⟩) ?_⟩
          have e1 : (((so3.len : Nat) : Int) - 1).toNat = out.length := by omega
          have hcut := OwnsSl.cut ho3 (n := out.length) (by omega)
          simp only [Nat.mul_one] at hcut
          have e2 : (nints (out ++ [j])).take out.length = nints out := by simp [nints, ints, List.map_append]
          rw [e2] at hcut
          refine ⟨_, Gh.weaken [srchE p k r sh sp ⟨so3.a, (((so3.len : Nat) : Int) - 1).toNat, so3.cap⟩ (bitsV .andNot d3 (1 * 2 ^ j)), ep] (Lo3 ++ [E]) ro eo3 (eo3.cells.take (eo3.cells.length - (so3.len - out.length))) (List.take_prefix _ _), ?_⟩
          refine ⟨by rw [hFi hoj, if_pos ⟨hc, hg⟩]; exact hnone, ⟨so3.a, (((so3.len : Nat) : Int) - 1).toNat, so3.cap⟩, _, _, Lo3, [], rfl, by rw [e1]; exact hcut, hob3, hd3.no (by omega) (fun q _ => ?_)⟩
          constructor
          · intro h
            exact ⟨by simp [h], fun e => hc.1 (by rw [e]; exact h)⟩
          · rintro ⟨h, hne⟩
            simp only [List.mem_append, List.mem_singleton] at h
            rcases h with h | h
            · exact h
            · exact absurd h.symm hne
      rintro _ _ ⟨hFj, so', eo', d', Lo', Z, rfl, ho', hob', hd'⟩
      unfold f37_J1
      simp only [add_mk', Option.some.injEq, exists_eq_left', Nat.zero_add, Nat.add_zero]
      refine ⟨some (objT k, .pointer (some (Addr.mk r 0 none))), rdo (srchE p k r sh sp so' d') (.head _) rfl rfl, _, hEr 0 _ (by simp) rfl, _, hEr 1 _ (by simp) rfl, _, hEr 2 _ (by simp) rfl, _, hEr 3 _ (by simp) rfl, _, hEr 4 _ (by simp) rfl, _, hEr 5 _ (by simp) rfl, ?_⟩
      refine obj_undo (o := o) [srchE p k r sh sp so' d', ep, eo'] (E :: Z) (by simp) hob' hLS (by omega) k0 k2 h1s (fun Lo2 hob2 => ⟨rfl, ⟨by omega, by omega⟩, next hFj ⟨so', eo', Lo2, d', rfl, ho', hob2, hd'⟩ _ ⟨_, rfl, by simp⟩⟩)
    · have hc : ¬ lcan os out j o := by simpa using hc
      refine ⟨⟨by omega, by omega⟩, next (by rw [hFi hoj, if_neg (fun h => hc h.1)]) ⟨so, eo, Lo, d, rfl, ho, hob, hd⟩ _ ⟨_, rfl, by simp⟩⟩
end Go.Proofs.Ytogbkgimpkaemaa
