import Derived.Test.YtogbkgimpkaemaaL4
namespace Go.Proofs.Ytogbkgimpkaemaa
open Go.Eng
set_option maxRecDepth 20000
/-! ### a row of a history -/
def PreM (os : List LOp) (i j : Nat) (pre : List Int) : Prop := pre.length = os.length ∧ ∀ (q : Nat) (o : LOp), os[q]? = some o → ∃ m, pre[q]? = some m ∧ Msk m fun x => (x < i ∨ (x = i ∧ q < j)) ∧ ∃ ox, os[x]? = some ox ∧ ox.too ≤ o.frm
theorem PreM.next {os : List LOp} {i : Nat} {pre : List Int} (h : PreM os i os.length pre) : PreM os (i + 1) 0 pre := by
  refine ⟨h.1, fun q o hq => ?_⟩
  obtain ⟨m, h1, h2⟩ := h.2 q o hq
  refine ⟨m, h1, h2.1, h2.2.1, fun x hx => ?_⟩
  rw [h2.2.2 x hx]
  have hql := (List.getElem?_eq_some_iff.1 hq).1
  constructor
  · rintro ⟨a, b⟩; exact ⟨by omega, b⟩
  · rintro ⟨a, b⟩; exact ⟨by omega, b⟩
theorem linrow_start {own : List Ent} {ro : Addr → Option Value} {k : Int} {r4 r6 r8 r11 r13 : Nat} {sh sp : SV} {ep es : Ent} (k0 : 0 ≤ k) (k2 : k ≤ 2) {r : Nat} (hr : r = if k = 0 then r4 else if k = 1 then r6 else r8) (hes : es = srchE r13 k r sh sp ⟨none, 0, 0⟩ 0) :
    ∃ L, Gh ⟨own ++ [⟨some r4, [.int .i64 0], 1⟩, ⟨some r6, [.slice none 0 0], 1⟩, ⟨some r8, [.slice none 0 0], 1⟩, ep, es], ro⟩ ⟨own ++ L, ro⟩ ∧ Srch k r13 r sh sp ep [] (lin0 k) L := by
  have hO : OwnsSl 1 ⟨none, 0, 0⟩ ⟨none, [], 0⟩ (nints []) := OwnsSl.nil 1
  have hM : Msk 0 (· ∈ ([] : List Nat)) := Msk.nil (fun j _ => by simp)
  have turn : ∀ a : Ent, Gh ⟨own ++ [a, ep, es], ro⟩ ⟨own ++ [es, ep, ⟨none, [], 0⟩, a], ro⟩ := fun a => (Gh.arr (X := [a, ep, es]) (Y := [es, ep, a]) (List.reverse_perm [a, ep, es])).trans (Gh.ph [es, ep] [a])
  by_cases h0 : k = 0
  · rw [if_pos h0] at hr
    refine ⟨[es, ep, ⟨none, [], 0⟩, ⟨some r4, [.int .i64 0], 1⟩], ?_, ⟨none, 0, 0⟩, ⟨none, [], 0⟩, [⟨some r4, [.int .i64 0], 1⟩], 0, by rw [hes], hO, .inl ⟨h0, 0, by simp [lin0, h0], by rw [hr]⟩, hM⟩
    exact (Gh.drop (own' := own ++ [⟨some r4, [.int .i64 0], 1⟩, ep, es]) (List.Sublist.append_left (.cons_cons _ (.cons _ (.cons _ (List.Sublist.refl _)))) _)).trans (turn _)
  · rw [if_neg h0] at hr
    have hob : ObjAt k r (lin0 k) [⟨some r, [.slice none 0 0], 1⟩, ⟨none, [], 0⟩] := .inr ⟨h0, ⟨none, 0, 0⟩, _, rfl, by rw [lin0, if_neg h0]; exact OwnsSl.nil 1⟩
    refine ⟨[es, ep, ⟨none, [], 0⟩, ⟨some r, [.slice none 0 0], 1⟩, ⟨none, [], 0⟩], ?_, ⟨none, 0, 0⟩, ⟨none, [], 0⟩, _, 0, by rw [hes], hO, hob, hM⟩
    refine Gh.trans ?_ ((turn ⟨some r, [.slice none 0 0], 1⟩).trans (Gh.ph [es, ep, ⟨none, [], 0⟩, ⟨some r, [.slice none 0 0], 1⟩] []))
    by_cases h1 : k = 1
    · rw [if_pos h1] at hr
      rw [hr]
      exact Gh.drop (List.Sublist.append_left (.cons _ (.cons_cons _ (.cons _ (List.Sublist.refl _)))) _)
    · rw [if_neg h1] at hr
      rw [hr]
      exact Gh.drop (List.Sublist.append_left (.cons _ (.cons _ (List.Sublist.refl _))) _)
open Classical in
theorem lin_row_c {k : Int} {os : List LOp} {s : SV} {own : List Ent} {ro : Addr → Option Value} {post : Value → H → Prop} (hr : RdRows ⟨[], ro⟩ 6 s (os.flatMap lopV)) (hcap : s.len ≤ s.cap)
    (h1 : lcheck k os ≠ 0 → post (.tuple (List.toArray [.bool false, .slice none 0 0, errV (eno 57 (lcheck k os))])) ⟨own, ro⟩)
    (h2 : lcheck k os = 0 → lrow k os = none → post (.tuple (List.toArray [.bool false, .slice none 0 0, .nilIface])) ⟨own, ro⟩)
    (h3 : ∀ l (s' : SV) (e' : Ent), lcheck k os = 0 → lrow k os = some l → OwnsSl 1 s' e' (nints l) → post (.tuple (List.toArray [.bool true, .slice s'.a s'.len s'.cap, .nilIface])) ⟨own ++ [e'], ro⟩) :
    SemCall Try.prog 34 (List.toArray [.int .i64 k, .slice s.a s.len s.cap]) ⟨own, ro⟩ post := by
  have hsl := hr.len lopV_len (by decide)
  refine f34_call _ _ _ post (lin_check_c hr hcap ⟨_, rfl, VIf_nerr (fun he => ret (h1 he)) (fun he => ?_)⟩)
  have hok := lcheck_zero.1 he
  have hn8 := hok.n
  obtain ⟨k0, k2⟩ : 0 ≤ k ∧ k ≤ 2 := ⟨hok.k0, hok.k2⟩
  intro r4 _ r6 _ r8 _
  obtain ⟨r, hrk⟩ : ∃ r, r = if k = 0 then r4 else if k = 1 then r6 else r8 := ⟨_, rfl⟩
  refine ⟨rfl, rfl, rfl, k0, by omega, some (objT k, .pointer (some (Addr.mk r 0 none))), ?_, by omega, by omega, by omega, by omega, ?_⟩
  · rcases (by omega : k = 0 ∨ k = 1 ∨ k = 2) with rfl | rfl | rfl <;> (rw [hrk]; rfl)
  intro r11 _
  refine ⟨errV_oneCell _, ?_⟩
  intro r13 _
  simp only [List.append_assoc, List.cons_append, List.nil_append, Int.toNat_natCast]
  obtain ⟨N, hN⟩ : ∃ N, N = os.length := ⟨_, rfl⟩
  have hsN : s.len = N := by omega
  rw [hsN, repl_ints]
  obtain ⟨c4, hc4⟩ : ∃ c : Ent, c = ⟨some r4, [.int .i64 0], 1⟩ := ⟨_, rfl⟩
  obtain ⟨c6, hc6⟩ : ∃ c : Ent, c = ⟨some r6, [.slice none 0 0], 1⟩ := ⟨_, rfl⟩
  obtain ⟨c8, hc8⟩ : ∃ c : Ent, c = ⟨some r8, [.slice none 0 0], 1⟩ := ⟨_, rfl⟩
  have es0 : ∀ {x : List Value}, (⟨some r13, x, x.length⟩ : Ent) = ⟨some r13, x, x.length⟩ := rfl
  obtain ⟨sp, hsp⟩ : ∃ sp : SV, sp = ⟨some (Addr.mk r11 0 none), N, N⟩ := ⟨_, rfl⟩
  obtain ⟨es, hes⟩ : ∃ es : Ent, es = srchE r13 k r s sp ⟨none, 0, 0⟩ 0 := ⟨_, rfl⟩
  have hall : allOne [errV (some (objT k, .pointer (some (Addr.mk r 0 none)))), .slice s.a N s.cap, .slice (some (Addr.mk r11 0 none)) N N, .slice none 0 0, .int .i64 (0 : Int)] := ⟨errV_oneCell _, rfl, rfl, rfl, rfl, trivial⟩
  refine ⟨rfl, by kernel_rfl, wro (own ++ [c4, c6, c8, ⟨some r11, ints (List.replicate N 0), (ints (List.replicate N 0)).length⟩]) ⟨some r13, [Value.nilIface, .slice none 0 0, .slice none 0 0, .slice none 0 0, .int .i64 (0 : Int)], 5⟩ [] hall (by simp [hc4, hc6, hc8]) rfl (by simp) ?_⟩
  have hend : (⟨some r13, spl [Value.nilIface, .slice none 0 0, .slice none 0 0, .slice none 0 0, .int .i64 (0 : Int)] 0 [errV (some (objT k, .pointer (some (Addr.mk r 0 none)))), .slice s.a N s.cap, .slice (some (Addr.mk r11 0 none)) N N, .slice none 0 0, .int .i64 (0 : Int)], 5⟩ : Ent) = es := by rw [hes, hsp, ← hsN]; rfl
  rw [hend]
  simp only [List.append_assoc, List.cons_append, List.nil_append, ints_length, List.length_replicate]
  have m13 : ∀ {P : List Int} {X : List Ent}, es ∈ own ++ c4 :: c6 :: c8 :: ⟨some r11, ints P, N⟩ :: es :: X := by intro P X; simp
  have m11 : ∀ {P : List Int} {X : List Ent}, (⟨some r11, ints P, N⟩ : Ent) ∈ own ++ c4 :: c6 :: c8 :: ⟨some r11, ints P, N⟩ :: es :: X := by intro P X; simp
  refine ⟨fun h => ∃ pre, PreM os N 0 pre ∧ h = ⟨own ++ c4 :: c6 :: c8 :: ⟨some r11, ints pre, N⟩ :: es :: [], ro⟩, ⟨fun n i h => ∃ j : Nat, i = (j : Int) ∧ j ≤ N ∧ n = N - j ∧ ∃ pre, PreM os j 0 pre ∧ h = ⟨own ++ c4 :: c6 :: c8 :: ⟨some r11, ints pre, N⟩ :: es :: [], ro⟩, ⟨_, gi ⟨0, rfl, Nat.zero_le _, rfl, List.replicate N 0, ⟨by simp [hN], fun q o hq => ⟨0, ?_, Msk.nil (fun j _ => ?_)⟩⟩, rfl⟩⟩, ?_⟩, ?_⟩
  · rw [List.getElem?_replicate, if_pos (by have := (List.getElem?_eq_some_iff.1 hq).1; omega)]
  · rintro ⟨h, _⟩; omega
  · rintro n _ i _ ⟨j, rfl, hj, rfl, pre, hpre, rfl⟩
    unfold f34_L2
    simp only [add_mk', Nat.zero_add, Nat.add_zero, Int.toNat_natCast]
    refine VIf_dec (fun hi => ?_) (fun hi => gi ⟨pre, by rw [show N = j by omega]; exact hpre, rfl⟩)
    obtain ⟨b, o, hb, hoj, hrow⟩ := hr.row lopV_len (by decide) (i := (j : Int)) (by omega) hi
    rw [Int.toNat_natCast] at hoj hrow
    have hrow' : ∀ {own : List Ent} (q : Nat) (v : Value), (lopV o)[q]? = some v → H.rd ⟨own, ro⟩ (Addr.add (Addr.add b (j * 6)) q) v := fun q v hv => (hrow q v hv).own (by simp) rfl
    refine ⟨fun h => ∃ pre, PreM os (j + 1) 0 pre ∧ h = ⟨own ++ c4 :: c6 :: c8 :: ⟨some r11, ints pre, N⟩ :: es :: [], ro⟩, ⟨b, hb, by omega, hi, _, hrow' 0 _ rfl, _, hrow' 1 _ rfl, _, hrow' 2 _ rfl, _, hrow' 3 _ rfl, _, hrow' 4 _ rfl, _, hrow' 5 _ rfl, ?_⟩, ?_⟩
    rotate_left
    · rintro _ _ ⟨pre, hpre, rfl⟩
      exact ⟨⟨by omega, by omega⟩, N - (j + 1), by omega, gi ⟨j + 1, by omega, by omega, rfl, pre, hpre, rfl⟩⟩
    intro r31 _
    refine ⟨rfl, by kernel_rfl, wro (own ++ c4 :: c6 :: c8 :: ⟨some r11, ints pre, N⟩ :: es :: []) _ [] (allOne_lop o) rfl rfl (by simp) ?_⟩
    obtain ⟨E, hE⟩ : ∃ E : Ent, E = ⟨some r31, lopV o, 6⟩ := ⟨_, rfl⟩
    have hEE : (⟨some r31, spl [Value.int .i64 (0 : Int), .int .i64 0, .int .i64 0, .int .i64 0, .int .i64 0, .int .i64 0] 0 [Value.int .i64 o.hand, .int .i64 o.kind, .int .i64 o.arg, .int .i64 o.got, .int .i64 o.frm, .int .i64 o.too], List.length [Value.int .i64 (0 : Int), .int .i64 0, .int .i64 0, .int .i64 0, .int .i64 0, .int .i64 0]⟩ : Ent) = E := by rw [hE]; simp [spl, lopV]
    rw [hEE]
    simp only [List.append_assoc, List.cons_append, List.nil_append]
    have hEr : ∀ {own : List Ent} (q : Nat) (v : Value), E ∈ own → (lopV o)[q]? = some v → H.rd ⟨own, ro⟩ (Addr.mk r31 q none) v := fun q v hm hv => rdo E hm (by rw [hE]) (by rw [hE]; exact hv)
    refine ⟨fun h => ∃ pre, PreM os j N pre ∧ h = ⟨own ++ c4 :: c6 :: c8 :: ⟨some r11, ints pre, N⟩ :: es :: [E], ro⟩, ⟨fun n i h => ∃ q : Nat, i = (q : Int) ∧ q ≤ N ∧ n = N - q ∧ ∃ pre, PreM os j q pre ∧ h = ⟨own ++ c4 :: c6 :: c8 :: ⟨some r11, ints pre, N⟩ :: es :: [E], ro⟩, ⟨_, gi ⟨0, rfl, Nat.zero_le _, rfl, pre, hpre, rfl⟩⟩, ?_⟩, ?_⟩
    rotate_left
    · rintro _ _ ⟨pre, hpre, rfl⟩
      rw [hN] at hpre
      exact ⟨_, Gh.drop (List.Sublist.append_left (.cons_cons _ (.cons_cons _ (.cons_cons _ (.cons_cons _ (.cons_cons _ (List.nil_sublist _)))))) _), pre, hpre.next, rfl⟩

    clear hpre
    rintro n _ i _ ⟨q, rfl, hq, rfl, pre, hpre, rfl⟩
    unfold f34_L1
    simp only [add_mk', Nat.zero_add, Nat.add_zero, Int.toNat_natCast]
    refine VIf_dec (fun hi2 => ?_) (fun hi2 => gi ⟨pre, by rw [show N = q by omega]; exact hpre, rfl⟩)
    obtain ⟨b2, o2, hb2, ho2, hrow2⟩ := hr.row lopV_len (by decide) (i := (q : Int)) (by omega) hi2
    rw [Int.toNat_natCast] at ho2 hrow2
    have hrow2' : ∀ {own : List Ent} (q2 : Nat) (v : Value), (lopV o2)[q2]? = some v → H.rd ⟨own, ro⟩ (Addr.add (Addr.add b2 (q * 6)) q2) v := fun q2 v hv => (hrow2 q2 v hv).own (by simp) rfl
    refine ⟨b2, hb2, by omega, hi2, _, hrow2' 0 _ rfl, _, hrow2' 1 _ rfl, _, hrow2' 2 _ rfl, _, hrow2' 3 _ rfl, _, hrow2' 4 _ rfl, _, hrow2' 5 _ rfl, ?_⟩
    intro r71 _
    refine ⟨rfl, by kernel_rfl, wro (own ++ c4 :: c6 :: c8 :: ⟨some r11, ints pre, N⟩ :: es :: [E]) _ [] (allOne_lop o2) rfl rfl (by simp) ?_⟩
    obtain ⟨E2, hE2⟩ : ∃ E : Ent, E = ⟨some r71, lopV o2, 6⟩ := ⟨_, rfl⟩
    have hEE2 : (⟨some r71, spl [Value.int .i64 (0 : Int), .int .i64 0, .int .i64 0, .int .i64 0, .int .i64 0, .int .i64 0] 0 [Value.int .i64 o2.hand, .int .i64 o2.kind, .int .i64 o2.arg, .int .i64 o2.got, .int .i64 o2.frm, .int .i64 o2.too], List.length [Value.int .i64 (0 : Int), .int .i64 0, .int .i64 0, .int .i64 0, .int .i64 0, .int .i64 0]⟩ : Ent) = E2 := by rw [hE2]; simp [spl, lopV]
    rw [hEE2]
    simp only [List.append_assoc, List.cons_append, List.nil_append]
    have hEr2 : ∀ {own : List Ent} (q : Nat) (v : Value), E2 ∈ own → (lopV o2)[q]? = some v → H.rd ⟨own, ro⟩ (Addr.mk r71 q none) v := fun q v hm hv => rdo E2 hm (by rw [hE2]) (by rw [hE2]; exact hv)
    obtain ⟨m, hm, hmsk⟩ := hpre.2 q o2 ho2
    have step : ∀ {m' : Int}, Msk m' (fun x => (x < j ∨ (x = j ∧ q < q + 1)) ∧ ∃ ox, os[x]? = some ox ∧ ox.too ≤ o2.frm) → PreM os j (q + 1) (pre.set q m') := by
      intro m' h
      refine ⟨by simpa using hpre.1, fun q2 oq hq2 => ?_⟩
      by_cases he : q2 = q
      · subst he
        rw [ho2] at hq2
        cases hq2
        exact ⟨m', List.getElem?_set_self (by have := hpre.1; omega), h⟩
      · obtain ⟨m2, h1, h2⟩ := hpre.2 q2 oq hq2
        refine ⟨m2, by rw [List.getElem?_set_ne (Ne.symm he)]; exact h1, h2.1, h2.2.1, fun x hx => ?_⟩
        rw [h2.2.2 x hx]
        constructor
        · rintro ⟨a, b⟩; exact ⟨by omega, b⟩
        · rintro ⟨a, b⟩; exact ⟨by omega, b⟩
    refine ⟨_, hEr 5 _ (by simp) rfl, _, hEr2 4 _ (by simp) rfl, VIf_dec (fun hle => ?_) (fun hle => ?_)⟩
    · refine ⟨sp, rdo es m13 (by rw [hes]; rfl) (by rw [hes]; rfl), Addr.mk r11 0 none, by rw [hsp], by omega, by rw [hsp]; dsimp only; omega, m, ?_, by omega, by omega, pow_in (by omega), Addr.mk r11 0 none, by rw [hsp], by omega, by rw [hsp]; dsimp only; omega, ?_⟩
      · simp only [add_mk', Nat.zero_add, Nat.add_zero, Nat.mul_one]
        exact rd_ints ⟨some r11, ints pre, N⟩ m11 rfl rfl hm
      · simp only [add_mk', Nat.zero_add, Nat.mul_one]
        refine wr_ints (own ++ [c4, c6, c8]) ⟨some r11, ints pre, N⟩ (es :: [E, E2]) (by simp) rfl rfl (by have := hpre.1; omega) ?_
        refine ⟨⟨by omega, by omega⟩, N - (q + 1), by omega, ⟨own ++ c4 :: c6 :: c8 :: ⟨some r11, ints (pre.set q (bitsV .or m (1 * 2 ^ j))), N⟩ :: es :: [E], ro⟩, Gh.drop ?_, q + 1, by omega, by omega, rfl, _, step (hmsk.or (by omega) (fun x hx => ?_)), rfl⟩
        · simp only [List.append_assoc, List.cons_append, List.nil_append]
          exact List.Sublist.append_left (.cons_cons _ (.cons_cons _ (.cons_cons _ (.cons_cons _ (.cons_cons _ (.cons_cons _ (List.nil_sublist _))))))) _
        · constructor
          · rintro ⟨h, hx2⟩
            rcases h with h | ⟨rfl, _⟩
            · exact .inl ⟨.inl h, hx2⟩
            · exact .inr rfl
          · rintro (⟨h, hx2⟩ | rfl)
            · exact ⟨by omega, hx2⟩
            · exact ⟨.inr ⟨rfl, by omega⟩, o, hoj, hle⟩
    · have e1 : pre = pre.set q m := by
        have hql : q < pre.length := by have := hpre.1; omega
        rw [List.getElem?_eq_getElem hql] at hm
        cases hm
        exact (List.set_getElem_self hql).symm
      refine ⟨⟨by omega, by omega⟩, N - (q + 1), by omega, ⟨own ++ c4 :: c6 :: c8 :: ⟨some r11, ints pre, N⟩ :: es :: [E], ro⟩, Gh.drop ?_, q + 1, by omega, by omega, rfl, pre, ?_, rfl⟩
      · exact List.Sublist.append_left (.cons_cons _ (.cons_cons _ (.cons_cons _ (.cons_cons _ (.cons_cons _ (.cons_cons _ (List.nil_sublist _))))))) _
      · rw [e1]
        refine step ⟨hmsk.1, hmsk.2.1, fun x hx => ?_⟩
        rw [hmsk.2.2 x hx]
        constructor
        · rintro ⟨h, hx2⟩; exact ⟨by omega, hx2⟩
        · rintro ⟨h, ox, hx2, hx3⟩
          rcases h with h | ⟨rfl, _⟩
          · exact ⟨.inl h, ox, hx2, hx3⟩
          · rw [hoj] at hx2
            cases hx2
            exact absurd hx3 hle
  · rintro _ _ ⟨pre, hpre, rfl⟩
    obtain ⟨L, g, hS⟩ := linrow_start (own := own) (ro := ro) (r4 := r4) (r6 := r6) (r8 := r8) (r11 := r11) (r13 := r13) (sh := s) (sp := sp) (ep := ⟨some r11, ints pre, N⟩) (es := es) k0 k2 hrk hes
    rw [hc4, hc6, hc8]
    refine SemCall.ghost g ?_
    have hpl := hpre.1
    have hep : OwnsSl 1 sp ⟨some r11, ints pre, N⟩ (ints pre) := by rw [hsp]; exact OwnsSl.at0 1 (by simp [hpl, hN]) (by omega) (by unfold maxLen; omega)
    have hpo : PreOk os pre := ⟨hpl, fun j o hj => by
      obtain ⟨m, h1, h2⟩ := hpre.2 j o hj
      refine ⟨m, h1, h2.1, h2.2.1, fun x hx => ?_⟩
      rw [h2.2.2 x hx]
      constructor
      · exact fun h => h.2
      · rintro ⟨ox, h3, h4⟩; exact ⟨.inl (by have := (List.getElem?_eq_some_iff.1 h3).1; omega), ox, h3, h4⟩⟩
    have hLS : LSt k (lin0 k) 0 := ⟨fun h => by simp [lin0, h, gI], fun h => by simp [lin0, h]⟩
    refine find_c k0 k2 hok.ops hr hep hpo os.length [] (lin0 k) _ own [] L _ (by simp) hS (by simp) (by simp) hLS (fun h => ⟨0, by simp [lin0, h]⟩) (fun l L' st' hl hS' => ?_) (fun L' hl hS' => ?_)
    · obtain ⟨so, eo, Lo, d, rfl, ho, _, _⟩ := hS'
      refine ⟨true, rfl, VIf_nb (nomatch ·) (fun _ => ?_)⟩
      simp only [add_mk', Nat.zero_add, Nat.add_zero]
      refine ⟨so, rdo (srchE r13 k r s sp so d) (by simp) rfl rfl, ?_⟩
      have hlen := (lrow_some (k := k) (os := os) hl).1
      refine clone_c (RdSl.of_own (e := eo) (by simp) ho) (by rw [ho.sl_len, nints_length]; omega) (fun s' e' o' => ⟨s', rfl, ⟨⟨own ++ [e'], ro⟩, Gh.drop ?_, h3 l s' e' he hl o'⟩⟩)
      simp only [List.append_assoc]
      exact List.Sublist.append_left (List.sublist_append_of_sublist_right (List.sublist_append_of_sublist_right (List.Sublist.refl _))) _
    · refine ⟨false, rfl, VIf_nb (fun _ => ⟨⟨own, ro⟩, Gh.drop (by simp), h2 he hl⟩) (nomatch ·)⟩
end Go.Proofs.Ytogbkgimpkaemaa
