import Derived.Test.YtnepjdobknjecaaL9
import Derived.Test.YtnepjdobknjecaaEngJ
namespace Go.Proofs.Ytnepjdobknjecaa
open Go.Eng
set_option maxRecDepth 20000
/-! ### what one does alone -/
structure Alone (k : Int) (os : List LOp) : Prop where
  n : os.length ≤ 8
  f : ∀ (i : Nat) o, os[i]? = some o → o.hand = 0 ∧ (0 ≤ o.kind ∧ o.kind ≤ 1) ∧ (0 ≤ o.arg ∧ o.arg ≤ 1000) ∧ o.frm = 2 * i ∧ o.too = 2 * i + 1
  r : lruns k (lin0 k) os
theorem Alone.start (k : Int) : Alone k [] := ⟨by simp, by simp, by simp [lruns]⟩
theorem Alone.go {k : Int} {os : List LOp} (h : Alone k os) (hn : os.length < 8) {kind arg : Int} (k0 : 0 ≤ kind ∧ kind ≤ 1) (a0 : 0 ≤ arg ∧ arg ≤ 1000) {o : LOp} (ho : o = ⟨0, kind, arg, lgot k (os.foldl (lgo k) (lin0 k)) ⟨0, kind, arg, 0, 2 * os.length, 2 * os.length + 1⟩, 2 * os.length, 2 * os.length + 1⟩) : Alone k (os ++ [o]) := by
  refine ⟨by simp; omega, fun i x hx => ?_, lruns_app.2 ⟨h.r, by rw [ho]; rfl⟩⟩
  by_cases hi : i < os.length
  · rw [List.getElem?_append_left hi] at hx; exact h.f i x hx
  · rw [List.getElem?_append_right (by omega)] at hx
    obtain ⟨h1, h2⟩ := List.getElem?_eq_some_iff.1 hx
    simp at h1
    obtain rfl : i = os.length := by omega
    have h2 : o = x := by rw [← h2]; simp
    subst h2
    rw [ho]
    exact ⟨rfl, k0, a0, rfl, rfl⟩
theorem Alone.ok {k : Int} {os : List LOp} (h : Alone k os) (k0 : 0 ≤ k) (k2 : k ≤ 2) : LOk k os := by
  have hf : ∀ o ∈ os, ∃ i : Nat, i < os.length ∧ o.hand = 0 ∧ (0 ≤ o.kind ∧ o.kind ≤ 1) ∧ (0 ≤ o.arg ∧ o.arg ≤ 1000) ∧ o.frm = 2 * i ∧ o.too = 2 * i + 1 := fun o ho => by
    obtain ⟨i, hi⟩ := List.mem_iff_getElem?.1 ho
    exact ⟨i, (List.getElem?_eq_some_iff.1 hi).1, h.f i o hi⟩
  have hn := h.n
  have hg := lruns_rg (m := 0) (fun hk => ⟨0, by simp [lin0, hk], by omega, by omega⟩) (fun hk => by simp [lin0, hk]) h.r (fun o ho => by obtain ⟨_, _, _, _, a, _⟩ := hf o ho; exact a) (by omega)
  refine ⟨k0, k2, h.n, fun o ho => ?_, fun o ho => ?_, ?_⟩
  · obtain ⟨i, hi, a, b, c, d, e⟩ := hf o ho
    exact ⟨⟨by omega, by omega⟩, b, c, hg o ho, ⟨by omega, by omega⟩, ⟨by omega, by omega⟩⟩
  · obtain ⟨i, hi, a, b, c, d, e⟩ := hf o ho
    omega
  · rw [List.pairwise_iff_getElem]
    intro i j hi hj hij
    obtain ⟨_, _, _, a, b⟩ := h.f i _ (List.getElem?_eq_getElem hi)
    obtain ⟨_, _, _, c, d⟩ := h.f j _ (List.getElem?_eq_getElem hj)
    rintro ⟨_, h2, h3⟩
    omega
theorem nints_eq (l : List Nat) : nints l = ints (l.map Int.ofNat) := rfl
set_option maxHeartbeats 800000 in
theorem linAlone_c {k : Int} {sk sa : SV} {ks av : List Int} {ro : Addr → Option Value} {post : Value → H → Prop} (hk : RdSl ⟨[], ro⟩ sk (ints ks)) (ha : RdSl ⟨[], ro⟩ sa (ints av)) (hpost : ∀ h, post (.bool true) h) :
    SemCall Try.prog 5 (List.toArray [.int .i64 k, .slice sk.a sk.len sk.cap, .slice sa.a sa.len sa.cap]) ⟨[], ro⟩ post := by
  refine f5_call _ _ _ _ post (lin_fact_c (fun ro0 m0 => ⟨_, rfl, VIf_nb (nomatch ·) (fun _ => ?_)⟩))
  refine in_i (fun hc => ⟨_, rfl, VIf_nb (fun _ => ret (hpost _)) (nomatch ·)⟩) (fun k0 k2 => ⟨_, rfl, VIf_nb (nomatch ·) (fun _ => ?_)⟩)
  refine ⟨fun s0 h => ∃ ro', (∀ a v, ro a = some v → ro' a = some v) ∧ h = ⟨[], ro'⟩ ∧ RdSl ⟨[], ro'⟩ s0 (ints (lin0 k)) ∧ s0.len ≤ s0.cap, VIf_eq (fun hk0 => ?_) (fun hk0 => gi ⟨ro0, m0, rfl, ?_, by simp⟩), ?_⟩
  · intro r2 hr2
    refine appVC_of (s := ⟨none, 0, 0⟩) (s2 := ⟨some (Addr.mk r2 0 none), 1, 1⟩) grows_ints (ys := [.int .i64 0]) (by simp) ?_ ⟨rfl, trivial⟩ (by simp) (A := []) (C := []) (en := ⟨none, [], 0⟩) (xs := []) (ro := ro0) ((Gh.drop (own' := []) (by simp)).trans (by simpa using Gh.phantom [] [] ro0 0)) (OwnsSl.nil 1) (by simp only; omega) (fun s' e' o1 l1 _ _ hf => ?_)
    · intro j v hv
      rw [add_mk']
      exact rdo ⟨some r2, [.int .i64 0], 1⟩ (by simp) rfl (by simpa using hv)
    · have hf0 : ∀ a v, ro0 a = some v → e'.id ≠ some a.block := fun a v hv hid => by
        rcases hf _ hid with h | h
        · cases h
        · exact h.2 a v hv rfl
      have e0 : ints (lin0 k) = [] ++ [.int .i64 0] := by rw [lin0, if_pos hk0]; rfl
      exact ⟨⟨[], Go.Eng.frozen e' ro0⟩, by simpa using Gh.freeze [] [] ro0 e' hf0, _, fun a v h => frozen_mono hf0 a v (m0 a v h), rfl, by rw [e0]; exact RdSl.frozen o1, o1.cap_le⟩
  · rw [lin0, if_neg hk0]
    exact ⟨rfl, fun _ => rfl, fun b hb => nomatch hb⟩
  rintro _ s0 _ ⟨ro1, m1, rfl, r1, cap1⟩
  refine ⟨fun sh sw h => ∃ (os : List LOp) (eh ew : Ent) (ro' : Addr → Option Value), (∀ a v, ro a = some v → ro' a = some v) ∧ h = ⟨[eh, ew], ro'⟩ ∧ Alone k os ∧ OwnsSl 6 sh eh (os.flatMap lopV) ∧ OwnsSl 1 sw ew (nints (List.range os.length)),
    ⟨fun n sx sh sw i h => ∃ (os : List LOp) (eh ew : Ent) (ro' : Addr → Option Value), (∀ a v, ro a = some v → ro' a = some v) ∧ h = ⟨[eh, ew], ro'⟩ ∧ Alone k os ∧ OwnsSl 6 sh eh (os.flatMap lopV) ∧ OwnsSl 1 sw ew (nints (List.range os.length)) ∧
      RdSl ⟨[], ro'⟩ sx (ints (os.foldl (lgo k) (lin0 k))) ∧ sx.len ≤ sx.cap ∧ Small k os.length (os.foldl (lgo k) (lin0 k)) ∧ i = (os.length : Int) ∧ n = 8 - os.length,
      ⟨8, ⟨[⟨none, [], 0⟩, ⟨none, [], 0⟩], ro1⟩, (by simpa using (Gh.phantom [] [] ro1 0).trans (Gh.phantom [⟨none, [], 0⟩] [] ro1 0)), [], _, _, ro1, m1, rfl, Alone.start k, OwnsSl.nil 6, OwnsSl.nil 1, r1, cap1, Small.start k, rfl, rfl⟩, ?_⟩, ?_⟩
  · rintro n _ sx sh sw i _ ⟨os, eh, ew, ro2, m2, rfl, hal, oh, ow, rx, capx, hsm, rfl, rfl⟩
    have hn8 := hal.n
    refine join_b (h := ⟨[eh, ew], ro2⟩) (decide ((os.length : Int) < sk.len ∧ (os.length : Int) < sa.len ∧ (os.length : Int) < 8)) (VIf_dec (fun c1 => VIf_dec (fun c2 => gi ⟨rfl, ?_⟩) (fun c2 => gi ⟨rfl, ?_⟩)) (fun c1 => gi ⟨rfl, ?_⟩)) ?_
    · exact decide_eq_decide.2 ⟨fun h => ⟨c1, c2, h⟩, fun h => h.2.2⟩
    · exact (decide_eq_false (fun h => c2 h.2.1)).symm
    · exact (decide_eq_false (fun h => c1 h.1)).symm
    refine VIf_dec (fun hc => ?_) (fun hc => gi ⟨os, eh, ew, ro2, m2, rfl, hal, oh, ow⟩)
    obtain ⟨c1, c2, c3⟩ := hc
    have hk2 : RdSl ⟨[eh, ew], ro2⟩ sk (ints ks) := hk.up (by simp) m2
    have ha2 : RdSl ⟨[eh, ew], ro2⟩ sa (ints av) := ha.up (by simp) m2
    have hkl := hk2.len
    have hal2 := ha2.len
    rw [ints_length] at hkl hal2
    obtain ⟨kind, hkind⟩ : ∃ x, ks[os.length]? = some x := ⟨_, List.getElem?_eq_getElem (by omega)⟩
    obtain ⟨arg, harg⟩ : ∃ x, av[os.length]? = some x := ⟨_, List.getElem?_eq_getElem (by omega)⟩
    obtain ⟨bk, hbk⟩ := hk2.addr (by rw [ints_length]; omega)
    obtain ⟨ba, hba⟩ := ha2.addr (by rw [ints_length]; omega)
    have rk : H.rd ⟨[eh, ew], ro2⟩ (Addr.add (Addr.add bk (((os.length : Nat) : Int).toNat * 1)) 0) (.int .i64 kind) := hk2.rdi hbk (by simpa using hkind)
    have ra : H.rd ⟨[eh, ew], ro2⟩ (Addr.add (Addr.add ba (((os.length : Nat) : Int).toNat * 1)) 0) (.int .i64 arg) := ha2.rdi hba (by simpa using harg)
    refine join_b (h := ⟨[eh, ew], ro2⟩) (decide (¬ ((0 ≤ kind ∧ kind ≤ 1) ∧ (0 ≤ arg ∧ arg ≤ 1000)))) ⟨bk, hbk, by omega, c1, kind, rk, in_i (fun hc => ⟨_, rfl, VIf_nb (fun _ => gi ⟨rfl, (decide_eq_true (p := ¬ ((0 ≤ kind ∧ kind ≤ 1) ∧ (0 ≤ arg ∧ arg ≤ 1000))) (fun h => hc h.1)).symm⟩) (nomatch ·)⟩) (fun a0 a1 => ⟨_, rfl, VIf_nb (nomatch ·) (fun _ => ⟨ba, hba, by omega, c2, arg, ra, in_c ⟨_, rfl, gi ⟨rfl, ?_⟩⟩⟩)⟩)⟩ ?_
    · by_cases h : 0 ≤ arg ∧ arg ≤ 1000
      · rw [decide_eq_true h, decide_eq_false (by simp [h, a0, a1])]; rfl
      · rw [decide_eq_false h, decide_eq_true (p := ¬ ((0 ≤ kind ∧ kind ≤ 1) ∧ (0 ≤ arg ∧ arg ≤ 1000))) (fun hh => h hh.2)]; rfl
    refine VIf_dec (fun _ => ret (hpost _)) (fun hin => ?_)
    obtain ⟨hk01, ha01⟩ : (0 ≤ kind ∧ kind ≤ 1) ∧ (0 ≤ arg ∧ arg ≤ 1000) := Classical.byContradiction hin
    refine ⟨bk, hbk, by omega, c1, ba, hba, by omega, c2, ⟨by omega, by omega⟩, ⟨by omega, by omega⟩, ⟨by omega, by omega⟩, kind, rk, arg, ra, ?_⟩
    intro r _
    refine ⟨rfl, rfl, ?_⟩
    obtain ⟨o1, ho1⟩ : ∃ o1 : LOp, o1 = ⟨0, kind, arg, 0, 2 * os.length, 2 * os.length + 1⟩ := ⟨_, rfl⟩
    refine wro [eh, ew] ⟨some r, [.int .i64 0, .int .i64 0, .int .i64 0, .int .i64 0, .int .i64 0, .int .i64 0], 6⟩ [] ⟨rfl, rfl, rfl, rfl, rfl, rfl, trivial⟩ (by simp) rfl (by simp) ?_
    obtain ⟨E1, hE1⟩ : ∃ E1 : Ent, E1 = ⟨some r, lopV o1, 6⟩ := ⟨_, rfl⟩
    have hEE : (⟨some r, spl [Value.int .i64 0, .int .i64 0, .int .i64 0, .int .i64 0, .int .i64 0, .int .i64 0] 0 [Value.int .i64 0, .int .i64 kind, .int .i64 arg, .int .i64 0, .int .i64 (2 * ((os.length : Nat) : Int)), .int .i64 (2 * ((os.length : Nat) : Int) + 1)], 6⟩ : Ent) = E1 := by rw [hE1, ho1]; rfl
    simp only [hEE, add_mk', Nat.zero_add, Nat.add_zero]
    have rd1 : ∀ {own : List Ent} {rox : Addr → Option Value} (q : Nat) (v : Value), E1 ∈ own → (lopV o1)[q]? = some v → H.rd ⟨own, rox⟩ (Addr.mk r q none) v := fun q v hm hv => rdo E1 hm (by rw [hE1]) (by rw [hE1]; exact hv)
    refine ⟨_, rd1 0 _ (by simp) (by rw [ho1]; rfl), _, rd1 1 _ (by simp) (by rw [ho1]; rfl), _, rd1 2 _ (by simp) (by rw [ho1]; rfl), _, rd1 3 _ (by simp) (by rw [ho1]; rfl), _, rd1 4 _ (by simp) (by rw [ho1]; rfl), _, rd1 5 _ (by simp) (by rw [ho1]; rfl), ?_⟩
    have hlx := rx.len
    rw [ints_length] at hlx
    have hslen : sx.len ≤ 1000000 := by
      by_cases hk0 : k = 0
      · obtain ⟨z, hz, _⟩ := hsm.z hk0
        rw [hz] at hlx; simp at hlx; omega
      · have := hsm.l hk0; omega
    refine gets_c (o := ⟨0, kind, arg, 0, 2 * os.length, 2 * os.length + 1⟩) rx capx hslen (fun hk0 => by obtain ⟨z, hz, _⟩ := hsm.z hk0; exact ⟨z, hz⟩) (fun hk0 => by
      obtain ⟨z, hz, z0, z1⟩ := hsm.z hk0
      rw [hz]; simp only [gI, List.getElem?_cons_zero, Option.getD_some]; constructor <;> omega) (fun s2 ro3 m3 r3 cap3 => ⟨s2, _, rfl, ?_⟩)
    rw [← ho1] at r3 ⊢
    obtain ⟨o2, ho2⟩ : ∃ o2 : LOp, o2 = ⟨0, kind, arg, lgot k (os.foldl (lgo k) (lin0 k)) o1, 2 * os.length, 2 * os.length + 1⟩ := ⟨_, rfl⟩
    refine wro [eh, ew] E1 [] ⟨rfl, trivial⟩ rfl (by rw [hE1]) (by rw [hE1]; simp [lopV]) ?_
    obtain ⟨E2, hE2⟩ : ∃ E2 : Ent, E2 = ⟨some r, lopV o2, 6⟩ := ⟨_, rfl⟩
    have hEE2 : (⟨E1.id, spl E1.cells 3 [Value.int .i64 (lgot k (os.foldl (lgo k) (lin0 k)) o1)], E1.cap⟩ : Ent) = E2 := by rw [hE2, ho2, hE1]; dsimp only; rw [ho1]; rfl
    simp only [hEE2]
    have rd2 : ∀ {own : List Ent} {rox : Addr → Option Value} (q : Nat) (v : Value), E2 ∈ own → (lopV o2)[q]? = some v → H.rd ⟨own, rox⟩ (Addr.mk r q none) v := fun q v hm hv => rdo E2 hm (by rw [hE2]) (by rw [hE2]; exact hv)
    refine ⟨_, rd2 0 _ (by simp) (by rw [ho2]; rfl), _, rd2 1 _ (by simp) (by rw [ho2]; rfl), _, rd2 2 _ (by simp) (by rw [ho2]; rfl), _, rd2 3 _ (by simp) (by rw [ho2]; rfl), _, rd2 4 _ (by simp) (by rw [ho2]; rfl), _, rd2 5 _ (by simp) (by rw [ho2]; rfl), ?_⟩
    have hlh := oh.rows_len lopV_len (by decide)
    have hlw := ow.sl_len
    rw [nints_length] at hlw
    simp only [List.length_range] at hlw
    have hgo := fun h1 h2 => hal.go (o := o2) (kind := kind) (arg := arg) h1 h2 ha01 (by rw [ho2, ho1])
    have hfold : (os ++ [o2]).foldl (lgo k) (lin0 k) = lgo k (os.foldl (lgo k) (lin0 k)) o1 := by
      rw [List.foldl_append, ho1, ho2]; rfl
    subst ho2
    obtain ⟨o2, ho2⟩ : ∃ o2 : LOp, o2 = ⟨0, kind, arg, lgot k (os.foldl (lgo k) (lin0 k)) o1, 2 * os.length, 2 * os.length + 1⟩ := ⟨_, rfl⟩
    rw [← ho2] at hgo hfold hE2
    refine app_row grows_ops (vs := lopV ⟨0, kind, arg, lgot k (os.foldl (lgo k) (lin0 k)) o1, 2 * os.length, 2 * os.length + 1⟩) rfl (allOne_lop _) [] eh [ew, E2] rfl oh (by omega) (fun sh2 eh2 oh2 _ => ?_)
    refine app_row grows_ints (vs := [.int .i64 (os.length : Int)]) rfl ⟨rfl, trivial⟩ [eh2] ew [E2] rfl ow (by omega) (fun sw2 ew2 ow2 _ => ⟨⟨by omega, by omega⟩, 8 - (os.length + 1), by omega, ⟨[eh2, ew2], ro3⟩, Gh.drop (by simp), ?_⟩)
    rw [← ho2] at oh2
    refine ⟨os ++ [o2], eh2, ew2, ro3, fun a v h => m3 a v (m2 a v h), rfl, hgo (by omega) hk01, by simpa [List.flatMap_append] using oh2, ?_, by rw [hfold]; exact r3, cap3, ?_, by simp, by simp⟩
    · rw [List.length_append, List.length_singleton, List.range_succ]
      simpa [nints, ints, intV, Function.comp_def] using ow2
    · rw [hfold, List.length_append, List.length_singleton]
      refine hsm.go ?_ ?_ <;> rw [ho1]
      · exact ha01.1
      · exact ha01.2
  · rintro _ sh sw _ ⟨os, eh, ew, ro2, m2, rfl, hal, oh, ow⟩
    have hok := hal.ok k0 k2
    have hrow := alone_row (fun i o hi => by obtain ⟨_, _, _, a, b⟩ := hal.f i o hi; exact ⟨a, b⟩) hal.r
    have hn8 := hal.n
    refine SemCall.frz [] eh [ew] rfl oh (fun ro3 m3 r3 => lin_row_c r3 oh.cap_le (fun hc => absurd (lcheck_zero.2 hok) hc) (fun _ hl => by rw [hrow] at hl; cases hl) (fun l s2 e3 _ hl o3 => ?_))
    rw [hrow] at hl
    cases hl
    refine ⟨_, s2, none, rfl, join_b (h := ⟨[] ++ [ew] ++ [e3], ro3⟩) true (VIf_nil (VIf_b (fun _ => ?_) (nomatch ·))) (ret (hpost _))⟩
    have g1 : RdSl ⟨[] ++ [ew] ++ [e3], ro3⟩ s2 (ints ((List.range os.length).map Int.ofNat)) := RdSl.of_own (by simp) o3
    have g2 : RdSl ⟨[] ++ [ew] ++ [e3], ro3⟩ sw (ints ((List.range os.length).map Int.ofNat)) := RdSl.of_own (by simp) ow
    have hl3 := o3.sl_len
    rw [nints_length, List.length_range] at hl3
    refine same_ints_c g1 g2 (by omega) ⟨_, rfl, gi ⟨rfl, by simp⟩⟩
end Go.Proofs.Ytnepjdobknjecaa
