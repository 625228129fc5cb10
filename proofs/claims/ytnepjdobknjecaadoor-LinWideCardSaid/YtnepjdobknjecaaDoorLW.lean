import Derived.Test.YtnepjdobknjecaaDoorL7
import Derived.Test.YtnepjdobknjecaaDoorRf
import Derived.Test.YtnepjdobknjecaaDoorT2
namespace Go.Proofs.YtnepjdobknjecaaDoor
open Go.Eng
set_option maxRecDepth 20000
theorem grows_ops : Grows Tryd.prog 47 54 6 := ⟨rfl, rfl, by decide, by decide, ⟨_, rfl, rfl, ⟨rfl, rfl, rfl, rfl, rfl, rfl, trivial⟩⟩⟩
def opOf (R : Nat → Int) : LOp := ⟨R 0, R 1, R 2, R 3, R 4, R 5⟩
theorem ops_rows {h : H} {s : SV} {R : List (Nat → Int)} (hr : RdRows h 6 s (R.flatMap (intRow 6))) : RdRows h 6 s ((R.map opOf).flatMap lopV) := by
  rw [List.flatMap_map]
  exact hr
/-! ### what took longer -/
theorem lchk_rt : ∀ {l pre : List LOp}, (∀ o ∈ l, lrange o) → (∀ o ∈ l, o.frm < o.too) → lchk pre l = 0 ∨ lchk pre l = 6
  | [], _, _, _ => .inl (by simp [lchk])
  | o :: l, pre, h1, h2 => by
    have ht := h2 o (by simp)
    unfold lchk
    rw [if_neg (not_not_intro (h1 o (by simp))), if_neg (by omega)]
    split
    · exact .inr rfl
    · exact lchk_rt (fun x hx => h1 x (by simp [hx])) (fun x hx => h2 x (by simp [hx]))
theorem lcheck_wide {k : Int} {os : List LOp} (h : LOk k os) {i : Nat} {o o' : LOp} (ho : os[i]? = some o) (e0 : o'.hand = o.hand) (e1 : o'.kind = o.kind) (e2 : o'.arg = o.arg) (e3 : o'.got = o.got) (f0 : 0 ≤ o'.frm) (f1 : o'.frm ≤ o.frm) (t0 : o.too ≤ o'.too) (t1 : o'.too ≤ 1000) : lcheck k (os.set i o') = 0 ∨ lcheck k (os.set i o') = 6 := by
  unfold lcheck
  rw [if_neg (not_not_intro ⟨h.k0, h.k2⟩), if_neg (by have := h.n; simp; omega)]
  have hm := List.mem_of_getElem? ho
  have hr := h.r o hm
  have ht := h.t o hm
  refine lchk_rt (fun x hx => ?_) (fun x hx => ?_)
  · rcases mem_set_cases hx with rfl | ⟨j, _, hj⟩
    · obtain ⟨a, b, c, d, e, f⟩ := hr
      unfold lrange
      rw [e0, e1, e2, e3]
      exact ⟨a, b, c, d, ⟨f0, by omega⟩, ⟨by omega, t1⟩⟩
    · exact h.r x (List.mem_of_getElem? hj)
  · rcases mem_set_cases hx with rfl | ⟨j, _, hj⟩
    · omega
    · exact h.t x (List.mem_of_getElem? hj)
theorem allOne_ops (os : List LOp) : allOne (os.flatMap lopV) := allOne_iff.2 fun v hv => by
  obtain ⟨o, _, h⟩ := List.mem_flatMap.1 hv
  exact allOne_iff.1 (allOne_lop o) v h
set_option maxHeartbeats 800000 in
theorem linWide_c {k i from_ to_ : Int} {os : List LOp} {s : SV} {ro : Addr → Option Value} {post : Value → H → Prop} (hG : HasErrT ro) (hr : RdRows ⟨[], ro⟩ 6 s (os.flatMap lopV)) (hcap : s.len ≤ s.cap) (hpost : ∀ h, post (.bool true) h) :
    SemCall Tryd.prog 8 (List.toArray [.int .i64 k, .slice s.a s.len s.cap, .int .i64 i, .int .i64 from_, .int .i64 to_]) ⟨[], ro⟩ post := by
  have hsl := hr.len lopV_len (by decide)
  refine f8_call _ _ _ _ _ _ post (lin_fact_c (fun ro1 m1 => ⟨true, rfl, VIf_nb (nomatch ·) (fun _ => ?_)⟩))
  have hG1 := HasErrT.up hG m1
  have hr1 : ∀ {X}, RdRows ⟨X, ro1⟩ 6 s (os.flatMap lopV) := fun {X} => hr.mono (by simp) m1
  refine lin_row_c hr1 hcap (fun hc => ⟨false, ⟨none, 0, 0⟩, _, rfl, ?_⟩) (fun hc hn => ⟨false, ⟨none, 0, 0⟩, none, rfl, ?_⟩) (fun l s' e' hc hl o' => ⟨true, s', none, rfl, ?_⟩)
  · refine join_b (h := ⟨[], ro1⟩) true (VIf_nerr (fun _ => gi ⟨rfl, rfl⟩) (fun h => absurd h hc)) (VIf_b (fun _ => ?_) (nomatch ·))
    exact join_b (h := ⟨[], ro1⟩) true (VIf_nb (fun _ => gi ⟨rfl, rfl⟩) (nomatch ·)) (ret (hpost _))
  · refine join_b (h := ⟨[], ro1⟩) true (VIf_nnil (VIf_nb (fun _ => gi ⟨rfl, rfl⟩) (nomatch ·))) (VIf_b (fun _ => ?_) (nomatch ·))
    exact join_b (h := ⟨[], ro1⟩) true (VIf_nb (fun _ => gi ⟨rfl, rfl⟩) (nomatch ·)) (ret (hpost _))
  have hok := lcheck_zero.1 hc
  have hn8 := hok.n
  obtain ⟨H0, hH0⟩ : ∃ H0 : H, H0 = ⟨[] ++ [e'], ro1⟩ := ⟨_, rfl⟩
  let okp : Prop := (0 ≤ i ∧ i < os.length) ∧ (0 ≤ from_ ∧ from_ ≤ (lat os i.toNat).frm) ∧ ((lat os i.toNat).too ≤ to_ ∧ to_ ≤ 1000)
  have hrow : 0 ≤ i → i < os.length → ∃ b, s.a = some b ∧ os[i.toNat]? = some (lat os i.toNat) ∧ ∀ {X : List Ent} q v, (lopV (lat os i.toNat))[q]? = some v → H.rd ⟨X, ro1⟩ (Addr.add (Addr.add b (i.toNat * 6)) q) v := fun h0 h1 => by
    obtain ⟨b, o, g1, g2, g3⟩ := (hr1 (X := [])).row lopV_len (by decide) (i := i) h0 (by omega)
    have := lat_some g2
    rw [this]
    exact ⟨b, g1, g2, fun {X} q v hq => ⟨(g3 q v hq).1, (g3 q v hq).2.elim (fun ⟨e, he, _⟩ => by simp at he) .inr⟩⟩
  open Classical in
  refine join_b (h := ⟨[] ++ [e'], ro1⟩) (decide (¬ okp)) (VIf_nnil (VIf_nb (nomatch ·) (fun _ => ?_))) (VIf_dec (fun _ => ?_) (fun hc3 => ?_))
  · refine ⟨⟨by omega, by omega⟩, in_i (fun h => ⟨_, rfl, VIf_nb (fun _ => gi ⟨rfl, (decide_eq_true (p := ¬ okp) (fun hh : okp => h ⟨hh.1.1, by have := hh.1.2; omega⟩)).symm⟩) (nomatch ·)⟩) (fun i0 i1 => ⟨_, rfl, VIf_nb (nomatch ·) (fun _ => ?_)⟩)⟩
    obtain ⟨b, g1, g2, g3⟩ := hrow i0 (by omega)
    refine ⟨b, g1, i0, by omega, _, by simpa [Addr.add_zero'] using g3 4 _ rfl, in_i (fun h => ⟨_, rfl, VIf_nb (fun _ => gi ⟨rfl, (decide_eq_true (p := ¬ okp) (fun hh : okp => h hh.2.1)).symm⟩) (nomatch ·)⟩) (fun f0 f1 => ⟨_, rfl, VIf_nb (nomatch ·) (fun _ => ⟨b, g1, i0, by omega, _, by simpa [Addr.add_zero'] using g3 5 _ rfl, in_i (fun h => ⟨_, rfl, gi ⟨rfl, (decide_eq_true (p := ¬ okp) (fun hh : okp => h hh.2.2)).symm⟩⟩) (fun t0 t1 => ⟨_, rfl, gi ⟨rfl, ?_⟩⟩)⟩)⟩)⟩
    exact (decide_eq_false (fun hn : ¬ okp => hn ⟨⟨i0, by omega⟩, ⟨f0, f1⟩, ⟨t0, t1⟩⟩)).symm
  · exact join_b (h := ⟨[] ++ [e'], ro1⟩) true (VIf_nb (nomatch ·) (fun _ => ⟨isIfaceV_errV _, gi ⟨rfl, rfl⟩⟩)) (ret (hpost _))
  obtain ⟨⟨i0, i1⟩, ⟨f0, f1⟩, ⟨t0, t1⟩⟩ : okp := Classical.byContradiction hc3
  obtain ⟨b, g1, g2, g3⟩ := hrow i0 i1
  obtain ⟨o, ho⟩ : ∃ o, o = lat os i.toNat := ⟨_, rfl⟩
  rw [← ho] at f1 t0 g2
  refine appVC_of (s := ⟨none, 0, 0⟩) (s2 := s) grows_ops (ys := os.flatMap lopV) (hr1 (X := [])).l hr1.rdS (allOne_ops os) (hr1 (X := [])).n (A := [] ++ [e']) (C := []) (en := ⟨none, [], 0⟩) (xs := []) (ro := ro1) (by simpa using Gh.phantom [e'] [] ro1 0) (OwnsSl.nil 6) (by simp only; omega) (fun s2 e2 o2 l2 _ _ _ => ?_)
  rw [List.nil_append] at o2
  have l2 : s2.len = os.length := by simp only at l2; omega
  obtain ⟨b2, hb2⟩ : ∃ b2, s2.a = some b2 := by
    rcases o2 with ⟨h1, h2, _⟩ | ⟨b, off, h1, _⟩
    · omega
    · exact ⟨_, h1⟩
  have z1 : (lopV { o with frm := from_ }) = spl (lopV o) 4 [.int .i64 from_] := rfl
  refine ⟨b2, hb2, i0, by omega, wr_row lopV_len (by decide) (x' := { o with frm := from_ }) ([] ++ [e']) e2 [] (by simp) o2 g2 hb2 (by simp) z1 ⟨rfl, trivial⟩ (fun e3 o3 _ => ?_)⟩
  have hx3 : (os.set i.toNat { o with frm := from_ })[i.toNat]? = some { o with frm := from_ } := List.getElem?_set_self (by omega)
  have z2 : (lopV { o with frm := from_, too := to_ }) = spl (lopV { o with frm := from_ }) 5 [.int .i64 to_] := rfl
  refine ⟨b2, hb2, i0, by omega, wr_row lopV_len (by decide) (x' := { o with frm := from_, too := to_ }) ([] ++ [e']) e3 [] (by simp) o3 hx3 hb2 (by simp) z2 ⟨rfl, trivial⟩ (fun e4 o4 _ => ?_)⟩
  rw [List.set_set] at o4
  have hg := (lrow_good hok.t hl).wide (o' := { o with frm := from_, too := to_ }) g2 rfl rfl rfl f1 t0
  refine SemCall.frz ([] ++ [e']) e4 [] rfl o4 (fun ro3 m3 r3 => lin_row_c r3 o4.cap_le (fun hc4 => ⟨false, ⟨none, 0, 0⟩, _, rfl, VIf_nerr (fun _ => ?_) (fun h => absurd h hc4)⟩) (fun hc4 hn4 => ?_) (fun l4 s4 e5 _ _ _ => ⟨true, s4, none, rfl, VIf_nnil (ret (hpost _))⟩))
  · refine same_error_c (HasErrT.up hG1 m3) ⟨_, rfl, ?_⟩
    rcases lcheck_wide hok (o' := { o with frm := from_, too := to_ }) g2 rfl rfl rfl rfl f0 f1 t0 t1 with h | h
    · exact absurd h hc4
    · rw [h]; exact ret (hpost _)
  · obtain ⟨l5, h5, _⟩ := lrow_of_good (lcheck_zero.1 hc4).t hg
    rw [h5] at hn4; cases hn4
end Go.Proofs.YtnepjdobknjecaaDoor
