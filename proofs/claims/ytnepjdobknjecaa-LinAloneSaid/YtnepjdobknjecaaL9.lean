import Derived.Test.YtnepjdobknjecaaL8
namespace Go.Proofs.Ytnepjdobknjecaa
open Go.Eng
set_option maxRecDepth 20000
/-! ### rows that came in -/
def opOf (R : Nat → Int) : LOp := ⟨R 0, R 1, R 2, R 3, R 4, R 5⟩
theorem ops_rows {h : H} {s : SV} {R : List (Nat → Int)} (hr : RdRows h 6 s (R.flatMap (intRow 6))) : RdRows h 6 s ((R.map opOf).flatMap lopV) := by
  rw [List.flatMap_map]
  exact hr
theorem grows_ops : Grows Try.prog 22 32 6 := ⟨rfl, rfl, by decide, by decide, ⟨_, rfl, rfl, ⟨rfl, rfl, rfl, rfl, rfl, rfl, trivial⟩⟩⟩
theorem lle_at : ∀ {j : Nat} {l m : List Nat} {a b : Nat}, lle l m → l.take j = m.take j → l[j]? = some a → m[j]? = some b → a ≠ b → a < b
  | 0, x :: l, y :: m, a, b, h, _, ha, hb, hab => by
    simp at ha hb
    subst ha; subst hb
    rcases h with h | ⟨h, _⟩
    · exact h
    · exact absurd h hab
  | j + 1, x :: l, y :: m, a, b, h, ht, ha, hb, hab => by
    simp only [List.take_succ_cons, List.cons.injEq] at ht
    rcases h with h | ⟨_, h⟩
    · omega
    · exact lle_at h ht.2 (by simpa using ha) (by simpa using hb) hab
  | _, [], _, _, _, _, _, ha, _, _ => by simp at ha
  | _, _ :: _, [], _, _, _, _, _, hb, _ => by simp at hb
theorem LOk.args {k : Int} {os : List LOp} (h : LOk k os) : ∀ o ∈ os, 0 ≤ o.arg ∧ o.arg ≤ 1000 := fun o ho => (h.r o ho).2.2.1
theorem linRow_c {k : Int} {os : List LOp} {s row : SV} {ys : List Int} {ro : Addr → Option Value} {post : Value → H → Prop} (hr : RdRows ⟨[], ro⟩ 6 s (os.flatMap lopV)) (hcap : s.len ≤ s.cap) (hy : RdSl ⟨[], ro⟩ row (ints ys)) (hpost : ∀ h, post (.bool true) h) :
    SemCall Try.prog 3 (List.toArray [.int .i64 k, .slice s.a s.len s.cap, .slice row.a row.len row.cap]) ⟨[], ro⟩ post := by
  refine f3_call _ _ _ _ post (lin_fact_c (fun ro1 m1 => ⟨_, rfl, VIf_nb (nomatch ·) (fun _ => ?_)⟩))
  have hr1 : RdRows ⟨[], ro1⟩ 6 s (os.flatMap lopV) := RdRows.up (h := ⟨[], ro⟩) (h2 := ⟨[], ro1⟩) hr m1
  have hy1 : RdSl ⟨[], ro1⟩ row (ints ys) := hy.up (by simp) m1
  refine lin_row_c hr1 hcap (fun he => ?_) (fun he hl => ?_) (fun l s' e' he hl o' => ?_)
  · refine ⟨_, ⟨none, 0, 0⟩, _, rfl, VIf_nerr (fun _ => ?_) (fun h => absurd h he)⟩
    exact join_b (h := ⟨[], ro1⟩) true (VIf_nb (fun _ => gi ⟨rfl, rfl⟩) (nomatch ·)) (ret (hpost _))
  · have hok := lcheck_zero.1 he
    refine ⟨_, ⟨none, 0, 0⟩, none, rfl, VIf_nnil (join_b (h := ⟨[], ro1⟩) false (VIf_b (nomatch ·) (fun _ => gi ⟨rfl, rfl⟩)) (VIf_b (nomatch ·) (fun _ => ?_)))⟩
    refine good_c hr1 hy1 hok.n hok.args (fun hg ro2 m2 => ?_) (fun hg ro2 m2 => ?_)
    · obtain ⟨m, _, hm⟩ := hg.good
      obtain ⟨l, hl2, _⟩ := lrow_of_good hok.t hm
      rw [hl] at hl2; cases hl2
    · exact ⟨_, rfl, VIf_nb (fun _ => join_b (h := ⟨[], ro2⟩) true (VIf_b (nomatch ·) (fun _ => gi ⟨rfl, rfl⟩)) (ret (hpost _))) (nomatch ·)⟩
  · have hok := lcheck_zero.1 he
    have hlg := lrow_good hok.t hl
    refine ⟨_, s', none, rfl, VIf_nnil ⟨fun b h => b = false ∧ ∃ ro2, (∀ a v, ro1 a = some v → ro2 a = some v) ∧ RdSl ⟨[], ro2⟩ s' (nints l) ∧ h = ⟨[], ro2⟩, VIf_b (fun _ => ?_) (nomatch ·), ?_⟩⟩
    · refine SemCall.frz [] e' [] rfl o' (fun ro2 m2 r2 => ?_)
      have r2 := r2.sl
      refine good_c (RdRows.up (h := ⟨[], ro1⟩) (h2 := ⟨[], ro2⟩) hr1 m2) r2 hok.n hok.args (fun _ ro3 m3 => ⟨_, rfl, gi ⟨rfl, ro3, fun a v h => m3 a v (m2 a v h), r2.up (by simp) m3, rfl⟩⟩) (fun hg _ _ => absurd hlg.goodI hg)
    · rintro _ b _ ⟨rfl, ro2, m2, r2, rfl⟩
      refine VIf_b (nomatch ·) (fun _ => ?_)
      refine good_c (RdRows.up (h := ⟨[], ro1⟩) (h2 := ⟨[], ro2⟩) hr1 m2) (hy1.up (by simp) m2) hok.n hok.args (fun hg ro3 m3 => ?_) (fun hg ro3 m3 => ?_)
      · obtain ⟨m, rfl, hm⟩ := hg.good
        obtain ⟨l2, hl2, hle⟩ := lrow_of_good hok.t hm
        rw [hl] at hl2; cases hl2
        have hlen := hlg.len
        have hmen := hm.len
        have hn8 := hok.n
        have r3 : RdSl ⟨[], ro3⟩ s' (ints (l.map Int.ofNat)) := r2.up (by simp) m3
        have y3 : RdSl ⟨[], ro3⟩ row (ints (m.map Int.ofNat)) := hy1.up (by simp) (fun a v h => m3 a v (m2 a v h))
        have q1 := r3.len
        have q2 := y3.len
        simp at q1 q2
        refine ⟨_, rfl, VIf_nb (nomatch ·) (fun _ => VIf_nb (nomatch ·) (fun _ => ?_))⟩
        refine ⟨fun _ => True, ⟨fun n i h => ∃ j : Nat, i = (j : Int) ∧ j ≤ l.length ∧ n = l.length - j ∧ h = ⟨[], ro3⟩ ∧ l.take j = m.take j, ⟨_, gi ⟨0, rfl, Nat.zero_le _, rfl, rfl, rfl⟩⟩, ?_⟩, fun _ _ _ => ret (hpost _)⟩
        rintro n _ i _ ⟨j, rfl, hj, rfl, rfl, ht⟩
        refine VIf_dec (fun hi => ?_) (fun _ => gi trivial)
        have hjl : j < l.length := by omega
        have hjm : j < m.length := by omega
        obtain ⟨b1, hb1⟩ := r3.addr (by simp; omega)
        obtain ⟨b2, hb2⟩ := y3.addr (by simp; omega)
        have e1 : (l.map Int.ofNat)[j]? = some ((l[j] : Nat) : Int) := by rw [List.getElem?_map, List.getElem?_eq_getElem hjl]; rfl
        have e2 : (m.map Int.ofNat)[j]? = some ((m[j] : Nat) : Int) := by rw [List.getElem?_map, List.getElem?_eq_getElem hjm]; rfl
        have d1 : H.rd ⟨[], ro3⟩ (Addr.add (Addr.add b1 ((j : Int).toNat * 1)) 0) (.int .i64 ((l[j] : Nat) : Int)) := r3.rdi hb1 (by simpa using e1)
        have d2 : H.rd ⟨[], ro3⟩ (Addr.add (Addr.add b2 ((j : Int).toNat * 1)) 0) (.int .i64 ((m[j] : Nat) : Int)) := y3.rdi hb2 (by simpa using e2)
        refine ⟨b1, hb1, by omega, hi, _, d1, b2, hb2, by omega, by omega, _, d2, VIf_ne (fun hne => ?_) (fun heq => ?_)⟩
        · refine ⟨b1, hb1, by omega, hi, _, d1, b2, hb2, by omega, by omega, _, d2, ret ?_⟩
          have := lle_at hle ht (List.getElem?_eq_getElem hjl) (List.getElem?_eq_getElem hjm) (by omega)
          rw [decide_eq_true (by omega)]
          exact hpost _
        · refine ⟨⟨by omega, by omega⟩, l.length - (j + 1), by omega, gi ⟨j + 1, by omega, by omega, rfl, rfl, ?_⟩⟩
          rw [List.take_add_one, List.take_add_one, ht, List.getElem?_eq_getElem hjl, List.getElem?_eq_getElem hjm, show l[j] = m[j] by omega]
      · exact ⟨_, rfl, VIf_nb (fun _ => join_b (h := ⟨[], ro3⟩) true (VIf_b (fun _ => gi ⟨rfl, rfl⟩) (nomatch ·)) (ret (hpost _))) (nomatch ·)⟩
end Go.Proofs.Ytnepjdobknjecaa
