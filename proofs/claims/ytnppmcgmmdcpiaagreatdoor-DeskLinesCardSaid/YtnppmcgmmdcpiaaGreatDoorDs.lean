
import Derived.Test.YtnppmcgmmdcpiaaGreatDoorDe
namespace Go.Proofs.YtnppmcgmmdcpiaaGreatDoor
open Go.Eng
set_option maxRecDepth 20000
def x0 : Bo := ⟨bk0, [], 0⟩
def sLong : List UInt8 := [116, 111, 111, 32, 108, 111, 110, 103, 10]
/-- what a session is answered -/
noncomputable def drun (t : List UInt8) : List UInt8 := if 3000 < t.length then sLong else dsess x0 t
theorem x0_DI : DI x0 := DI.first
/-- what is left of a session -/
structure SI (t : List UInt8) (k : Nat) (o : List UInt8) (y : Bo) : Prop where
  kl : k ≤ t.length + 1
  e : dsess x0 t = o ++ dsess y (t.drop k)
  di : DI y
  ol : o.length ≤ 21 * k
theorem SI.start (t : List UInt8) : SI t 0 [] x0 := ⟨Nat.zero_le _, by simp, x0_DI, Nat.le_refl _⟩
theorem SI.step {t : List UInt8} {k j : Nat} {o s : List UInt8} {y : Bo} (h : SI t k o y) (hk : k < t.length) (hkj : k ≤ j) (hj : j ≤ t.length) (hs : s = (t.drop k).take (j - k)) (hn : 10 ∉ s) (hend : j = t.length ∨ ∃ h : j < t.length, t[j] = 10) :
    SI t (j + 1) (o ++ (dans y s).2 ++ [10]) (dans y s).1 := by
  have hd := (ans_ok (s := s) h.di).2
  have hol := h.ol
  refine ⟨by omega, ?_, h.di.ans, by simp only [List.length_append, List.length_singleton]; omega⟩
  rw [h.e]
  rcases hend with rfl | ⟨hj', hc⟩
  · have e1 : t.drop k = s := by rw [hs, List.take_of_length_le (by simp)]
    have h0 : t.drop k ≠ [] := by
      intro hh
      have := congrArg List.length hh
      simp at this
      omega
    rw [e1] at h0 ⊢
    rw [(dsess_last h0 hn).1, List.drop_eq_nil_of_le (by omega), dsess_nil]
    simp
  · have e1 := drop_at (fr := k) (k := j) hkj hj' hc
    rw [← hs] at e1
    rw [e1, (dsess_line hn).1]
    simp
theorem SI.done {t : List UInt8} {k : Nat} {o : List UInt8} {y : Bo} (h : SI t k o y) (hk : t.length ≤ k) : dsess x0 t = o := by
  rw [h.e, List.drop_eq_nil_of_le hk, dsess_nil, List.append_nil]
set_option maxHeartbeats 1000000 in
theorem rsession_c {t : List UInt8} {own : List Ent} {ro : Addr → Option Value} {post : Value → H → Prop}
    (hk : ∀ ro', (∀ a v, ro a = some v → ro' a = some v) → post (.string (bs (drun t))) ⟨own, ro'⟩) :
    SemCall Tryz.prog 21 (List.toArray [.string (bs t)]) ⟨own, ro⟩ post := by
  refine f21_call _ _ post ?_
  unfold f21_sem
  rw [bs_size]
  refine VIf_dec (fun h => ret ?_) (fun h => ?_)
  · have := hk ro (fun _ _ h => h)
    unfold drun at this
    rw [if_pos (by omega)] at this
    exact this
  have hdr : drun t = dsess x0 t := by unfold drun; rw [if_neg (by omega)]
  refine rfirst_c (fun sf sc sh ro1 m1 hb1 => ⟨sf, sc, sh, rfl, ?_⟩)
  intro r6 _
  refine ⟨rfl, rfl, dE_new (yl := []) ?_⟩
  refine ⟨fun x h => ∃ y ro', h = (⟨own, ro'⟩ : H) ∧ (∀ a v, ro a = some v → ro' a = some v) ∧ x = bs (dsess x0 t) ∧ y = (),
    ⟨fun n x i h => ∃ (k : Nat) (o : List UInt8) (y : Bo) (yf yc yh : SV) (ro' : Addr → Option Value), i = (k : Int) ∧ n = t.length + 1 - k ∧ x = bs o ∧ SI t k o y ∧ h = (⟨own ++ [dE r6 yf yc yh y.l (y.n : Int)], ro'⟩ : H) ∧ (∀ a v, ro a = some v → ro' a = some v) ∧ BkRd ⟨[], ro'⟩ yf yc yh y.b,
      ⟨_, gi ⟨0, [], x0, sf, sc, sh, ro1, rfl, rfl, rfl, SI.start t, rfl, m1, hb1⟩⟩, ?_⟩, ?_⟩
  · rintro n _ x i h ⟨k, o, y, yf, yc, yh, ro', rfl, rfl, rfl, hS, rfl, m, hy⟩
    unfold f21_L3
    rw [bs_size]
    have hkS := hS.kl
    refine VIf_dec (fun hi => ?_) (fun hi => ⟨⟨own, ro'⟩, Gh.drop (by simp), (), ro', rfl, m, by rw [hS.done (by omega)], rfl⟩)
    have hkl : k < t.length := by omega
    refine ⟨fun x i h => ∃ (k2 : Nat) (o : List UInt8) (y : Bo) (yf yc yh : SV) (ro' : Addr → Option Value), k < k2 ∧ i = (k2 : Int) ∧ x = bs o ∧ SI t k2 o y ∧ h = (⟨own ++ [dE r6 yf yc yh y.l (y.n : Int)], ro'⟩ : H) ∧ (∀ a v, ro a = some v → ro' a = some v) ∧ BkRd ⟨[], ro'⟩ yf yc yh y.b, ⟨fun i h => ∃ j : Nat, i = (j : Int) ∧ k ≤ j ∧ j ≤ t.length ∧ 10 ∉ (t.drop k).take (j - k) ∧ (j = t.length ∨ ∃ h : j < t.length, t[j] = 10) ∧ h = (⟨own ++ [dE r6 yf yc yh y.l (y.n : Int)], ro'⟩ : H),
      ⟨fun n i h => ∃ j : Nat, i = (j : Int) ∧ k ≤ j ∧ j ≤ t.length ∧ n = t.length - j ∧ 10 ∉ (t.drop k).take (j - k) ∧ h = (⟨own ++ [dE r6 yf yc yh y.l (y.n : Int)], ro'⟩ : H), ⟨_, gi ⟨k, rfl, Nat.le_refl _, by omega, rfl, by simp, rfl⟩⟩, ?_⟩, ?_⟩, ?_⟩
    · rintro n _ i h ⟨j, rfl, hkj, hj, rfl, hn, rfl⟩
      unfold f21_L1
      refine ⟨fun c h => c = decide (∃ h : j < t.length, t[j] ≠ 10) ∧ h = (⟨own ++ [dE r6 yf yc yh y.l (y.n : Int)], ro'⟩ : H), ?_, ?_⟩
      · rw [bs_size]
        refine VIf_dec (fun hi => ⟨by omega, by omega, gi ⟨?_, rfl⟩⟩) (fun hi => gi ⟨?_, rfl⟩)
        · have hjl : j < t.length := by omega
          rw [byte_at t j hjl]
          by_cases hc : t[j] = 10
          · rw [hc, decide_eq_false (by rintro ⟨_, h⟩; exact h hc)]; rfl
          · rw [decide_eq_true ⟨hjl, hc⟩, bne_iff_ne]
            intro h
            exact hc (byte_eq.1 h)
        · rw [decide_eq_false]
          rintro ⟨h, _⟩
          omega
      · rintro _ c _ ⟨rfl, rfl⟩
        refine VIf_dec (fun hc => ?_) (fun hc => gi ⟨j, rfl, hkj, hj, hn, ?_, rfl⟩)
        · obtain ⟨hjl, hc⟩ := hc
          refine ⟨⟨by omega, by omega⟩, t.length - (j + 1), by omega, gi ⟨j + 1, by omega, by omega, by omega, rfl, ?_, rfl⟩⟩
          rw [take_step hkj hjl]
          simp only [List.mem_append, List.mem_singleton, not_or]
          exact ⟨hn, fun h => hc h.symm⟩
        · rcases Nat.lt_or_ge j t.length with h' | h'
          · right
            exact ⟨h', Classical.byContradiction fun hn => hc ⟨h', hn⟩⟩
          · left; omega
    · rintro _ i h ⟨j, rfl, hkj, hj, hn, hend, rfl⟩
      unfold f21_J2
      have hm : dE r6 yf yc yh y.l (y.n : Int) ∈ own ++ [dE r6 yf yc yh y.l (y.n : Int)] := by simp
      rw [bs_size, Int.toNat_natCast, Int.toNat_natCast, bs_ex]
      refine ⟨by omega, by omega, by omega, by omega, yf, dE_rd' hm 0 rfl, yc, dE_rd' hm 1 rfl, yh, dE_rd' hm 2 rfl, bs y.l, dE_rd' hm 3 rfl, _, dE_rd' hm 4 rfl, ?_⟩
      have hS2 := hS.step hkl hkj hj rfl hn hend
      have hol := hS2.ol
      generalize hs : (t.drop k).take (j - k) = s at hS2 hol hn ⊢
      refine danswer_c (by rw [← hs]; simp; omega) hy hS.di ?_
      intro zf zc zh ro2 m2 hz
      generalize hz' : (dans y s).1 = z at hS2 hz ⊢
      generalize (dans y s).2 = q at hS2 hol ⊢
      refine ⟨OwnExt.same, zf, zc, zh, bs z.l, (z.n : Int), bs q, rfl, ?_⟩
      intro r47 _
      refine ⟨rfl, rfl, dE_new ?_⟩
      have hm2 : dE r47 zf zc zh z.l (z.n : Int) ∈ own ++ [dE r6 yf yc yh y.l (y.n : Int)] ++ [dE r47 zf zc zh z.l (z.n : Int)] := by simp
      refine ⟨zf, dE_rd' hm2 0 rfl, zc, dE_rd' hm2 1 rfl, zh, dE_rd' hm2 2 rfl, bs z.l, dE_rd' hm2 3 rfl, _, dE_rd' hm2 4 rfl, rfl, rfl, ?_⟩
      refine wro own (dE r6 yf yc yh y.l (y.n : Int)) [dE r47 zf zc zh z.l (z.n : Int)] ⟨rfl, rfl, rfl, rfl, rfl, trivial⟩ (by simp) rfl (by simp [dE]) ?_
      rw [show ByteArray.mk (List.toArray [(10 : UInt8)]) = bs [10] from rfl]
      simp only [bs_app, bs_size]
      simp only [List.length_append, List.length_singleton] at hol
      refine ⟨by omega, by simp only [List.length_append, List.length_singleton]; omega, ⟨by omega, by omega⟩, ?_⟩
      refine ⟨⟨own ++ [dE r6 zf zc zh z.l (z.n : Int)], ro2⟩, ?_, j + 1, _, z, zf, zc, zh, ro2, by omega, by omega, rfl, hS2, rfl, fun a v h => m2 a v (m a v h), hz⟩
      refine Gh.drop ?_
      exact List.Sublist.append_left (.cons_cons _ (List.nil_sublist _)) _
    · rintro _ x i h ⟨k2, o2, y2, yf2, yc2, yh2, ro2, hk2, rfl, rfl, hS2, rfl, m2, hy2⟩
      have := hS2.kl
      exact ⟨t.length + 1 - k2, by omega, gi ⟨k2, o2, y2, yf2, yc2, yh2, ro2, rfl, rfl, rfl, hS2, rfl, m2, hy2⟩⟩
  · rintro _ x h ⟨_, ro', rfl, m, rfl, _⟩
    refine ret ?_
    rw [← hdr]
    exact hk ro' m
end Go.Proofs.YtnppmcgmmdcpiaaGreatDoor
