import Derived.Test.YtnppmcgmmdcpiaaGreatDoorTm
namespace Go.Proofs.YtnppmcgmmdcpiaaGreatDoor
open Go.Eng
set_option maxRecDepth 20000
/-! ### BookTurned -/
theorem set_text {t : List UInt8} {k : Nat} {c : UInt8} (h : k < t.length) : (bs t).extract 0 ((k : Int)).toNat ++ bs [c] ++ (bs t).extract ((k : Int) + 1).toNat t.length = bs (t.set k c) := by
  rw [Int.toNat_natCast, show ((k : Int) + 1).toNat = k + 1 by omega, bs_take t k (by omega), bs_drop, bs_app, bs_app]
  congr 1
  rw [List.set_eq_take_append_cons_drop, if_pos h]
  simp
theorem byte_nat {c : Int} (h0 : 0 ≤ c) (h1 : c ≤ 255) : ∃ d : UInt8, c = (d.toNat : Int) := by
  refine ⟨UInt8.ofNat c.toNat, ?_⟩
  rw [UInt8.toNat_ofNat']
  omega
set_option maxHeartbeats 2000000 in
theorem bookTurned_c {b : Bk} {sf sc sh ss : SV} {i c0 : Int} {rows : List (SV × List Int)} {ro : Addr → Option Value} {post : Value → H → Prop} {T : Nat} (hG : HasErrT ro) (hTab : HasTab ro) (hN : HasNum ro) (hM : HasMax ro) (hb : BkRd ⟨[], ro⟩ sf sc sh b) (hs : RdRowsOf ⟨[], ro⟩ ss rows) (hcap : ∀ r ∈ rows, r.1.len ≤ r.1.cap) (hc0 : 0 ≤ c0 ∧ c0 ≤ 255) (hpost : ∀ h, post (.bool true) h) :
    SemCall Tryz.prog 3 (List.toArray [bkV sf sc sh, .slice ss.a ss.len ss.cap, .int .i64 i, .int .u8 c0]) ⟨[shE 4 T 20], ro⟩ post := by
  obtain ⟨c, rfl⟩ := byte_nat hc0.1 hc0.2
  clear hc0
  refine p3_call sf sc sh ss i (c.toNat : Int) (fun i' c' a4 t' line' h => i' = i ∧ c' = (c.toNat : Int) ∧ ∃ (k : Nat) (r1 : Nat) (l : List UInt8) (x : Bo) (s : BkS) (ro' : Addr → Option Value) (_ : k < l.length), i = (k : Int) ∧ a4 = Addr.mk r1 0 none ∧ t' = bs l ∧ Puts b l x ∧ BR b x ∧ x.l = l ∧ BOk b ∧ brow b ≠ none ∧ l[k] ≠ 10 ∧ c ≠ 10 ∧ c ≠ l[k] ∧
    line' = 1 + (((l.take k).count 10 : Nat) : Int) ∧ (∀ a v, ro a = some v → ro' a = some v) ∧ h = (⟨[shE 4 T 20] ++ [bkE r1 sf sc sh] ++ boL s, ro'⟩ : H)) _ post ?_ ?_
  · unfold p3_sem
    intro r1 _
    simp only [bk_row, add_mk', Nat.zero_add, Nat.add_zero]
    have hTm : shE 4 T 20 ∈ [shE 4 T 20] ++ [bkE r1 sf sc sh] := by simp
    have hE : bkE r1 sf sc sh ∈ [shE 4 T 20] ++ [bkE r1 sf sc sh] := by simp
    refine fact_c hG hTm hTab (fun ro1 m1 => ⟨true, rfl, VIf_nb (nomatch ·) (fun _ => ?_)⟩)
    refine ⟨sf, bkE_0 hE, sc, bkE_1 hE, sh, bkE_2 hE, told_c' hTm (hTab.up m1) (hb.mono (by simp) m1) (hs.mono (by simp) m1) hcap (fun _ => ⟨none, false, rfl, VIf_nb (fun _ => ret (hpost _)) (nomatch ·)⟩) (fun ho hr s ro2 m2 hB => ⟨_, true, rfl, VIf_nb (nomatch ·) (fun _ => ?_)⟩)⟩
    have hBR := BR.told b (rows.map Prod.snd)
    have hPt := Puts.told b (rows.map Prod.snd)
    generalize btold b (rows.map Prod.snd) = x at hB hBR hPt
    have m12 : ∀ a v, ro a = some v → ro2 a = some v := fun a v h => m2 a v (m1 a v h)
    refine text_c hB ([shE 4 T 20] ++ [bkE r1 sf sc sh]) [] (by simp) ⟨_, rfl, ?_⟩
    have hle := hBR.le
    generalize hxl : x.l = l at hPt hle ⊢
    rw [bs_size]
    refine ⟨fun d h => d = decide (¬ ∃ (k : Nat) (hk : k < l.length), i = (k : Int) ∧ l[k] ≠ 10 ∧ c ≠ 10 ∧ c ≠ l[k]) ∧ h = (⟨[shE 4 T 20] ++ [bkE r1 sf sc sh] ++ boL s, ro2⟩ : H), ?_, ?_⟩
    · refine VIf_dec (fun h => gi ⟨(decide_eq_true (by rintro ⟨k, _, rfl, _⟩; omega)).symm, rfl⟩) (fun h0 => VIf_dec (fun h => gi ⟨(decide_eq_true (by rintro ⟨k, hk, rfl, _⟩; omega)).symm, rfl⟩) (fun h1 => ?_))
      obtain ⟨k, rfl⟩ : ∃ k : Nat, i = (k : Int) := ⟨i.toNat, by omega⟩
      have hk : k < l.length := by omega
      refine ⟨by omega, by omega, ?_⟩
      rw [byte_at l k hk]
      refine VIf_eq (fun h => gi ⟨(decide_eq_true ?_).symm, rfl⟩) (fun h2 => VIf_eq (fun h => gi ⟨(decide_eq_true ?_).symm, rfl⟩) (fun h3 => ⟨by omega, by omega, gi ⟨?_, rfl⟩⟩))
      · rintro ⟨k', hk', e, h4, _⟩
        obtain rfl : k = k' := by omega
        exact h4 (byte_eq.1 h)
      · rintro ⟨_, _, _, _, h4, _⟩
        exact h4 (byte_eq.1 h)
      · by_cases he : l[k] = c
        · rw [he, decide_eq_true (by
            rintro ⟨k', hk', e, _, _, h5⟩
            obtain rfl : k = k' := by omega
            exact h5 he.symm)]
          simp
        · rw [decide_eq_false (fun hn => hn ⟨k, hk, rfl, fun h => h2 (by rw [h]; rfl), fun h => h3 (by rw [h]; rfl), fun h => he h.symm⟩), beq_eq_false_iff_ne]
          exact fun h => he (byte_eq.1 h)
    · rintro _ d _ ⟨rfl, rfl⟩
      refine VIf_dec (fun _ => ret (hpost _)) (fun hd => ?_)
      obtain ⟨k, hk, rfl, d1, d2, d3⟩ := Classical.not_not.1 hd
      have hcnt : ∀ j, (l.take j).count 10 ≤ 2000 := fun j => by
        have h1 := List.count_le_length (a := (10 : UInt8)) (l := l.take j)
        rw [List.length_take] at h1
        omega
      refine ⟨fun n h => n = 1 + (((l.take k).count 10 : Nat) : Int) ∧ h = (⟨[shE 4 T 20] ++ [bkE r1 sf sc sh] ++ boL s, ro2⟩ : H), ⟨fun n a i h => ∃ j : Nat, i = (j : Int) ∧ j ≤ k ∧ n = k - j ∧ a = 1 + (((l.take j).count 10 : Nat) : Int) ∧ h = (⟨[shE 4 T 20] ++ [bkE r1 sf sc sh] ++ boL s, ro2⟩ : H), ⟨_, gi ⟨0, rfl, Nat.zero_le _, rfl, rfl, rfl⟩⟩, ?_⟩, ?_⟩
      · rintro n _ a i h7 ⟨j, rfl, hj, rfl, rfl, rfl⟩
        unfold p3_L1
        rw [bs_size]
        have hb1 := hcnt j
        refine VIf_dec (fun hi => ?_) (fun hi => gi ⟨by rw [show j = k by omega], rfl⟩)
        have hjl : j < l.length := by omega
        have hst : (l.take (j + 1)).count 10 = (l.take j).count 10 + if l[j] = 10 then 1 else 0 := by
          rw [List.take_succ_eq_append_getElem hjl, List.count_append]
          by_cases h : l[j] = 10
          · rw [if_pos h, h]; rfl
          · have : [l[j]].count (10 : UInt8) = 0 := List.count_eq_zero.2 (by simp only [List.mem_singleton]; exact fun h2 => h h2.symm)
            rw [if_neg h, this]
        refine ⟨by omega, by omega, ?_⟩
        rw [byte_at l j hjl]
        refine VIf_eq (fun hc => ?_) (fun hc => ?_)
        · rw [if_pos (byte_eq.1 hc)] at hst
          exact ⟨⟨by omega, by omega⟩, ⟨by omega, by omega⟩, k - (j + 1), by omega, gi ⟨j + 1, by omega, by omega, rfl, by omega, rfl⟩⟩
        · rw [if_neg (fun h => hc (by rw [h]; rfl))] at hst
          exact ⟨⟨by omega, by omega⟩, k - (j + 1), by omega, gi ⟨j + 1, by omega, by omega, rfl, by omega, rfl⟩⟩
      · rintro _ a h8 ⟨rfl, rfl⟩
        exact gi ⟨trivial, trivial, k, r1, l, x, s, ro2, hk, rfl, rfl, rfl, hPt, hBR, hxl, ho, hr, d1, d2, d3, rfl, m12, rfl⟩
  · intro w f h2 a w2 hw hi hap
    obtain ⟨x2, hs2, hap⟩ := Kd.elim_spec _ _ _ hap
    obtain ⟨x3, hs3, hap⟩ := Kd.elim_spec _ _ _ hap
    obtain ⟨x4, hs4, hap⟩ := Kd.elim_spec _ _ _ hap
    obtain ⟨x5, hs5, hap⟩ := Kd.elim_spec _ _ _ hap
    obtain ⟨x6, hs6, hap⟩ := Kd.elim_spec _ _ _ hap
    obtain ⟨h3, g3, rfl, rfl, k, r1, l, x, s, ro', hk, rfl, rfl, rfl, hPt, hBR, hxl, ho, hr, d1, d2, d3, rfl, m, rfl⟩ := hap
    have hi := hi.gh g3
    have hle := hBR.le
    rw [hxl] at hle
    have hE : bkE r1 sf sc sh ∈ [shE 4 T 20] ++ [bkE r1 sf sc sh] ++ boL s := by simp
    have hTm : shE 4 T 20 ∈ [shE 4 T 20] ++ [bkE r1 sf sc sh] ++ boL s := by simp
    obtain ⟨e, hop, he⟩ := bopen_turned hPt hk d1 d3 d2
    have hop : bopenF (l.set k c).length ⟨b, [], 0⟩ (l.set k c) = .inl ((((l.take k).count 10 : Nat) : Int) + 1, e) := hop
    refine mid3 (i := (k : Int)) (c := c) (t := l) (sf := sf) (sc := sc) (sh := sh) (line := 1 + (((l.take k).count 10 : Nat) : Int)) (r4 := r1) hi.rel hs2 hs3 hs4 hs5 hs6 (by omega) (by omega) (by omega) (rd_sound hi.holds (bkE_0 hE)) (rd_sound hi.holds (bkE_1 hE)) (rd_sound hi.holds (bkE_2 hE))
      (R := fun v W' => ∃ ro3, v = .tuple #[.pointer none, .int .i64 ((((l.take k).count 10 : Nat) : Int) + 1), errV (eno 57 e)] ∧ (∀ a v, ro' a = some v → ro3 a = some v) ∧ Holds W' ⟨[shE 4 T 20] ++ [bkE r1 sf sc sh] ++ boL s, ro3⟩ ∧ Fr w W' ⟨[shE 4 T 20], ro⟩ ⟨[shE 4 T 20] ++ [bkE r1 sf sc sh] ++ boL s, ro3⟩) (fun W hB => ?_) (fun a' w' p mm er hR hd hsz e13 e16 e17 => ?_)
    · rw [set_text hk]
      obtain ⟨hh, hf⟩ := holds_below hi.holds hB
      have hO := open_c (b := b) (t0 := l.set k c) (own := [shE 4 T 20] ++ [bkE r1 sf sc sh] ++ boL s) (ro := ro') (T := T)
        (post := fun v h => ∃ ro3, v = .tuple #[.pointer none, .int .i64 ((((l.take k).count 10 : Nat) : Int) + 1), errV (eno 57 e)] ∧ (∀ a v, ro' a = some v → ro3 a = some v) ∧ h = (⟨[shE 4 T 20] ++ [bkE r1 sf sc sh] ++ boL s, ro3⟩ : H))
        hTm (hTab.up m) (hN.up m) (hM.up m) (hb.mono (by simp) m) (fun hc => absurd (bcheck_zero.2 ho) hc) (fun _ hr' => absurd hr' hr) (fun _ _ hl => by rw [List.length_set] at hl; omega) (fun _ _ _ at' e' ro3 hbo he' m3 => ?_) (fun _ _ _ x' s2 ro3 hbo => ?_) W hh
      · refine hO.mono ?_
        rintro _ W' ⟨v, h', rfl, h1, h2, ro3, rfl, h4, rfl⟩
        exact ⟨none, _, eno 57 e, rfl, ro3, rfl, h4, h1, (hi.fr.trans hf).trans h2⟩
      · rw [hop] at hbo
        obtain ⟨rfl, rfl⟩ := Prod.mk.inj (Sum.inl.inj hbo)
        exact ⟨ro3, rfl, m3, rfl⟩
      · rw [hop] at hbo
        cases hbo
    · obtain ⟨ro3, hv, m3, h1, h2⟩ := hR
      have hv := (Value.tuple.inj hv)
      have hv : [Value.pointer p, .int .i64 mm, errV er] = [.pointer none, .int .i64 ((((l.take k).count 10 : Nat) : Int) + 1), errV (eno 57 e)] := congrArg Array.toList hv
      simp only [List.cons.injEq, Value.pointer.injEq, Value.int.injEq, true_and, and_true] at hv
      obtain ⟨rfl, rfl, hev⟩ := hv
      rw [hev] at e17
      have hi' : Inv 96 w ⟨[shE 4 T 20], ro⟩ (upd (upd (upd (fun t => a'.tmps.getD t undef) 13 (.int .i64 (1 + (((l.take k).count 10 : Nat) : Int)))) 16 (.int .i64 ((((l.take k).count 10 : Nat) : Int) + 1))) 17 (errV (eno 57 e))) ⟨[shE 4 T 20] ++ [bkE r1 sf sc sh] ++ boL s, ro3⟩ a' w' := by
        rw [upd_self (f := fun t => a'.tmps.getD t undef) e13, upd_self (f := fun t => a'.tmps.getD t undef) e16, upd_self (f := fun t => a'.tmps.getD t undef) e17]
        exact ⟨rel_self hsz hd, h1, h2⟩
      refine r3_end (fun t => a'.tmps.getD t undef) _ _ (eno 57 e) _ post hi' ?_
      have hG3 : HasErrT ro3 := hG.up (fun a v h => m3 a v (m a v h))
      refine ⟨fun d _ => d = true, VIf_eq (fun _ => ?_) (fun h => absurd (by omega) h), ?_⟩
      · refine same_error_c hG3 ⟨_, rfl, VIf_dec (fun _ => gi rfl) (fun hne => same_error_c hG3 ⟨_, rfl, gi (decide_eq_true (he.resolve_left hne))⟩)⟩
      · rintro _ d h9 rfl
        exact ret (hpost _)
theorem byte_wf {n : Int} (hw : (Lit.int .u8 n).wf = true) : 0 ≤ n ∧ n ≤ 255 := by
  simp only [Lit.wf, Bool.and_eq_true, decide_eq_true_eq] at hw
  have e1 : IntKind.u8.min = 0 := by decide
  have e2 : IntKind.u8.max = 255 := by decide
  exact ⟨by omega, by omega⟩
end Go.Proofs.YtnppmcgmmdcpiaaGreatDoor
