import Derived.Test.YtnppmcgmmdcpiaaGreatDoorPg
import Derived.Test.YtnppmcgmmdcpiaaGreatDoorT6
namespace Go.Proofs.YtnppmcgmmdcpiaaGreatDoor
open Go.Eng
set_option maxRecDepth 20000
/-! ### BookAgain -/
set_option maxHeartbeats 1000000 in
theorem bookAgain_c {b : Bk} {sf sc sh ss sw : SV} {t : Int} {want : List Int} {rows : List (SV × List Int)} {ro : Addr → Option Value} {post : Value → H → Prop} {T : Nat} (hG : HasErrT ro) (hTab : HasTab ro) (hN : HasNum ro) (hM : HasMax ro) (hb : BkRd ⟨[], ro⟩ sf sc sh b) (hs : RdRowsOf ⟨[], ro⟩ ss rows) (hcap : ∀ r ∈ rows, r.1.len ≤ r.1.cap) (hw : RdSl ⟨[], ro⟩ sw (ints want)) (hpost : ∀ h, post (.bool true) h) :
    SemCall Tryz.prog 5 (List.toArray [bkV sf sc sh, .slice ss.a ss.len ss.cap, .int .i64 t, .slice sw.a sw.len sw.cap]) ⟨[shE 4 T 20], ro⟩ post := by
  refine f5_call sf sc sh ss t sw _ post ?_
  unfold f5_sem
  intro r1 _
  simp only [bk_row, add_mk', Nat.zero_add, Nat.add_zero]
  have hTm : shE 4 T 20 ∈ [shE 4 T 20] ++ [bkE r1 sf sc sh] := by simp
  have hE : bkE r1 sf sc sh ∈ [shE 4 T 20] ++ [bkE r1 sf sc sh] := by simp
  refine fact_c hG hTm hTab (fun ro1 m1 => ⟨true, rfl, VIf_nb (nomatch ·) (fun _ => ?_)⟩)
  refine ⟨sf, bkE_0 hE, sc, bkE_1 hE, sh, bkE_2 hE, told_c' hTm (hTab.up m1) (hb.mono (by simp) m1) (hs.mono (by simp) m1) hcap (fun _ => ⟨none, false, rfl, VIf_nb (fun _ => ret (hpost _)) (nomatch ·)⟩) (fun ho hr s ro2 m2 hB => ⟨_, true, rfl, VIf_nb (nomatch ·) (fun _ => ?_)⟩)⟩
  have hBR := BR.told b (rows.map Prod.snd)
  generalize btold b (rows.map Prod.snd) = x at hB hBR
  have hle := hBR.le
  have hop : bopenF x.l.length ⟨b, [], 0⟩ x.l = .inr x := hBR.runs.opens
  have m12 : ∀ a v, ro a = some v → ro2 a = some v := fun a v h => m2 a v (m1 a v h)
  have hTA : ∀ X, shE 4 T 20 ∈ [shE 4 T 20] ++ [bkE r1 sf sc sh] ++ X := fun X => by simp
  have hEA : ∀ X, bkE r1 sf sc sh ∈ [shE 4 T 20] ++ [bkE r1 sf sc sh] ++ X := fun X => by simp
  generalize [shE 4 T 20] ++ [bkE r1 sf sc sh] = A0 at hTm hE hTA hEA
  refine ⟨sf, bkE_0 (hEA _), sc, bkE_1 (hEA _), sh, bkE_2 (hEA _), text_c hB A0 [] (by simp) ⟨OwnExt.same, _, rfl, ?_⟩⟩
  refine open_c (T := T) (hTA _) (hTab.up m12) (hN.up m12) (hM.up m12) (hb.mono (by simp) m12) (fun hc => absurd (bcheck_zero.2 ho) hc) (fun _ hr' => absurd hr' hr) (fun _ _ hl => by omega) (fun _ _ _ at' e ro3 hbo => by rw [hop] at hbo; cases hbo) (fun _ _ _ x' s2 ro3 hbo m3 hB2 => ?_)
  rw [hop] at hbo
  cases hbo
  have hB := hB.up m3
  refine ⟨some (Addr.mk s2.r 0 none), _, none, rfl, fun c h => c = false ∧ ∃ ro4, (∀ a v, ro3 a = some v → ro4 a = some v) ∧ h = (⟨A0 ++ boL s ++ boL s2, ro4⟩ : H), VIf_nnil ?_, ?_⟩
  · refine bank_ro hB2 (A0 ++ boL s) [] (by simp) (fun z1 z2 z3 ro4 m4 hz => ⟨z1, z2, z3, rfl, ?_⟩)
    refine bank_ro (hB.up m4) A0 (boL s2) (by simp) (fun y1 y2 y3 ro5 m5 hy => ⟨y1, y2, y3, rfl, ?_⟩)
    refine same_banks_c (hz.mono (by simp) m5) (hy.mono (by simp) (fun _ _ h => h)) hB.sh.sml (fun _ => ⟨true, rfl, VIf_nb (nomatch ·) (fun _ => ?_)⟩) (fun h => absurd rfl h)
    have m45 : ∀ a v, ro3 a = some v → ro5 a = some v := fun a v h => m5 a v (m4 a v h)
    refine text_c (hB2.up m45) (A0 ++ boL s) [] (by simp) ⟨_, rfl, text_c (hB.up m45) A0 (boL s2) (by simp) ⟨_, rfl, ⟨_, Gh.refl _, ?_, ro5, m45, rfl⟩⟩⟩
    rw [bs_beq]; simp
  · rintro _ _ _ ⟨rfl, ro4, m4, rfl⟩
    unfold f5_J1
    have mA : ∀ a v, ro a = some v → ro4 a = some v := fun a v h => m4 a v (m3 a v (m12 a v h))
    refine ⟨(nomatch ·), fun _ => ?_⟩
    refine ask_c (t := t) (want := want) A0 (boL s2) (by simp) (T := T) (hTA _) (hTab.up mA) (hB.up m4) (hw.mono (by simp) mA) (fun s' ro5 m5 hB' hr' => ⟨_, rfl, ?_⟩)
    refine ask_c (t := t) (want := want) (A0 ++ boL s') [] (by simp) (T := T) (by rw [List.append_nil]; exact hTA _) ((hTab.up mA).up m5) (hB2.up (fun a v h => m5 a v (m4 a v h))) (hw.mono (by simp) (fun a v h => m5 a v (mA a v h))) (fun s2' ro6 m6 hB2' hr2' => ⟨_, rfl, ?_⟩)
    have hB' := hB'.up m6
    rw [← hr2', ← hr']
    refine ⟨fun c h => c = true, ⟨by cases h : eno 57 (bcode x false t want) <;> rfl, by cases h : eno 57 (bcode x false t want) <;> rfl, VIf_eq (fun _ => ?_) (fun h => absurd rfl h)⟩, ?_⟩
    · refine bank_ro hB2' (A0 ++ boL s') [] (by simp) (fun z1 z2 z3 ro7 m7 hz => ⟨z1, z2, z3, rfl, ?_⟩)
      refine bank_ro (hB'.up m7) A0 (boL s2' ++ []) (by simp) (fun y1 y2 y3 ro8 m8 hy => ⟨y1, y2, y3, rfl, ?_⟩)
      refine same_banks_c (hz.mono (by simp) m8) (hy.mono (by simp) (fun _ _ h => h)) hB'.sh.sml (fun _ => ⟨true, rfl, VIf_b (fun _ => ?_) (nomatch ·)⟩) (fun h => absurd rfl h)
      have m78 : ∀ a v, ro6 a = some v → ro8 a = some v := fun a v h => m8 a v (m7 a v h)
      refine text_c (hB2'.up m78) (A0 ++ boL s') [] (by simp) ⟨_, rfl, text_c (hB'.up m78) A0 (boL s2' ++ []) (by simp) ⟨_, rfl, ⟨_, Gh.refl _, ?_⟩⟩⟩
      rw [bs_beq]; simp
    · rintro _ _ _ rfl
      exact ret (hpost _)
end Go.Proofs.YtnppmcgmmdcpiaaGreatDoor
