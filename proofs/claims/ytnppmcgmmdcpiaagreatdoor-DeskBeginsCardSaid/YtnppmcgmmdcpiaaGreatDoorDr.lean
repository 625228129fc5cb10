import Derived.BigRegionIn
import Derived.RegionIn
import Derived.TacticsInMore
import Derived.WalkKit
import Derived.IntWalk
import Derived.RangeFuncCalls
import Derived.Test.YtnppmcgmmdcpiaaGreatDoorDl
import Derived.Test.YtnppmcgmmdcpiaaGreatDoorLx2
import Derived.Test.YtnppmcgmmdcpiaaGreatDoorT8
namespace Go.Proofs.YtnppmcgmmdcpiaaGreatDoor
open Go.Eng
set_option maxRecDepth 20000
/-! ### desk.Run: the range -/
theorem ans_ne {x : Bo} {s : List UInt8} : (dans x s).2 ≠ [] := by
  have hc : ∀ e, codeS e ≠ [] := fun e => by
    unfold codeS enoS
    repeat' split
    all_goals decide
  have hl : ∀ (s : List UInt8) (l : List Int), s ≠ [] → listB s l ≠ [] := fun s l h => by simp [listB, h]
  unfold dans
  split
  · show sBad ≠ []; decide
  · unfold ddo
    split
    · exact hc _
    split
    · exact hc _
    split
    · exact hl _ _ (by decide)
    split
    · exact hl _ _ (by decide)
    split
    · split
      · exact hc _
      · exact hl _ _ (by decide)
    · show sBad ≠ []; decide
theorem dsess_step {x : Bo} {t : List UInt8} (h : t ≠ []) : dsess x t = (dans x (lineT t)).2 ++ 10 :: dsess (dans x (lineT t)).1 (lineOf t).2 ∧ (lineOf t).2.length < t.length ∧ (lineT t).length ≤ t.length ∧ (lineOf t).1.length ≤ t.length := by
  rcases text_cases t with rfl | ⟨h0, hn⟩ | ⟨s, l, hs, rfl⟩
  · exact absurd rfl h
  · have hp := List.length_pos_iff.2 h0
    have h1 := lineT_none hn
    have hi : (lineOf t).1 = t := by
      have := (line_none (t := t) (by
        have hge := Lib.indexByte_ge t 10
        by_cases hc : Lib.indexByte t 10 < 0
        · exact hc
        · obtain ⟨o, ho⟩ : ∃ o : Nat, Lib.indexByte t 10 = o := ⟨(Lib.indexByte t 10).toNat, by omega⟩
          exact absurd (List.mem_of_getElem? (Lib.indexByte_some ho).1) hn)).1
      rw [this]
    rw [h1.1, h1.2, (dsess_last h0 hn).1, dsess_nil, hi]
    refine ⟨rfl, ?_, Nat.le_refl _, Nat.le_refl _⟩
    show ([] : List UInt8).length < t.length
    simpa using hp
  · have h1 := lineT_app (l := l) hs
    have hi : (lineOf (s ++ 10 :: l)).1 = s ++ [10] := by
      rw [line_some (idx_app (l := l) hs)]
      simp
    rw [h1.1, h1.2, (dsess_line hs).1, hi]
    exact ⟨rfl, by simp; omega, by simp, by simp⟩
noncomputable def body20 : Code := rfB (blkB (seqR (seqL (restOf 6 (bodyOf Tryz.f20)))))
noncomputable def assign20 : Code := rfA (blkB (seqR (seqL (restOf 6 (bodyOf Tryz.f20)))))
noncomputable def r7_20 : Code := seqL (restOf 5 (bodyOf Tryz.f20))
noncomputable def r8_20 : Code := seqL (seqL (restOf 6 (bodyOf Tryz.f20)))
noncomputable def tail20 : Code := restOf 7 (bodyOf Tryz.f20)
theorem mid20_code : restOf 5 (bodyOf Tryz.f20) = r7_20.seq ((r8_20.seq (Code.block 0 (Code.rangeFunc (.tmp 24) #[25] assign20 body20))).seq tail20) := by kernel_rfl
def dL (rd : Nat) (s : BkS) (o : ObS) (C : List Ent) : List Ent := bxE rd (.pointer (some (Addr.mk s.r 0 none))) :: (boL s ++ (obL o ++ C))
structure I20 (rd r6 : Nat) (C : List Ent) (ro0 : Addr → Option Value) (t0 : List UInt8) (t : List UInt8) (own : List Ent) (ro : Addr → Option Value) : Prop where
  len : t.length ≤ 3000
  ex : ∃ s x o, own = dL rd s o C ∧ o.r = r6 ∧ BOO s x ro ∧ DI x ∧ BufE o.sb o.eb o.l ∧ dsess x0 t0 = o.l ++ dsess x t ∧ o.l.length + 21 * t.length ≤ 63000
  m : ∀ a v, ro0 a = some v → ro a = some v
def X20 (_ : Code) (_ : List Ent) (_ : Addr → Option Value) : Prop := False
open Go.RowKit in
set_option maxRecDepth 100000 in
set_option maxHeartbeats 2000000 in
theorem body20_c {rd r6 rb T : Nat} {C : List Ent} {ro0 : Addr → Option Value} {t0 t : List UInt8} {f : F} {own : List Ent} {ro : Addr → Option Value} {W : World} (l : Nat) (hT : shE 4 T 20 ∈ C) (hG : HasErrT ro0) (hTab : HasTab ro0) (hN : HasNum ro0) (hM : HasMax ro0)
    (hne : t ≠ []) (hi : I20 rd r6 C ro0 t0 t own ro) (hw : Holds W ⟨bxE rb (.string (bs (lineOf t).2)) :: own, ro⟩) (line : List UInt8) (hline : line = (lineOf t).1) :
    body20.wpIn (Fence.wide.inRound l) 0 Tryz.prog (roundOut (I20 rd r6 C ro0 t0) X20 rb (lineOf t).2 W ⟨bxE rb (.string (bs (lineOf t).2)) :: own, ro⟩) { tmps := #[.string (bs t0), f 1, f 2, f 3, f 4, .pointer (some (Addr.mk rd 0 none)), .pointer (some (Addr.mk r6 0 none)), .string (bs line), f 8, f 9, f 10, f 11, f 12, f 13, f 14, f 15, f 16, f 17, f 18, f 19, f 20, f 21, f 22, .string (bs t0), .func (.func 50) #[] #[.pointer (some (Addr.mk rb 0 none))], .string (bs line), f 26, f 27, f 28, f 29, f 30, f 31], defers := [] } W := by
  obtain ⟨hlen, ⟨s, x, o, rfl, hor, hb, hDI, hbuf, hse, hol⟩, hm⟩ := hi
  obtain ⟨q1, q2, q3, q4⟩ := dsess_step (x := x) hne
  rw [q1] at hse
  have S1 := fun w' => (callsIn_wide (n := 0)).2 (trimsuf (l := line) (by rw [hline]; omega) w')
  have eT : Lib.trimSuffix line [10] = lineT t := by rw [hline]; rfl
  rw [eT] at S1
  have hd := (ans_ok (s := lineT t) hDI).2
  have hdn := ans_ne (x := x) (s := lineT t)
  have hDI' := hDI.ans (s := lineT t)
  have hT2 : shE 4 T 20 ∈ [] ++ (obL o ++ C) := by simp [hT]
  have hS2 : SemCall Tryz.prog 43 #[.pointer (some (Addr.mk rd 0 none)), .string (bs (lineT t))] ⟨[bxE rb (.string (bs (lineOf t).2))] ++ (dL rd s o C ++ []), ro⟩ (fun v h => ∃ s' ro', (∀ a v, ro a = some v → ro' a = some v) ∧ BOO s' (dans x (lineT t)).1 ro' ∧ v = .string (bs (dans x (lineT t)).2) ∧ h = (⟨[bxE rb (.string (bs (lineOf t).2))] ++ (dL rd s' o C ++ []), ro'⟩ : H)) := by
    refine SemCall.frame (p := fun v h => ∃ s' ro', (∀ a v, ro a = some v → ro' a = some v) ∧ BOO s' (dans x (lineT t)).1 ro' ∧ v = .string (bs (dans x (lineT t)).2) ∧ h = (⟨dL rd s' o C, ro'⟩ : H)) (dline43 (T := T) (by omega) [] (obL o ++ C) rfl hT2 (hG.up hm) (hTab.up hm) (hN.up hm) (hM.up hm) hb hDI (fun s' ro' m h' => ⟨s', ro', m, h', rfl, rfl⟩)) ?_
    rintro v L' ro' ⟨s', ro2, m, h', rfl, e⟩ _
    cases e
    exact ⟨s', _, m, h', rfl, rfl⟩
  have hw' : Holds W ⟨[bxE rb (.string (bs (lineOf t).2))] ++ (dL rd s o C ++ []), ro⟩ := by simpa using hw
  have S2 := (callsIn_wide (n := 0)).2 (hS2 W hw')
  clear hw hw' hS2
  generalize hqa : (dans x (lineT t)).2 = qa at S2 hse hd hdn
  generalize hqx : (dans x (lineT t)).1 = qx at S2 hse hDI'
  have fin : ∀ (s' : BkS) (o' : ObS) (ro' : Addr → Option Value) (w5 : World) (a' : Act), (∀ a v, ro a = some v → ro' a = some v) → BOO s' qx ro' → o'.r = o.r → o'.l = o.l ++ qa ++ [10] → BufE o'.sb o'.eb o'.l → Holds w5 ⟨bxE rb (.string (bs (lineOf t).2)) :: dL rd s' o' C, ro'⟩ → Fr W w5 ⟨bxE rb (.string (bs (lineOf t).2)) :: dL rd s o C, ro⟩ ⟨bxE rb (.string (bs (lineOf t).2)) :: dL rd s' o' C, ro'⟩ →
      roundOut (I20 rd r6 C ro0 t0) X20 rb (lineOf t).2 W ⟨bxE rb (.string (bs (lineOf t).2)) :: dL rd s o C, ro⟩ .normal a' w5 := by
    intro s' o' ro' w5 a' m h1 h2 h3 h4 h5 h6
    refine ⟨_, ro', ⟨by omega, ⟨s', qx, o', rfl, h2.trans hor, h1, hDI', h4, ?_, ?_⟩, fun a v h => m a v (hm a v h)⟩, h5, h6⟩
    · rw [hse, h3]; simp
    · rw [h3]; simp only [List.length_append, List.length_singleton]; omega
  subst hor
  generalize roundOut (I20 rd o.r C ro0 t0) X20 rb (lineOf t).2 W ⟨bxE rb (.string (bs (lineOf t).2)) :: dL rd s o C, ro⟩ = Q at fin
  clear hse hDI hDI' hT2 hb q1
  generalize hr2 : (lineOf t).2 = rest at S2 fin
  generalize lineT t = ln at S1 S2
  clear hr2 hline eT
  simp only [body20, rfB, blkB, seqL, seqR, restOf, bodyOf, Tryz.f20, Option.getD_some]
  gi_wp2_with (first | (refine ⟨trivial, rfl, ?_⟩; gi_at_call 44; refine (CallsIn.inRound l (S1 _)).mono ?_; rintro e w' ⟨rfl, hww⟩; rw [hww]; clear hww w') | (refine ⟨trivial, rfl, ?_⟩; gi_at_call 43; refine (CallsIn.inRound l S2).mono ?_; rintro e w2 ⟨v, h', rfl, hh2, hf2, s', ro', m', hb', rfl, rfl⟩; refine Hid.out ?_) | (rw [Oper.semAt_some _ _ _ (fun c h => by cases h)]; go_simp; try go_bits))
  refine Lib.hid ?_
  have e1 : [bxE rb (.string (bs rest))] ++ (dL rd s' o C ++ []) = (bxE rb (.string (bs rest)) :: bxE rd (.pointer (some (Addr.mk s'.r 0 none))) :: boL s') ++ (obL o ++ C) := by simp [dL]
  have e0 : [bxE rb (.string (bs rest))] ++ (dL rd s o C ++ []) = bxE rb (.string (bs rest)) :: dL rd s o C := by simp [dL]
  rw [e1] at hh2
  rw [e0, e1] at hf2
  have hS3 := lws_c hbuf hdn (by omega) (own := (bxE rb (.string (bs rest)) :: bxE rd (.pointer (some (Addr.mk s'.r 0 none))) :: boL s') ++ (obL o ++ C)) (ro := ro')
    (post := fun v h => ∃ o', o'.r = o.r ∧ o'.l = o.l ++ qa ∧ BufE o'.sb o'.eb o'.l ∧ v = .tuple #[.int .i64 qa.length, .nilIface] ∧ h = (⟨(bxE rb (.string (bs rest)) :: bxE rd (.pointer (some (Addr.mk s'.r 0 none))) :: boL s') ++ (obL o' ++ C), ro'⟩ : H)) _ _ rfl (fun o' h1 h2 h3 => ⟨o', h1, h2, h3, rfl, rfl⟩) w2 hh2
  have S3 := (callsIn_wide (n := 0)).2 hS3
  clear S1 S2 hS3 hh2 e0 e1
  gi_wp2_with (first | (refine ⟨trivial, rfl, ?_⟩; gi_at_call 42; refine (CallsIn.inRound l S3).mono ?_; rintro e w3 ⟨v, h', rfl, hh3, hf3, o2, hr2, hl2, hbuf2, rfl, rfl⟩; refine Hid.out ?_) | (rw [Oper.semAt_some _ _ _ (fun c h => by cases h)]; go_simp; try go_bits))
  refine Lib.hid ?_
  have hf3 := hf2.trans hf3
  obtain ⟨r2, pa2, sb2, eb2, l2⟩ := o2
  dsimp only at hr2 hl2 hbuf2
  subst hr2
  have hS4 := lwb_ten (s := ⟨o.r, pa2, sb2, eb2, l2⟩) hbuf2 (by show l2.length + 1 ≤ _; rw [hl2, List.length_append]; omega) (own := (bxE rb (.string (bs rest)) :: bxE rd (.pointer (some (Addr.mk s'.r 0 none))) :: boL s') ++ (obL ⟨o.r, pa2, sb2, eb2, l2⟩ ++ C)) (ro := ro')
    (post := fun v h => ∃ o', o'.r = o.r ∧ o'.l = l2 ++ [10] ∧ BufE o'.sb o'.eb o'.l ∧ v = .nilIface ∧ h = (⟨(bxE rb (.string (bs rest)) :: bxE rd (.pointer (some (Addr.mk s'.r 0 none))) :: boL s') ++ (obL o' ++ C), ro'⟩ : H)) _ _ rfl (fun o' h1 h2 h3 => ⟨o', h1, h2, h3, rfl, rfl⟩) w3 hh3
  have S4 := (callsIn_wide (n := 0)).2 hS4
  clear S3 hS4 hh3 hf2
  gi_wp2_with (first | (refine ⟨trivial, rfl, ?_⟩; gi_at_call 45; refine (CallsIn.inRound l S4).mono ?_; rintro e w4 ⟨v, h', rfl, hh4, hf4, o3, hr3, hl3, hbuf3, rfl, rfl⟩; refine Hid.out ?_) | (rw [Oper.semAt_some _ _ _ (fun c h => by cases h)]; go_simp; try go_bits))
  refine Lib.hid ?_
  have hf4 := hf3.trans hf4
  have e2 : (bxE rb (.string (bs rest)) :: bxE rd (.pointer (some (Addr.mk s'.r 0 none))) :: boL s') ++ (obL o3 ++ C) = bxE rb (.string (bs rest)) :: dL rd s' o3 C := by simp [dL]
  rw [e2] at hh4 hf4
  have hl4 : o3.l = o.l ++ qa ++ [10] := by rw [hl3, hl2]
  have fin := fun a' => fin s' o3 ro' w4 a' m' hb' hr3 hl4 hbuf3 hh4 hf4
  clear hh4 hf4 hf3 S4 e2
  gi_wp2_with (rw [Oper.semAt_some _ _ _ (fun c h => by cases h)]; go_simp; try go_bits)
  exact fin _

end Go.Proofs.YtnppmcgmmdcpiaaGreatDoor
