import Derived.BigRegionIn
import Derived.RegionIn
import Derived.TacticsInMore
import Derived.WalkKit
import Derived.IntWalk
import Derived.RangeFuncCalls
import Derived.Test.YtnppmcgmmdcpiaaGreatDoorDr
namespace Go.Proofs.YtnppmcgmmdcpiaaGreatDoor
open Go.Eng
set_option maxRecDepth 20000
/-! ### desk.Run -/
open Go.RowKit in
set_option maxRecDepth 100000 in
set_option maxHeartbeats 1000000 in
theorem tail20_c {rd r6 rb D : Nat} {C : List Ent} {t0 rest : List UInt8} {f : F} {s : BkS} {o : ObS} {ro : Addr → Option Value} {w W : World} {h0 : H} {post : Value → H → Prop} (hr6 : o.r = r6) (hbuf : BufE o.sb o.eb o.l) (hw : Holds W ⟨bxE rb (.string (bs rest)) :: dL rd s o C, ro⟩)
    (hf : Fr w W h0 ⟨bxE rb (.string (bs rest)) :: dL rd s o C, ro⟩) (hD : W.heap[D]? = some (.deferred (some []))) (hwD : w.heap.size ≤ D) (hne : ∀ e ∈ bxE rb (.string (bs rest)) :: dL rd s o C, e.id ≠ some D)
    (hk : post (.string (bs o.l)) ⟨C, ro⟩) :
    tail20.wpIn Fence.wide 0 Tryz.prog (bodyPostM Fence.wide 0 Tryz.prog Tryz.f20 (semEnd h0 w post)) { tmps := #[.string (bs t0), f 1, f 2, f 3, f 4, .pointer (some (Addr.mk rd 0 none)), .pointer (some (Addr.mk r6 0 none)), f 7, f 8, f 9, f 10, f 11, f 12, f 13, f 14, f 15, f 16, f 17, f 18, f 19, f 20, f 21, f 22, .string (bs t0), .func (.func 50) #[] #[.pointer (some (Addr.mk rb 0 none))], f 25, f 26, f 27, f 28, f 29, f 30, f 31], defers := [markD D] } W := by
  have e1 : bxE rb (.string (bs rest)) :: dL rd s o C = (bxE rb (.string (bs rest)) :: bxE rd (.pointer (some (Addr.mk s.r 0 none))) :: boL s) ++ (obL o ++ C) := by simp [dL]
  have hS := lstr_c hbuf (own := bxE rb (.string (bs rest)) :: dL rd s o C) (ro := ro) (post := fun v h => v = .string (bs o.l) ∧ h = (⟨bxE rb (.string (bs rest)) :: dL rd s o C, ro⟩ : H)) _ _ e1 ⟨rfl, rfl⟩ W hw
  have S := (callsIn_wide (n := 0)).2 hS
  rw [hr6] at S
  have hDl : D < W.heap.size := (Array.getElem?_eq_some_iff.1 hD).1
  have fin : ∀ (w3 : World) (a' : Act), Holds w3 ⟨bxE rb (.string (bs rest)) :: dL rd s o C, ro⟩ → Fr W w3 ⟨bxE rb (.string (bs rest)) :: dL rd s o C, ro⟩ ⟨bxE rb (.string (bs rest)) :: dL rd s o C, ro⟩ → a'.defers = [markD D] → a'.tmps.getD 2 undef = .string (bs o.l) →
      bodyPostM Fence.wide 0 Tryz.prog Tryz.f20 (semEnd h0 w post) .ret a' w3 := by
    intro w3 a' h3 f3 hd e2
    refine ret_mark (D := D) (f' := fun t => a'.tmps.getD t undef) (fun _ => rfl) h3 (hf.trans f3) hd ((f3.keep D hDl hne).trans hD) hwD hne ?_
    have := (r20_eq (fun t => a'.tmps.getD t undef) (bs o.l) ⟨bxE rb (.string (bs rest)) :: dL rd s o C, ro⟩ post).mpr ⟨⟨C, ro⟩, Gh.drop (by
      refine List.Sublist.cons _ (List.Sublist.cons _ ?_)
      exact (List.sublist_append_right _ _).trans (List.sublist_append_right _ _)), hk⟩
    rw [upd_self (f := fun t => a'.tmps.getD t undef) e2] at this
    exact this
  clear hS hw hf hk hD hne e1 hwD hDl hbuf
  generalize bodyPostM Fence.wide 0 Tryz.prog Tryz.f20 (semEnd h0 w post) = Qf at fin
  simp only [tail20, restOf, bodyOf, Tryz.f20, Option.getD_some]
  gi_wp2_with (refine ⟨trivial, rfl, ?_⟩; gi_at_call 27; refine S.mono ?_; rintro e w3 ⟨v, h', rfl, hh3, hf3, rfl, rfl⟩; refine Hid.out ?_)
  refine Lib.hid ?_
  have fin := fun a' => fin w3 a' hh3 hf3
  clear hh3 hf3 S
  gi_wp2
  exact fin _ rfl rfl
open Go.RowKit in
set_option maxRecDepth 100000 in
set_option maxHeartbeats 1000000 in
theorem mid20 {rd T : Nat} {C : List Ent} {t0 : List UInt8} {f : F} {s : BkS} {ro : Addr → Option Value} {w W : World} {a : Act} {h0 : H} {post : Value → H → Prop} (hT : shE 4 T 20 ∈ C) (hG : HasErrT ro) (hTab : HasTab ro) (hN : HasNum ro) (hM : HasMax ro) (hb : BOO s x0 ro) (ht : t0.length ≤ 3000)
    (hi : Inv 32 w h0 f ⟨bxE rd (.pointer (some (Addr.mk s.r 0 none))) :: (boL s ++ C), ro⟩ a W) (f0 : f 0 = .string (bs t0)) (f5 : f 5 = .pointer (some (Addr.mk rd 0 none)))
    (hS : ∀ ro', (∀ a v, ro a = some v → ro' a = some v) → post (.string (bs (dsess x0 t0))) ⟨C, ro'⟩) :
    (restOf 5 (bodyOf Tryz.f20)).wpIn Fence.wide 0 Tryz.prog (bodyPostM Fence.wide 0 Tryz.prog Tryz.f20 (semEnd h0 w post)) a W := by
  obtain ⟨c20, hc20⟩ : ∃ c, tail20 = c := ⟨_, rfl⟩
  rw [mid20_code, rel_lit hi.rel, hc20]
  have e : ((List.range 32).map f).toArray = #[.string (bs t0), f 1, f 2, f 3, f 4, .pointer (some (Addr.mk rd 0 none)), f 6, f 7, f 8, f 9, f 10, f 11, f 12, f 13, f 14, f 15, f 16, f 17, f 18, f 19, f 20, f 21, f 22, f 23, f 24, f 25, f 26, f 27, f 28, f 29, f 30, f 31] := by
    rw [← f0, ← f5]; rfl
  rw [e]
  have hh := hi.holds
  have hfr := hi.fr
  clear e hi f0 f5
  obtain ⟨n1, n2⟩ := new_holds hh (obE ⟨W.heap.size, false, ⟨none, 0, 0⟩, ⟨none, [], 0⟩, []⟩).cells #[.pointer none, .slice none 0 0] 54 (obE ⟨W.heap.size, false, ⟨none, 0, 0⟩, ⟨none, [], 0⟩, []⟩) rfl rfl rfl (List.prefix_refl _)
  obtain ⟨n3, n4⟩ := holds_sh (r := W.heap.size) (T := 54) (n := 2) n1 (by
    have := heap_alloc_new W (.cells #[.pointer none, .slice none 0 0] 54)
    simp only [World.shape?, this]
    rfl)
  have g5 := Gh.phantom ((bxE rd (.pointer (some (Addr.mk s.r 0 none))) :: (boL s ++ C)) ++ [obE ⟨W.heap.size, false, ⟨none, 0, 0⟩, ⟨none, [], 0⟩, []⟩] ++ [shE W.heap.size 54 2]) [] ro 0
  rw [List.append_nil] at g5
  have gp : Gh ⟨(bxE rd (.pointer (some (Addr.mk s.r 0 none))) :: (boL s ++ C)) ++ [obE ⟨W.heap.size, false, ⟨none, 0, 0⟩, ⟨none, [], 0⟩, []⟩] ++ [shE W.heap.size 54 2] ++ [⟨none, [], 0⟩], ro⟩ ⟨dL rd s ⟨W.heap.size, false, ⟨none, 0, 0⟩, ⟨none, [], 0⟩, []⟩ C, ro⟩ := by
    refine Gh.perm ?_
    simp only [dL, List.cons_append, List.append_assoc]
    refine .cons _ (List.Perm.append_left _ ?_)
    exact List.perm_append_comm (l₁ := obL ⟨W.heap.size, false, ⟨none, 0, 0⟩, ⟨none, [], 0⟩, []⟩) (l₂ := C)
  have g6 := g5.trans gp
  have hh2 := g6.holds _ n3
  have hf2 := (hfr.trans n2).trans (n4.trans (g6.fr _))
  have hsz : W.heap.size < (W.alloc (.cells #[.pointer none, .slice none 0 0] 54)).heap.size := by simp
  clear n1 n2 n3 n4 g5 gp g6 hh hfr
  generalize hQ : bodyPostM Fence.wide 0 Tryz.prog Tryz.f20 (semEnd h0 w post) = Qf
  simp only [r7_20, r8_20, seqL, restOf, bodyOf, Tryz.f20, Option.getD_some]
  have hLn := (callsIn_wide (n := 0)).2 (lines_c (s := bs t0) (own := dL rd s ⟨W.heap.size, false, ⟨none, 0, 0⟩, ⟨none, [], 0⟩, []⟩ C) (ro := ro)
    (post := fun v h => ∃ rb, v = .func (.func 50) #[] #[.pointer (some (Addr.mk rb 0 none))] ∧ h = (⟨dL rd s ⟨W.heap.size, false, ⟨none, 0, 0⟩, ⟨none, [], 0⟩, []⟩ C ++ [bxE rb (.string (bs t0))], ro⟩ : H)) (fun r => ⟨r, rfl, rfl⟩) _ hh2)
  gi_wp2_with (refine ⟨trivial, rfl, ?_⟩; gi_at_call 28; refine hLn.mono ?_; rintro e w3 ⟨v, h', rfl, hh3, hf3, rb, rfl, rfl⟩; refine Hid.out ?_)
  refine Lib.hid ?_
  have gp : Gh ⟨dL rd s ⟨W.heap.size, false, ⟨none, 0, 0⟩, ⟨none, [], 0⟩, []⟩ C ++ [bxE rb (.string (bs t0))], ro⟩ ⟨bxE rb (.string (bs t0)) :: dL rd s ⟨W.heap.size, false, ⟨none, 0, 0⟩, ⟨none, [], 0⟩, []⟩ C, ro⟩ := Gh.perm (List.perm_append_comm (l₁ := [bxE rb (.string (bs t0))]) (l₂ := dL rd s ⟨W.heap.size, false, ⟨none, 0, 0⟩, ⟨none, [], 0⟩, []⟩ C))
  have hh4 := gp.holds _ hh3
  have hf4 := (hf2.trans hf3).trans (gp.fr _)
  clear hh3 hf3 gp hLn hh2 hf2 hsz
  generalize W.heap.size = r6 at hh4 hf4 ⊢
  gi_wp2
  refine range_lines (p := 25) (Bs := rb) (t0 := t0) (wb := w) (hb := h0) rfl (I20 rd r6 C ro t0) X20 (fun t own ro' h => Nat.le_trans h.len (by decide)) ⟨ht, ⟨s, x0, ⟨r6, false, ⟨none, 0, 0⟩, ⟨none, [], 0⟩, []⟩, rfl, rfl, hb, x0_DI, BufE.nil, rfl, by show 0 + 21 * t0.length ≤ 63000; omega⟩, fun _ _ h => h⟩ hh4 hf4
    (fun line => { tmps := #[.string (bs t0), f 1, f 2, f 3, f 4, .pointer (some (Addr.mk rd 0 none)), .pointer (some (Addr.mk r6 0 none)), .string (bs line), f 8, f 9, f 10, f 11, f 12, f 13, f 14, f 15, f 16, f 17, f 18, f 19, f 20, f 21, f 22, .string (bs t0), .func (.func 50) #[] #[.pointer (some (Addr.mk rb 0 none))], .string (bs line), f 26, f 27, f 28, f 29, f 30, f 31], defers := [] }) ?_ ?_ ?_ ?_
  · intro l line W' K hK
    simp only [assign20, rfA, blkB, seqL, seqR, restOf, bodyOf, Tryz.f20, Option.getD_some]
    gi_wp2_with (rw [Oper.semAt_some _ _ _ (fun c h => by cases h)]; go_simp; try go_bits)
    exact hK
  · intro l t own ro' W' hne hi hw'
    exact body20_c l hT hG hTab hN hM hne hi hw' _ rfl
  · rintro own ro' W' D ⟨hlen, ⟨s', x', o', rfl, hr', hb', hDI', hbuf', hse, hol⟩, hm⟩ hw' hf' hD hwD hne
    rw [dsess_nil, List.append_nil] at hse
    have := tail20_c (f := f) (t0 := t0) (rest := []) hr' hbuf' hw' hf' hD hwD hne (by rw [← hse]; exact hS ro' hm)
    rw [hQ, hc20] at this
    gi_wp2
    exact this
  · intro c rest own ro' W' D hX
    exact hX.elim
set_option maxHeartbeats 1000000 in
theorem drun_c {t : List UInt8} {own : List Ent} {ro : Addr → Option Value} {post : Value → H → Prop} {T : Nat} (hT : shE 4 T 20 ∈ own) (hG : HasErrT ro) (hTab : HasTab ro) (hN : HasNum ro) (hM : HasMax ro)
    (hk : ∀ ro', (∀ a v, ro a = some v → ro' a = some v) → post (.string (bs (drun t))) ⟨own, ro'⟩) :
    SemCall Tryz.prog 20 (List.toArray [.string (bs t)]) ⟨own, ro⟩ post := by
  refine p20_call (bs t) (fun t' a5 h => t' = bs t ∧ t.length ≤ 3000 ∧ ∃ rd s ro', a5 = Addr.mk rd 0 none ∧ (∀ a v, ro a = some v → ro' a = some v) ∧ BOO s x0 ro' ∧ h = (⟨bxE rd (.pointer (some (Addr.mk s.r 0 none))) :: (boL s ++ own), ro'⟩ : H)) _ post ?_ ?_
  · unfold p20_sem
    rw [bs_size]
    refine VIf_dec (fun h => ret ?_) (fun h => ?_)
    · have := hk ro (fun _ _ h => h)
      unfold drun at this
      rw [if_pos (by omega)] at this
      exact this
    refine dfirst_c (fun sf sc sh ro1 m1 hb1 => ⟨sf, sc, sh, rfl, ?_⟩)
    refine new_c (hb1.mono (by simp) (fun _ _ h => h)) (fun hc => absurd (bcheck_zero.2 bk0_ok) hc) (fun _ hr => absurd hr (by rw [bk0_row]; simp)) (fun _ _ s ro2 m2 hB => ⟨some (Addr.mk s.r 0 none), none, rfl, VIf_nnil ?_⟩)
    intro r13 _
    refine ⟨rfl, rfl, wr_bx (A := own ++ boL s) (v := .pointer none) (C := []) rfl rfl ?_⟩
    refine ⟨⟨bxE r13 (.pointer (some (Addr.mk s.r 0 none))) :: (boL s ++ own), ro2⟩, Gh.perm ?_, rfl, by omega, r13, s, ro2, rfl, fun a v h => m2 a v (m1 a v h), hB, rfl⟩
    have p1 : (boL s ++ own).Perm (own ++ boL s) := List.perm_append_comm
    exact (List.Perm.cons _ p1).trans (List.perm_append_comm (l₁ := [bxE r13 (.pointer (some (Addr.mk s.r 0 none)))]) (l₂ := own ++ boL s))
  · intro w f h2 a w2 hw hi hap
    obtain ⟨xt, ht1, hap⟩ := Kd.elim_spec _ _ _ hap
    obtain ⟨a5, hs5, hap⟩ := Kd.elim_spec _ _ _ hap
    obtain ⟨h3, g3, rfl, hlen, rd, s, ro', rfl, m, hB, rfl⟩ := hap
    have hi := hi.gh g3
    refine mid20 (C := own) hT (hG.up m) (hTab.up m) (hN.up m) (hM.up m) hB hlen hi ht1 hs5 (fun ro2 m2 => ?_)
    have := hk ro2 (fun a v h => m2 a v (m a v h))
    unfold drun at this
    rw [if_neg (by omega)] at this
    exact this
end Go.Proofs.YtnppmcgmmdcpiaaGreatDoor
